/- RealOrder holds: for all bits a, b, c the law returns true and leaves its arguments alone, where the listed package-level variables hold what the program's own text lays. -/
import Derived.Test.YtfgiejfjnhgcaaaGreatDoorCards
import Derived.Test.YtfgiejfjnhgcaaaGreatDoorTie
import Derived.Test.YtfgiejfjnhgcaaaGreatDoorChecked
import Derived.Test.YtfgiejfjnhgcaaaGreatDoorTabs
import Derived.Test.YtfgiejfjnhgcaaaGreatDoorRealOrderWalk
import Derived.WalkKit
import Derived.ProofKit
import Derived.Lay
import Derived.SevenTiedAt
namespace Go.Proofs.YtfgiejfjnhgcaaaGreatDoor.lawRealOrder
open Go Go.ChangeShapes Go.WideShapes Go.ChangeAt Go.RowKit SolF

theorem u64_nat {x : Int} (h : (Lit.int .u64 x).wf = true) : ∃ n : Nat, x = (n : Int) ∧ n < 18446744073709551616 := by
  have hx : 0 ≤ x ∧ x ≤ 18446744073709551615 := by simpa [Lit.wf, IntKind.min, IntKind.max, IntKind.signed, IntKind.bits] using h
  exact ⟨x.toNat, by omega, by omega⟩

theorem law (a b c : Nat) (w : World) (T : Tabs w) (ha : a < 18446744073709551616) (hb : b < 18446744073709551616) :
    Calls Tryz.prog 3 #[.int .u64 (a : Int), .int .u64 (b : Int), .int .u64 (c : Int)] w fun e w' => e = .returned (.bool true) ∧ Below w.heap.size w w' := by
  refine order_walk a b c w T ha hb (flt a b) (flt b a) (feq a b) (fle b c) (fle a c) (isAt_lt a b _ rfl) (isAt_lt b a _ rfl) (isAt_eq a b _ rfl) (isAt_le a b _ (fle_eq a b)) (isAt_lt _ _ _ (flt_neg ha hb)) (isAt_le b c _ rfl) (isAt_le a c _ rfl) ?_ ?_
  · rw [← fle_eq]
    cases h1 : fle a b
    · rfl
    cases h2 : fle b c
    · rfl
    rw [fle_trans h1 h2]; rfl
  · have h3 := three a b
    have e1 : ∀ v : Nat, ((v : Int) != 9221120237041090560) = decide (v ≠ qnan) := by
      intro v
      rw [Bool.eq_iff_iff, bne_iff_ne, decide_eq_true_eq]
      unfold qnan
      omega
    rw [e1, e1]
    by_cases hc : canon a ≠ qnan ∧ canon b ≠ qnan
    · rw [if_pos hc] at h3
      refine .inl ⟨decide_eq_true hc.1, decide_eq_true hc.2, ?_⟩
      revert h3
      cases flt a b <;> cases flt b a <;> cases feq a b <;> decide
    · rw [if_neg hc] at h3
      refine .inr ⟨?_, ?_⟩
      · by_cases h : canon a ≠ qnan
        · exact .inr ⟨decide_eq_true h, decide_eq_false (fun h' => hc ⟨h, h'⟩)⟩
        · exact .inl (decide_eq_false h)
      · revert h3
        cases flt a b <;> cases flt b a <;> cases feq a b <;> decide

theorem own : ownKnob Tryz.prog.godebug = none := by kernel_rfl
theorem tabs {W : World} (hL : laidMetH Tryz.prog Rows.realOrderRow.laid W) : Tabs W := by
  rw [MakeChecks.laidMetH_plain _ _ _ (by kernel_rfl)] at hL
  exact tabs_of_laid hL (by simp [Rows.realOrderRow]) (by simp [Rows.realOrderRow])

set_option maxRecDepth 100000 in
theorem lifted (os : Os) (started : os.Started) (H : Type) (enc : TypeId × Value → H) :
    ReturnsInHanded {} Tryz.checked os 3 .any (fun w args => (Rows.realOrderSpec.pre enc Tryz.prog Tryz.f3 [] false w args ∧ laidMetH Tryz.prog Rows.realOrderRow.laid w) ∧ sizedMet enc Tryz.prog Tryz.f3 (OpenSpec.ofChange Rows.realOrderSpec) false w args)
      (Rows.realOrderSpec.post enc Tryz.prog Tryz.f3 false true false false) := by
  refine returnsInHanded_of_change_and (C := Tryz.checked) (X := fun w _ => laidMetH Tryz.prog Rows.realOrderRow.laid w) (fun _ _ _ hh h => h.of_heap hh) own started (by kernel_rfl) Tryz.func3
    (ChangeSpec.witness_shaped (enc := enc) (C := Tryz.checked) (os := os) (X := fun w _ => laidMetH Tryz.prog Rows.realOrderRow.laid w) false (World.laidAll Tryz.prog os Rows.realOrderRow.laid) #[.int .u64 0, .int .u64 0, .int .u64 0] 8 (World.laidAll_os _ _ _)
      (World.shaped_of_ZipB (by kernel_rfl) (by kernel_rfl)) (by kernel_rfl) (by kernel_rfl) (by kernel_rfl)
      (by rw [MakeChecks.laidMetH_plain _ _ _ (by kernel_rfl)]; exact laidMet_laidAll _ (by kernel_rfl) (by kernel_rfl))) ?_
  intro W base args ds gs before hval0 hW _ _ hL _
  have hval : ∀ (j : Nat) t v, Tryz.f3.params[j]? = some t → args[j]? = some v → Value.okWide Tryz.prog W .any base t v := hval0
  have hW' := hW
  obtain ⟨p, q, hA0, hV, rfl, _, _⟩ := hW
  have hA : DataW.TrodAll enc Tryz.prog W 0 (fun _ => true) true Tryz.f3.params.toList args.toList ds p := hA0
  rw [Tryz.params3] at hA hval
  obtain ⟨v0, v1, v2, d0, d1, d2, p0, p1, p2, rfl, rfl, rfl, h0, h1, h2⟩ := trodAll_three hA
  obtain ⟨rfl, rfl⟩ := trodVars_none hV
  obtain ⟨x0, rfl, rfl, rfl, wx0⟩ := open_int Tryz.underlying22 (hval 0 22 v0 rfl rfl) h0
  obtain ⟨x1, rfl, rfl, rfl, wx1⟩ := open_int Tryz.underlying22 (hval 1 22 v1 rfl rfl) h1
  obtain ⟨x2, rfl, rfl, rfl, wx2⟩ := open_int Tryz.underlying22 (hval 2 22 v2 rfl rfl) h2
  simp only [List.append_nil] at hW'
  obtain ⟨n0, rfl, g0⟩ := u64_nat wx0
  obtain ⟨n1, rfl, g1⟩ := u64_nat wx1
  obtain ⟨n2, rfl, g2⟩ := u64_nat wx2
  refine (law n0 n1 n2 W (tabs hL) g0 g1).mono fun e W' ⟨he, hb⟩ => ?_
  subst he
  exact ⟨_, rfl, _, _, _, [], [], [], hW', trodAll_mk1 (shut_bool Tryz.underlying4 _), trodAll_mk3 (shut_int Tryz.underlying22 wx0) (shut_int Tryz.underlying22 wx1) (shut_int Tryz.underlying22 wx2), rfl, hb.frame _, fun h => by cases h⟩

theorem said : Rows.RealOrderSaid :=
  OpenClaim.holds_of_wide 3 Tryz.f3 rfl rfl rfl rfl rfl rfl rfl ⟨rfl, rfl, rfl, rfl, rfl⟩ rfl rfl rfl rfl rfl (by kernel_rfl) Tryz.func3 (by kernel_rfl)
    (of_decide_eq_true (by kernel_rfl)) (by unfold Func.isWrapper; first | (rw [if_pos (by decide +kernel)]; kernel_rfl) | (rw [if_neg (by decide +kernel)]; exact ⟨rfl, rfl⟩))
    (fun os started H enc _ => lifted os started H enc)

theorem plain (f : FuncId) (fn : Func) (hf : Tryz.pinned.checked.prog.funcNamed "solder/solderlaw02.RealOrder" = some f) (hfn : Tryz.pinned.checked.prog.funcs[f]? = some fn) :
    true = Tryz.pinned.checked.prog.looks [] ∧ ∀ (j : Nat) t, fn.params[j]? = some t → Tryz.pinned.checked.prog.wantsStandIn t = false := by
  obtain rfl : f = 3 := Option.some.inj ((show Tryz.prog.funcNamed "solder/solderlaw02.RealOrder" = some 3 by kernel_rfl).symm.trans hf) |>.symm
  obtain rfl : fn = Tryz.f3 := (Option.some.inj (Tryz.func3.symm.trans hfn)).symm
  refine ⟨by kernel_rfl, fun j t ht => ?_⟩
  rw [Tryz.params3] at ht
  have hm : t ∈ [22, 22, 22] := by simpa using Array.mem_of_getElem? ht
  have hall : ([22, 22, 22].all fun u => !Tryz.prog.wantsStandIn u) = true := by kernel_rfl
  exact (show Tryz.prog.wantsStandIn t = false by simpa using List.all_eq_true.1 hall t hm)

theorem card : Rows.RealOrderCardSaid :=
  Claim7.holds_tied_plain_at .later [] _ _ _ _ said (fun _ h => by cases h) (by kernel_rfl) (fun _ h => by cases h) realOrder_row_tie rfl ⟨rfl, rfl⟩ (by kernel_rfl) rfl plain (by kernel_rfl)
end Go.Proofs.YtfgiejfjnhgcaaaGreatDoor.lawRealOrder
