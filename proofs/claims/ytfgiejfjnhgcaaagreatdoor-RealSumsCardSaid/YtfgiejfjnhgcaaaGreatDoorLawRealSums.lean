/- RealSums holds: for all bits a, b and all pairs of words n the law returns true and leaves its arguments alone, where the listed package-level variables hold what the program's own text lays. -/
import Derived.Test.YtfgiejfjnhgcaaaGreatDoorCards
import Derived.Test.YtfgiejfjnhgcaaaGreatDoorTie
import Derived.Test.YtfgiejfjnhgcaaaGreatDoorChecked
import Derived.Test.YtfgiejfjnhgcaaaGreatDoorTabs
import Derived.Test.YtfgiejfjnhgcaaaGreatDoorRealSumsWalk
import Derived.Test.YtfgiejfjnhgcaaaGreatDoorPair
import Derived.WalkKit
import Derived.ProofKit
import Derived.OpenShut
import Derived.Lib.SmallJoins
import Derived.Carry
import Derived.Lay
import Derived.SevenTiedAt
namespace Go.Proofs.YtfgiejfjnhgcaaaGreatDoor.lawRealSums
open Go Go.ChangeShapes Go.WideShapes Go.ChangeAt Go.RowKit SolF

theorem u64_nat {x : Int} (h : (Lit.int .u64 x).wf = true) : ∃ n : Nat, x = (n : Int) ∧ n < 18446744073709551616 := by
  have hx : 0 ≤ x ∧ x ≤ 18446744073709551615 := by simpa [Lit.wf, IntKind.min, IntKind.max, IntKind.signed, IntKind.bits] using h
  exact ⟨x.toNat, by omega, by omega⟩

theorem u32_nat {x : Int} (h : (Lit.int .u32 x).wf = true) : ∃ n : Nat, x = (n : Int) ∧ n < 4294967296 := by
  have hx : 0 ≤ x ∧ x ≤ 4294967295 := by simpa [Lit.wf, IntKind.min, IntKind.max, IntKind.signed, IntKind.bits] using h
  exact ⟨x.toNat, by omega, by omega⟩

theorem law (a b v u : Nat) (w : World) (T : Tabs w) (ha : a < 18446744073709551616) (hb : b < 18446744073709551616) (hv : v < 4294967296) (hu : u < 4294967296) :
    Calls Tryz.prog 4 #[.int .u64 (a : Int), .int .u64 (b : Int), .agg #[.int .u32 (v : Int), .int .u32 (u : Int)]] w fun e w' => e = .returned (.bool true) ∧ Below w.heap.size w w' := by
  have hv' : v % 1048576 < 1048576 := Nat.mod_lt _ (by decide)
  have hu' : u % 1048576 < 1048576 := Nat.mod_lt _ (by decide)
  have hm : fmul a b < 18446744073709551616 := by
    unfold fmul bitsOf
    split
    · rename_i r hr
      refine canon_lt ?_
      unfold Ieee.Format.mul at hr
      rw [Option.map_eq_some_iff] at hr
      obtain ⟨d, hd, rfl⟩ := hr
      exact write_lt _ (product_num _ _ _ hd)
    · decide
  refine sums_walk a b v u w T hv hu (neg b) (neg a) (fadd a b) (fmul a b) (fsub a b) (neg (fmul a b)) (ofNat (v % 1048576)) (ofNat (u % 1048576)) (ofNat (v % 1048576 + u % 1048576)) (decide (v % 1048576 < u % 1048576))
    (doAt_add _ _ _ rfl) (doAt_add _ _ _ (fadd_comm b a)) (doAt_mul _ _ _ rfl) (doAt_mul _ _ _ (fmul_comm b a)) (doAt_sub _ _ _ rfl) (negAt _ _ hb rfl) (doAt_add _ _ _ (fsub_eq hb).symm) (negAt _ _ ha rfl) (doAt_mul _ _ _ (fmul_neg ha)) (negAt _ _ hm rfl)
    (fun w => ofInt_small _ w (by omega)) (fun w => ofInt_small _ w (by omega)) (fun w => ofInt_small _ w (by omega)) (doAt_add _ _ _ (fadd_whole _ _ (by omega) (by omega))) (isAt_lt _ _ _ (flt_whole _ _ (by omega) (by omega))) ?_
  rw [decide_eq_decide]
  omega

theorem own : ownKnob Tryz.prog.godebug = none := by kernel_rfl
theorem tabs {W : World} (hL : laidMetH Tryz.prog Rows.realSumsRow.laid W) : Tabs W := by
  rw [MakeChecks.laidMetH_plain _ _ _ (by kernel_rfl)] at hL
  exact tabs_of_laid hL (by simp [Rows.realSumsRow]) (by simp [Rows.realSumsRow])

set_option maxRecDepth 100000 in
theorem lifted (os : Os) (started : os.Started) (H : Type) (enc : TypeId × Value → H) :
    ReturnsInHanded {} Tryz.checked os 4 .any (fun w args => (Rows.realSumsSpec.pre enc Tryz.prog Tryz.f4 [] false w args ∧ laidMetH Tryz.prog Rows.realSumsRow.laid w) ∧ sizedMet enc Tryz.prog Tryz.f4 (OpenSpec.ofChange Rows.realSumsSpec) false w args)
      (Rows.realSumsSpec.post enc Tryz.prog Tryz.f4 false true false false) := by
  refine returnsInHanded_of_change_and (C := Tryz.checked) (X := fun w _ => laidMetH Tryz.prog Rows.realSumsRow.laid w) (fun _ _ _ hh h => h.of_heap hh) own started (by kernel_rfl) Tryz.func4
    (ChangeSpec.witness_shaped (enc := enc) (C := Tryz.checked) (os := os) (X := fun w _ => laidMetH Tryz.prog Rows.realSumsRow.laid w) false (World.laidAll Tryz.prog os Rows.realSumsRow.laid) #[.int .u64 0, .int .u64 0, .agg #[.int .u32 0, .int .u32 0]] 8 (World.laidAll_os _ _ _)
      (World.shaped_of_ZipB (by kernel_rfl) (by kernel_rfl)) (by kernel_rfl) (by kernel_rfl) (by kernel_rfl)
      (by rw [MakeChecks.laidMetH_plain _ _ _ (by kernel_rfl)]; exact laidMet_laidAll _ (by kernel_rfl) (by kernel_rfl))) ?_
  intro W base args ds gs before hval0 hW _ _ hL _
  have hval : ∀ (j : Nat) t v, Tryz.f4.params[j]? = some t → args[j]? = some v → Value.okWide Tryz.prog W .any base t v := hval0
  have hW' := hW
  obtain ⟨p, q, hA0, hV, rfl, _, _⟩ := hW
  have hA : DataW.TrodAll enc Tryz.prog W 0 (fun _ => true) true Tryz.f4.params.toList args.toList ds p := hA0
  rw [Tryz.params4] at hA hval
  obtain ⟨v0, v1, v2, d0, d1, d2, p0, p1, p2, rfl, rfl, rfl, h0, h1, h2⟩ := trodAll_three hA
  obtain ⟨rfl, rfl⟩ := trodVars_none hV
  obtain ⟨x0, rfl, rfl, rfl, wx0⟩ := open_int Tryz.underlying22 (hval 0 22 v0 rfl rfl) h0
  obtain ⟨x1, rfl, rfl, rfl, wx1⟩ := open_int Tryz.underlying22 (hval 1 22 v1 rfl rfl) h1
  obtain ⟨z0, z1, rfl, rfl, rfl, wz0, wz1⟩ := open_pair (hval 2 29 v2 rfl rfl) h2
  simp only [List.append_nil] at hW'
  obtain ⟨n0, rfl, g0⟩ := u64_nat wx0
  obtain ⟨n1, rfl, g1⟩ := u64_nat wx1
  obtain ⟨m0, rfl, k0⟩ := u32_nat wz0
  obtain ⟨m1, rfl, k1⟩ := u32_nat wz1
  refine (law n0 n1 m0 m1 W (tabs hL) g0 g1 k0 k1).mono fun e W' ⟨he, hb⟩ => ?_
  subst he
  exact ⟨_, rfl, _, _, _, [], [], [], hW', trodAll_mk1 (shut_bool Tryz.underlying4 _), trodAll_mk3 (shut_int Tryz.underlying22 wx0) (shut_int Tryz.underlying22 wx1) (Below.trod laidOut (by kernel_rfl) (of_decide_eq_true (by kernel_rfl)) h2 hb (fun _ h => by cases h)), rfl, hb.frame _, fun h => by cases h⟩

theorem said : Rows.RealSumsSaid :=
  OpenClaim.holds_of_wide 4 Tryz.f4 rfl rfl rfl rfl rfl rfl rfl ⟨rfl, rfl, rfl, rfl, rfl⟩ rfl rfl rfl rfl rfl (by kernel_rfl) Tryz.func4 (by kernel_rfl)
    (of_decide_eq_true (by kernel_rfl)) (by unfold Func.isWrapper; first | (rw [if_pos (by decide +kernel)]; kernel_rfl) | (rw [if_neg (by decide +kernel)]; exact ⟨rfl, rfl⟩))
    (fun os started H enc _ => lifted os started H enc)

theorem plain (f : FuncId) (fn : Func) (hf : Tryz.pinned.checked.prog.funcNamed "solder/solderlaw02.RealSums" = some f) (hfn : Tryz.pinned.checked.prog.funcs[f]? = some fn) :
    true = Tryz.pinned.checked.prog.looks [] ∧ ∀ (j : Nat) t, fn.params[j]? = some t → Tryz.pinned.checked.prog.wantsStandIn t = false := by
  obtain rfl : f = 4 := Option.some.inj ((show Tryz.prog.funcNamed "solder/solderlaw02.RealSums" = some 4 by kernel_rfl).symm.trans hf) |>.symm
  obtain rfl : fn = Tryz.f4 := (Option.some.inj (Tryz.func4.symm.trans hfn)).symm
  refine ⟨by kernel_rfl, fun j t ht => ?_⟩
  rw [Tryz.params4] at ht
  have hm : t ∈ [22, 22, 29] := by simpa using Array.mem_of_getElem? ht
  have hall : ([22, 22, 29].all fun u => !Tryz.prog.wantsStandIn u) = true := by kernel_rfl
  exact (show Tryz.prog.wantsStandIn t = false by simpa using List.all_eq_true.1 hall t hm)

theorem card : Rows.RealSumsCardSaid :=
  Claim7.holds_tied_plain_at .later [] _ _ _ _ said (fun _ h => by cases h) (by kernel_rfl) (fun _ h => by cases h) realSums_row_tie rfl ⟨rfl, rfl⟩ (by kernel_rfl) rfl plain (by kernel_rfl)
end Go.Proofs.YtfgiejfjnhgcaaaGreatDoor.lawRealSums
