/- The fixed fact of the statements of layer 2: the document's examples. -/
import Derived.Test.YtfgiejfjnhgcaaaGreatDoorParse
import Derived.Test.YtfgiejfjnhgcaaaGreatDoorToInt
namespace Go.Proofs.YtfgiejfjnhgcaaaGreatDoor
open Go Go.RowKit SolF

theorem lt_of_cell {w : World} {b o : Nat} {v : Value} (h : w.cell? ⟨b, o, none⟩ = some v) : b < w.heap.size := by
  rcases Nat.lt_or_ge b w.heap.size with hb | hb
  · exact hb
  · unfold World.cell? at h
    rw [Array.getElem?_eq_none hb] at h
    cases h

theorem Tabs.below {w w' : World} (T : Tabs w) (h : Below w.heap.size w w') : Tabs w' :=
  ⟨(h.cell (p := ⟨_, _, none⟩) (lt_of_cell T.opt)).trans T.opt, (h.cell (p := ⟨_, _, none⟩) (lt_of_cell T.mb)).trans T.mb⟩
theorem Tabs.drewN {w : World} (T : Tabs w) (n : Nat) : Tabs (w.drewN n) := ⟨T.opt, T.mb⟩

/-- a text whose digits are a small whole number with no exponent left -/
theorem parse_whole (s : ByteArray) (w : World) (p m : Nat) (E : Int) (d : Nat) (H : Mant s p m) (HT : Told s m E) (T : Tabs w) (hm : (rsAt s m).mant = d) (h0 : d ≠ 0) (ht : (rsAt s m).trunc = false) (hx : (rsAt s m).dp + E - (rsAt s m).ndm = 0)
    (hd : d < 4503599627370496) (hF : formL s.data.toList = true) :
    Calls Tryz.prog 28 #[.string s] w fun e w' => e = .returned (.tuple #[.int .u64 (canon (ofNat d) : Nat), .int .i64 0]) ∧ Below w.heap.size w w' := by
  refine (parse_any s w (canon (ofNat d)) (by have := H.hs; omega) (fun _ w1 hb => ?_)).mono fun e w' h => ?_
  · have T1 := T.below hb
    subst hm
    refine (public_of_inner s w1 (fun a b => a = b) (ofNat (rsAt s m).mant) (parse_of_atof s w1 (fun a b => a = b) _ _ (atof64_exact s w1 p m E _ H HT T1 h0 ht (by omega) (by omega) (fun w2 T2 => ?_)))).mono ?_
    · rw [hx]; exact exact_zero _ w2 hd T2
    · rintro e w' ⟨rfl, rfl⟩
      exact ⟨_, _, rfl, rfl, Below.refl _ _⟩
  · obtain ⟨he, hb⟩ := h
    rw [hF] at he
    exact ⟨he, hb⟩

def text15 : ByteArray := ⟨#[49, 46, 53, 101, 49]⟩
theorem mant15 : Mant text15 1 3 := ⟨by decide, by decide, by decide, by decide, by decide, by decide⟩
theorem told15 : Told text15 3 1 := .inr ⟨4, 1, ⟨by decide, by decide, by decide, .inl ⟨by decide, rfl⟩, fun j h1 h2 => by
  obtain rfl : j = 4 := by have : text15.size = 5 := rfl; omega
  decide⟩, by decide⟩
theorem parse15 (w : World) (T : Tabs w) : Calls Tryz.prog 28 #[.string ⟨#[49, 46, 53, 101, 49]⟩] w fun e w' => e = .returned (.tuple #[.int .u64 4624633867356078080, .int .i64 0]) ∧ Below w.heap.size w w' := by
  refine (parse_whole text15 w 1 3 1 15 mant15 told15 T (by decide) (by decide) (by decide) (by decide) (by decide) (by decide)).mono fun e w' h => ?_
  exact ⟨h.1.trans (by rw [show canon (ofNat 15) = 4624633867356078080 from by decide]; rfl), h.2⟩

theorem div00 : fdiv 0 0 = qnan := by decide
theorem low_inf : (rd 18442240474082181120).isNaN = false := by decide
theorem trunc_inf : truncB 18442240474082181120 = 18442240474082181120 := by decide
theorem gt_inf : (FloatKind.f64.format.order 18442240474082181120 4746794007244308480 == some Ordering.gt) = false := by decide
theorem lt_inf : (FloatKind.f64.format.order 18442240474082181120 13970166044103278592 == some Ordering.lt) = true := by decide

theorem div_any (w : World) : Calls Tryz.prog 37 #[.int .i64 48, .int .u64 0, .int .u64 0] w fun e w' => e = .returned (.tuple #[.int .u64 9221120237041090560, .int .i64 0]) ∧ Drawn w w' :=
  (do_div 0 0 w).mono fun e w' h => ⟨h.1.trans (by rw [div00]; rfl), h.2⟩
theorem int_any (w : World) : Calls Tryz.prog 23 #[.int .u64 18442240474082181120] w fun e w' => e = .returned (.int .u32 2147483648) ∧ w = w' :=
  toInt_low 18442240474082181120 w low_inf (by rw [trunc_inf]; exact gt_inf) (by rw [trunc_inf]; exact lt_inf)

set_option maxRecDepth 100000 in
theorem awake02 (w : World) (T : Tabs w) : Calls Tryz.prog 15 #[] w fun e w' => e = .returned (.bool true) ∧ Below w.heap.size w w' := by
  go_enter Tryz.func15, Tryz.ntmps15
  go_wp2_with fail
  refine (parse15 _ T).mono ?_
  rintro e w1 ⟨rfl, hB⟩
  go_wp2_with fail
  refine (div_any _).mono ?_
  rintro e w2 ⟨rfl, n, rfl⟩
  go_wp2_with fail
  refine (int_any _).mono ?_
  rintro e w' ⟨rfl, rfl⟩
  go_wp2
  go_ret
  exact ⟨rfl, hB.trans ⟨rfl, rfl, rfl, Nat.le_refl _, fun _ _ => rfl⟩⟩
end Go.Proofs.YtfgiejfjnhgcaaaGreatDoor
