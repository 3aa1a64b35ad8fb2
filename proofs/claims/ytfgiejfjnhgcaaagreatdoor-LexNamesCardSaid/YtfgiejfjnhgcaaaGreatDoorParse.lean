/- The walk of real.Parse: which texts are real's, by a plain function of the bytes; and what it hands on of strconv.ParseFloat. -/
import Derived.Test.YtfgiejfjnhgcaaaGreatDoorShelf
import Derived.Test.YtfgiejfjnhgcaaaGreatDoorAtof
import Derived.Test.YtfgiejfjnhgcaaaGreatDoorRealOps
import Derived.Deep.DeepCutAuto
import Derived.Deep.CutBlock
namespace Go.Proofs.YtfgiejfjnhgcaaaGreatDoor
open Go Go.RowKit SolF Go.Shelf

/-- the digits, as TrimLeft is given them -/
def cuts : List UInt8 := [48, 49, 50, 51, 52, 53, 54, 55, 56, 57]
def dropD (l : List UInt8) : List UInt8 := l.dropWhile (cuts.contains ·)

theorem bytes_eq (s : ByteArray) (l : List UInt8) (h : s.data.toList = l) : s = ⟨l.toArray⟩ := by
  cases s; subst h; simp

theorem digits_any (s : ByteArray) (w : World) :
    Calls Tryz.prog 55 #[.string s] w fun e w' => e = .returned (.tuple #[.string ⟨(dropD s.data.toList).toArray⟩, .bool (decide ((dropD s.data.toList).length < s.size))]) ∧ Below w.heap.size w w' := by
  have hcon := Any.strings_TrimLeft_laid Tryz.lays161 (by kernel_rfl) s ⟨#[48, 49, 50, 51, 52, 53, 54, 55, 56, 57]⟩ w (by decide) (ascii_of_all (by decide))
  change Calls Tryz.prog 82 _ _ (fun e w' => e = .returned (.string ⟨(dropD s.data.toList).toArray⟩) ∧ Below w.heap.size w w') at hcon
  have HC := Lib.hid hcon
  clear hcon
  generalize dropD s.data.toList = r at *
  go_enter Tryz.func55, Tryz.ntmps55
  go_wp2_with fail
  refine HC.out.mono ?_
  rintro e w' ⟨rfl, hB⟩
  go_wp2
  go_ret2
  exact ⟨rfl, hB⟩

/-- is a byte a sign? -/
def isSg (c : UInt8) : Bool := c == 43 || c == 45
/-- behind the e: without its sign -/
def unsg (l : List UInt8) : List UInt8 := match l with
  | [] => []
  | c :: r => if isSg c then r else c :: r

/-- is it a real's text? -/
def formL (l : List UInt8) : Bool :=
  (decide ((dropD l).length < l.length) && Lib.hasPrefix (dropD l) [46] && decide ((dropD (Lib.trimPrefix (dropD l) [46])).length < (Lib.trimPrefix (dropD l) [46]).length) && decide (l.length ≤ 40)) &&
    (if Lib.hasPrefix (dropD (Lib.trimPrefix (dropD l) [46])) [101] then
        decide ((dropD (unsg (Lib.trimPrefix (dropD (Lib.trimPrefix (dropD l) [46])) [101]))).length < (unsg (Lib.trimPrefix (dropD (Lib.trimPrefix (dropD l) [46])) [101])).length) &&
          (dropD (unsg (Lib.trimPrefix (dropD (Lib.trimPrefix (dropD l) [46])) [101]))).isEmpty
      else (dropD (Lib.trimPrefix (dropD l) [46])).isEmpty)

theorem sg_cases (c : UInt8) : (((c.toNat : Int) == 43) = true ∧ isSg c = true) ∨ (((c.toNat : Int) == 43) = false ∧ ((c.toNat : Int) == 45) = true ∧ isSg c = true) ∨ (((c.toNat : Int) == 43) = false ∧ ((c.toNat : Int) == 45) = false ∧ isSg c = false) := by
  by_cases h1 : c = 43
  · subst h1; exact .inl ⟨rfl, rfl⟩
  have n1 : c.toNat ≠ 43 := fun h => h1 (UInt8.toNat_inj.1 (by rw [h]; rfl))
  by_cases h2 : c = 45
  · subst h2; exact .inr (.inl ⟨rfl, rfl, rfl⟩)
  have n2 : c.toNat ≠ 45 := fun h => h2 (UInt8.toNat_inj.1 (by rw [h]; rfl))
  exact .inr (.inr ⟨beq_eq_false_iff_ne.2 (by omega), beq_eq_false_iff_ne.2 (by omega), by simp [isSg, h1, h2]⟩)
theorem size_list (t : ByteArray) : t.size = t.data.toList.length := by simp

theorem digits_ex (s : ByteArray) (w : World) :
    Calls Tryz.prog 55 #[.string s] w fun e w' => ∃ t b, e = .returned (.tuple #[.string t, .bool b]) ∧ Hid (t.data.toList = dropD s.data.toList ∧ b = decide (t.data.toList.length < s.data.toList.length)) ∧ Below w.heap.size w w' :=
  (digits_any s w).mono fun _ _ h => ⟨_, _, h.1, ⟨rfl, by rw [← size_list s]⟩, h.2⟩
theorem formL_noe {l t1 t2 t3 : List UInt8} {b1 b2 b3 : Bool} (h1 : t1 = dropD l ∧ b1 = decide (t1.length < l.length)) (h2 : t2 = Lib.trimPrefix t1 [46] ∧ b2 = Lib.hasPrefix t1 [46]) (h3 : t3 = dropD t2 ∧ b3 = decide (t3.length < t2.length))
    (h4 : Lib.hasPrefix t3 [101] = false) : formL l = ((b1 && b2 && b3 && decide (l.length ≤ 40)) && t3.isEmpty) := by
  obtain ⟨rfl, rfl⟩ := h1; obtain ⟨rfl, rfl⟩ := h2; obtain ⟨rfl, rfl⟩ := h3
  unfold formL; rw [h4]; rfl
theorem formL_e {l t1 t2 t3 t4 t5 : List UInt8} {b1 b2 b3 b5 : Bool} (h1 : t1 = dropD l ∧ b1 = decide (t1.length < l.length)) (h2 : t2 = Lib.trimPrefix t1 [46] ∧ b2 = Lib.hasPrefix t1 [46]) (h3 : t3 = dropD t2 ∧ b3 = decide (t3.length < t2.length))
    (h4 : t4 = Lib.trimPrefix t3 [101] ∧ true = Lib.hasPrefix t3 [101]) (h5 : t5 = dropD (unsg t4) ∧ b5 = decide (t5.length < (unsg t4).length)) : formL l = ((b1 && b2 && b3 && decide (l.length ≤ 40)) && (b5 && t5.isEmpty)) := by
  obtain ⟨rfl, rfl⟩ := h1; obtain ⟨rfl, rfl⟩ := h2; obtain ⟨rfl, rfl⟩ := h3; obtain ⟨rfl, h4⟩ := h4; obtain ⟨rfl, rfl⟩ := h5
  unfold formL; rw [← h4]; rfl
theorem formL_long {l : List UInt8} (h : 40 < l.length) : formL l = false := by
  unfold formL; rw [show decide (l.length ≤ 40) = false from decide_eq_false (by omega)]; simp

theorem cut_ex (s p : ByteArray) (w : World) : Calls Tryz.prog 56 #[.string s, .string p] w fun e w' => ∃ t b, e = .returned (.tuple #[.string t, .bool b]) ∧ Hid (t.data.toList = Lib.trimPrefix s.data.toList p.data.toList ∧ b = Lib.hasPrefix s.data.toList p.data.toList) ∧ w = w' :=
  (Any.strings_CutPrefix Tryz.lays103 s p w).mono fun _ _ h => ⟨_, _, h.1, ⟨rfl, rfl⟩, h.2.symm⟩

/-- what real.Parse comes to -/
def ParsePost (s : ByteArray) (B : Nat) (w : World) (e : Ending) (w' : World) : Prop :=
  e = .returned (.tuple #[.int .u64 ((if formL s.data.toList then B else 0 : Nat) : Int), .int .i64 (if formL s.data.toList then 0 else 2)]) ∧ Below w.heap.size w w'
theorem ParsePost.no {s : ByteArray} {B : Nat} {w w' : World} (h : formL s.data.toList = false) (hb : Below w.heap.size w w') : ParsePost s B w (.returned (.tuple #[.int .u64 0, .int .i64 2])) w' := by
  unfold ParsePost; rw [h]; exact ⟨rfl, hb⟩
theorem ParsePost.yes {s : ByteArray} {B : Nat} {w w' : World} (h : formL s.data.toList = true) (hb : Below w.heap.size w w') : ParsePost s B w (.returned (.tuple #[.int .u64 B, .int .i64 0])) w' := by
  unfold ParsePost; rw [h]; exact ⟨rfl, hb⟩

set_option maxRecDepth 100000 in
set_option maxHeartbeats 2000000 in
theorem parse_any (s : ByteArray) (w : World) (B : Nat) (hlen : s.size ≤ 9223372036854775807)
    (HPF : formL s.data.toList = true → ∀ w1, Below w.heap.size w w1 → Calls Tryz.prog 57 #[.string s, .int .i64 64] w1 fun e w' => ∃ r v, e = .returned (.tuple #[.float .f64 r, v]) ∧ canon r = B ∧ Below w1.heap.size w1 w') :
    Calls Tryz.prog 28 #[.string s] w (ParsePost s B w) := by
  have HP := Lib.hid HPF
  clear HPF
  go_enter Tryz.func28, Tryz.ntmps28
  go_wp2_with fail
  refine (digits_ex s _).mono ?_
  rintro e w1 ⟨t1, b1, rfl, H1, hB1⟩
  go_wp2_with fail
  refine (cut_ex _ _ _).mono ?_
  rintro e w' ⟨t2, b2, rfl, H2, rfl⟩
  go_wp2_with fail
  refine (digits_ex _ _).mono ?_
  rintro e w2 ⟨t3, b3, rfl, H3, hB2⟩
  rcases Nat.lt_or_ge 40 s.size with h40 | h40
  · have hF : formL s.data.toList = false := formL_long (by rw [← size_list]; exact h40)
    have HF := Lib.hid hF
    have i40 : ¬ (s.size : Int) ≤ 40 := by omega
    clear hF
    cases b1 <;> cases b2 <;> cases b3
    all_goals
      go_wp2_with fail
      refine (cut_ex _ _ _).mono ?_
      rintro e w' ⟨t4, b4, rfl, H4, rfl⟩
      cases b4
      · go_wp2
        go_ret2
        exact ParsePost.no HF.out (hB1.trans (hB2.mono hB1.size))
      · have hc : t4.data.toList = [] ∨ ∃ c r, t4.data.toList = c :: r := by
          cases t4.data.toList with
          | nil => exact .inl rfl
          | cons c r => exact .inr ⟨c, r, rfl⟩
        rcases hc with hx | ⟨c, r, hx⟩
        · have e1 : t4.toList = [] := by rw [Lib.toList_data]; exact hx
          have e2 : (!t4.toList.isEmpty) = false := by rw [e1]; rfl
          have HX := Lib.hid hx
          clear hx
          go_wp2_with fail
          refine (digits_ex _ _).mono ?_
          rintro e w3 ⟨t5, b5, rfl, H5, hB3⟩
          cases b5
          all_goals
            go_wp2
            go_ret2
            exact ParsePost.no HF.out ((hB1.trans (hB2.mono hB1.size)).trans (hB3.mono (Nat.le_trans hB1.size hB2.size)))
        · have e1 : ¬ t4.toList = [] := by rw [Lib.toList_data, hx]; simp
          have e2 : (!t4.toList.isEmpty) = true := by rw [Lib.toList_data, hx]; rfl
          have hz : 0 < t4.size := by rw [size_list, hx]; simp
          have i0 : (0 : Int) < t4.size := by omega
          have hb : t4[0] = c := by
            show t4.data[0] = c
            rw [← Array.getElem_toList]
            simp [hx]
          have hor : (((t4[0].toNat : Int) == 43) = true ∧ isSg c = true) ∨ (((t4[0].toNat : Int) == 43) = false ∧ ((t4[0].toNat : Int) == 45) = true ∧ isSg c = true) ∨ (((t4[0].toNat : Int) == 43) = false ∧ ((t4[0].toNat : Int) == 45) = false ∧ isSg c = false) := by
            rw [hb]; exact sg_cases c
          have HX := Lib.hid hx
          clear hx hb
          rcases hor with ⟨t43, sg⟩ | ⟨t43, t45, sg⟩ | ⟨t43, t45, sg⟩
          all_goals
            have SG := Lib.hid sg
            clear sg
          · go_wp2_with fail
            refine (digits_ex _ _).mono ?_
            rintro e w3 ⟨t5, b5, rfl, H5, hB3⟩
            cases b5
            all_goals
              go_wp2
              go_ret2
              exact ParsePost.no HF.out ((hB1.trans (hB2.mono hB1.size)).trans (hB3.mono (Nat.le_trans hB1.size hB2.size)))
          · go_wp2_with fail
            refine (digits_ex _ _).mono ?_
            rintro e w3 ⟨t5, b5, rfl, H5, hB3⟩
            cases b5
            all_goals
              go_wp2
              go_ret2
              exact ParsePost.no HF.out ((hB1.trans (hB2.mono hB1.size)).trans (hB3.mono (Nat.le_trans hB1.size hB2.size)))
          · go_wp2_with fail
            refine (digits_ex _ _).mono ?_
            rintro e w3 ⟨t5, b5, rfl, H5, hB3⟩
            cases b5
            all_goals
              go_wp2
              go_ret2
              exact ParsePost.no HF.out ((hB1.trans (hB2.mono hB1.size)).trans (hB3.mono (Nat.le_trans hB1.size hB2.size)))
  · have i40 : (s.size : Int) ≤ 40 := by omega
    cases b1 <;> cases b2 <;> cases b3
    all_goals
      go_wp2_with fail
      refine (cut_ex _ _ _).mono ?_
      rintro e w' ⟨t4, b4, rfl, H4, rfl⟩
      cases b4
      · have hB := hB1.trans (hB2.mono hB1.size)
        have HF := Lib.hid (formL_noe H1.out H2.out H3.out H4.out.2.symm)
        by_cases h5 : t3.data.toList = []
        · have e5 : t3.toList = [] := by rw [Lib.toList_data]; exact h5
          have e6 : (!t3.toList.isEmpty) = false := by rw [e5]; rfl
          have H5E := Lib.hid h5
          clear h5
          first
            | (go_wp2; go_ret2; exact ParsePost.no (by rw [HF.out]; simp) hB)
            | (have hF : formL s.data.toList = true := by (rw [HF.out, H5E.out, decide_eq_true (by rw [← size_list]; exact h40)]; rfl)
               have HPC := Lib.hid (HP.out hF _ hB)
               have HF2 := Lib.hid hF
               clear hF
               go_wp2_with fail
               refine HPC.out.mono ?_
               rintro e w4 ⟨r, v, rfl, hr, hB4⟩
               have HR := Lib.hid hr
               clear hr
               go_wp2_with fail
               refine (bits_any r _).mono ?_
               rintro e w' ⟨rfl, rfl⟩
               rw [HR.out]
               go_wp2
               go_ret2
               exact ParsePost.yes HF2.out (hB.trans (hB4.mono hB.size)))
        · have e5 : ¬ t3.toList = [] := by rw [Lib.toList_data]; exact h5
          have e6 : (!t3.toList.isEmpty) = true := by rw [Lib.toList_data]; cases hh : t3.data.toList with
            | nil => exact absurd hh h5
            | cons _ _ => rfl
          have H5E := Lib.hid (show t3.data.toList.isEmpty = false by cases hh : t3.data.toList with
            | nil => exact absurd hh h5
            | cons _ _ => rfl)
          clear h5
          go_wp2
          go_ret2
          exact ParsePost.no (by rw [HF.out, H5E.out]; simp) hB
      · have hc : t4.data.toList = [] ∨ ∃ c r, t4.data.toList = c :: r := by
          cases t4.data.toList with
          | nil => exact .inl rfl
          | cons c r => exact .inr ⟨c, r, rfl⟩
        rcases hc with hx | ⟨c, r, hx⟩
        · have e1 : t4.toList = [] := by rw [Lib.toList_data]; exact hx
          have e2 : (!t4.toList.isEmpty) = false := by rw [e1]; rfl
          have HX := Lib.hid hx
          clear hx
          go_wp2_with fail
          refine (digits_ex _ _).mono ?_
          rintro e w3 ⟨t5, b5, rfl, H5, hB3⟩
          have hB := (hB1.trans (hB2.mono hB1.size)).trans (hB3.mono (Nat.le_trans hB1.size hB2.size))
          have H5' := H5.out
          rw [show t4.data.toList = unsg t4.data.toList by rw [HX.out]; rfl] at H5'
          have HF := Lib.hid (formL_e H1.out H2.out H3.out H4.out H5')
          clear H5 H5'
          by_cases h5 : t5.data.toList = []
          · have e5 : t5.toList = [] := by rw [Lib.toList_data]; exact h5
            have e6 : (!t5.toList.isEmpty) = false := by rw [e5]; rfl
            have H5E := Lib.hid h5
            clear h5
            cases b5
            · go_wp2
              go_ret2
              exact ParsePost.no (by rw [HF.out]; simp) hB
            · first
                | (go_wp2; go_ret2; exact ParsePost.no (by rw [HF.out]; simp) hB)
                | (have hF : formL s.data.toList = true := by (rw [HF.out, H5E.out, decide_eq_true (by rw [← size_list]; exact h40)]; rfl)
                   have HPC := Lib.hid (HP.out hF _ hB)
                   have HF2 := Lib.hid hF
                   clear hF
                   go_wp2_with fail
                   refine HPC.out.mono ?_
                   rintro e w4 ⟨r, v, rfl, hr, hB4⟩
                   have HR := Lib.hid hr
                   clear hr
                   go_wp2_with fail
                   refine (bits_any r _).mono ?_
                   rintro e w' ⟨rfl, rfl⟩
                   rw [HR.out]
                   go_wp2
                   go_ret2
                   exact ParsePost.yes HF2.out (hB.trans (hB4.mono hB.size)))
          · have e5 : ¬ t5.toList = [] := by rw [Lib.toList_data]; exact h5
            have e6 : (!t5.toList.isEmpty) = true := by rw [Lib.toList_data]; cases hh : t5.data.toList with
              | nil => exact absurd hh h5
              | cons _ _ => rfl
            have H5E := Lib.hid (show t5.data.toList.isEmpty = false by cases hh : t5.data.toList with
              | nil => exact absurd hh h5
              | cons _ _ => rfl)
            clear h5
            cases b5
            all_goals
              go_wp2
              go_ret2
              exact ParsePost.no (by rw [HF.out, H5E.out]; simp) hB
        · have e1 : ¬ t4.toList = [] := by rw [Lib.toList_data, hx]; simp
          have e2 : (!t4.toList.isEmpty) = true := by rw [Lib.toList_data, hx]; rfl
          have hz : 0 < t4.size := by rw [size_list, hx]; simp
          have i0 : (0 : Int) < t4.size := by omega
          have hb : t4[0] = c := by
            show t4.data[0] = c
            rw [← Array.getElem_toList]
            simp [hx]
          have hor : (((t4[0].toNat : Int) == 43) = true ∧ isSg c = true) ∨ (((t4[0].toNat : Int) == 43) = false ∧ ((t4[0].toNat : Int) == 45) = true ∧ isSg c = true) ∨ (((t4[0].toNat : Int) == 43) = false ∧ ((t4[0].toNat : Int) == 45) = false ∧ isSg c = false) := by
            rw [hb]; exact sg_cases c
          have HX := Lib.hid hx
          clear hx hb
          rcases hor with ⟨t43, sg⟩ | ⟨t43, t45, sg⟩ | ⟨t43, t45, sg⟩
          all_goals
            have SG := Lib.hid sg
            clear sg
          · go_wp2_with fail
            refine (digits_ex _ _).mono ?_
            rintro e w3 ⟨t5, b5, rfl, H5, hB3⟩
            have hB := (hB1.trans (hB2.mono hB1.size)).trans (hB3.mono (Nat.le_trans hB1.size hB2.size))
            have H5' := H5.out
            rw [show (t4.extract 1 t4.size).data.toList = unsg t4.data.toList by rw [Lib.extract_to_end, HX.out]; simp [unsg, SG.out]] at H5'
            have HF := Lib.hid (formL_e H1.out H2.out H3.out H4.out H5')
            clear H5 H5'
            by_cases h5 : t5.data.toList = []
            · have e5 : t5.toList = [] := by rw [Lib.toList_data]; exact h5
              have e6 : (!t5.toList.isEmpty) = false := by rw [e5]; rfl
              have H5E := Lib.hid h5
              clear h5
              cases b5
              · go_wp2
                go_ret2
                exact ParsePost.no (by rw [HF.out]; simp) hB
              · first
                  | (go_wp2; go_ret2; exact ParsePost.no (by rw [HF.out]; simp) hB)
                  | (have hF : formL s.data.toList = true := by (rw [HF.out, H5E.out, decide_eq_true (by rw [← size_list]; exact h40)]; rfl)
                     have HPC := Lib.hid (HP.out hF _ hB)
                     have HF2 := Lib.hid hF
                     clear hF
                     go_wp2_with fail
                     refine HPC.out.mono ?_
                     rintro e w4 ⟨r, v, rfl, hr, hB4⟩
                     have HR := Lib.hid hr
                     clear hr
                     go_wp2_with fail
                     refine (bits_any r _).mono ?_
                     rintro e w' ⟨rfl, rfl⟩
                     rw [HR.out]
                     go_wp2
                     go_ret2
                     exact ParsePost.yes HF2.out (hB.trans (hB4.mono hB.size)))
            · have e5 : ¬ t5.toList = [] := by rw [Lib.toList_data]; exact h5
              have e6 : (!t5.toList.isEmpty) = true := by rw [Lib.toList_data]; cases hh : t5.data.toList with
                | nil => exact absurd hh h5
                | cons _ _ => rfl
              have H5E := Lib.hid (show t5.data.toList.isEmpty = false by cases hh : t5.data.toList with
                | nil => exact absurd hh h5
                | cons _ _ => rfl)
              clear h5
              cases b5
              all_goals
                go_wp2
                go_ret2
                exact ParsePost.no (by rw [HF.out, H5E.out]; simp) hB
          · go_wp2_with fail
            refine (digits_ex _ _).mono ?_
            rintro e w3 ⟨t5, b5, rfl, H5, hB3⟩
            have hB := (hB1.trans (hB2.mono hB1.size)).trans (hB3.mono (Nat.le_trans hB1.size hB2.size))
            have H5' := H5.out
            rw [show (t4.extract 1 t4.size).data.toList = unsg t4.data.toList by rw [Lib.extract_to_end, HX.out]; simp [unsg, SG.out]] at H5'
            have HF := Lib.hid (formL_e H1.out H2.out H3.out H4.out H5')
            clear H5 H5'
            by_cases h5 : t5.data.toList = []
            · have e5 : t5.toList = [] := by rw [Lib.toList_data]; exact h5
              have e6 : (!t5.toList.isEmpty) = false := by rw [e5]; rfl
              have H5E := Lib.hid h5
              clear h5
              cases b5
              · go_wp2
                go_ret2
                exact ParsePost.no (by rw [HF.out]; simp) hB
              · first
                  | (go_wp2; go_ret2; exact ParsePost.no (by rw [HF.out]; simp) hB)
                  | (have hF : formL s.data.toList = true := by (rw [HF.out, H5E.out, decide_eq_true (by rw [← size_list]; exact h40)]; rfl)
                     have HPC := Lib.hid (HP.out hF _ hB)
                     have HF2 := Lib.hid hF
                     clear hF
                     go_wp2_with fail
                     refine HPC.out.mono ?_
                     rintro e w4 ⟨r, v, rfl, hr, hB4⟩
                     have HR := Lib.hid hr
                     clear hr
                     go_wp2_with fail
                     refine (bits_any r _).mono ?_
                     rintro e w' ⟨rfl, rfl⟩
                     rw [HR.out]
                     go_wp2
                     go_ret2
                     exact ParsePost.yes HF2.out (hB.trans (hB4.mono hB.size)))
            · have e5 : ¬ t5.toList = [] := by rw [Lib.toList_data]; exact h5
              have e6 : (!t5.toList.isEmpty) = true := by rw [Lib.toList_data]; cases hh : t5.data.toList with
                | nil => exact absurd hh h5
                | cons _ _ => rfl
              have H5E := Lib.hid (show t5.data.toList.isEmpty = false by cases hh : t5.data.toList with
                | nil => exact absurd hh h5
                | cons _ _ => rfl)
              clear h5
              cases b5
              all_goals
                go_wp2
                go_ret2
                exact ParsePost.no (by rw [HF.out, H5E.out]; simp) hB
          · go_wp2_with fail
            refine (digits_ex _ _).mono ?_
            rintro e w3 ⟨t5, b5, rfl, H5, hB3⟩
            have hB := (hB1.trans (hB2.mono hB1.size)).trans (hB3.mono (Nat.le_trans hB1.size hB2.size))
            have H5' := H5.out
            rw [show t4.data.toList = unsg t4.data.toList by rw [HX.out]; simp [unsg, SG.out]] at H5'
            have HF := Lib.hid (formL_e H1.out H2.out H3.out H4.out H5')
            clear H5 H5'
            by_cases h5 : t5.data.toList = []
            · have e5 : t5.toList = [] := by rw [Lib.toList_data]; exact h5
              have e6 : (!t5.toList.isEmpty) = false := by rw [e5]; rfl
              have H5E := Lib.hid h5
              clear h5
              cases b5
              · go_wp2
                go_ret2
                exact ParsePost.no (by rw [HF.out]; simp) hB
              · first
                  | (go_wp2; go_ret2; exact ParsePost.no (by rw [HF.out]; simp) hB)
                  | (have hF : formL s.data.toList = true := by (rw [HF.out, H5E.out, decide_eq_true (by rw [← size_list]; exact h40)]; rfl)
                     have HPC := Lib.hid (HP.out hF _ hB)
                     have HF2 := Lib.hid hF
                     clear hF
                     go_wp2_with fail
                     refine HPC.out.mono ?_
                     rintro e w4 ⟨r, v, rfl, hr, hB4⟩
                     have HR := Lib.hid hr
                     clear hr
                     go_wp2_with fail
                     refine (bits_any r _).mono ?_
                     rintro e w' ⟨rfl, rfl⟩
                     rw [HR.out]
                     go_wp2
                     go_ret2
                     exact ParsePost.yes HF2.out (hB.trans (hB4.mono hB.size)))
            · have e5 : ¬ t5.toList = [] := by rw [Lib.toList_data]; exact h5
              have e6 : (!t5.toList.isEmpty) = true := by rw [Lib.toList_data]; cases hh : t5.data.toList with
                | nil => exact absurd hh h5
                | cons _ _ => rfl
              have H5E := Lib.hid (show t5.data.toList.isEmpty = false by cases hh : t5.data.toList with
                | nil => exact absurd hh h5
                | cons _ _ => rfl)
              clear h5
              cases b5
              all_goals
                go_wp2
                go_ret2
                exact ParsePost.no (by rw [HF.out, H5E.out]; simp) hB
end Go.Proofs.YtfgiejfjnhgcaaaGreatDoor
