/- The walk of internal/strconv.readFloat over a text of the form digits . digits [e [sign] digits]: what it hands back is what a plain fold over the bytes gives. -/
import Derived.Test.YtfgiejfjnhgcaaaGreatDoorProg
import Derived.WalkKit
import Derived.WalkLawsBesides
import Derived.WalkSpells
import Derived.Outline
import Derived.Lib.Hide
import Derived.Deep.LoopGhost
import Derived.WalkMore
import Derived.Laws.BitsAllLaws
import Derived.Deep.Draws
import Derived.Test.YtfgiejfjnhgcaaaGreatDoorRS
namespace Go.Proofs.YtfgiejfjnhgcaaaGreatDoor
open Go Go.RowKit SolF

theorem lower_any (c : Int) (w : World) (h0 : 0 ≤ c) (h1 : c < 256) : Calls Tryz.prog 125 #[.int .u8 c] w fun e w' => e = .returned (.int .u8 ((c.toNat ||| 32 : Nat) : Int)) ∧ w = w' := by
  obtain ⟨n, rfl⟩ := Int.eq_ofNat_of_zero_le h0
  have ho := u8_or_nat n 32 (by omega) (by decide)
  have HO := Lib.hid ho
  clear ho
  go_enter Tryz.func125, Tryz.ntmps125
  go_wp2
  go_ret
  refine ⟨?_, rfl⟩
  rw [Int.toNat_natCast]
  exact congrArg (fun z => Ending.returned (Value.int .u8 z)) HO.out

theorem or32_lt (n : Nat) (h : n ≤ 57) : n ||| 32 < 64 := Nat.or_lt_two_pow (n := 6) (by omega) (by decide)

/-- the first m bytes: digits, and one point at p -/
structure Mant (s : ByteArray) (p m : Nat) : Prop where
  h1 : 1 ≤ p
  h2 : p + 2 ≤ m
  hm : m ≤ s.size
  hs : s.size ≤ 40
  dig : ∀ j, j < m → j ≠ p → 48 ≤ bt s j ∧ bt s j ≤ 57
  dot : bt s p = 46

theorem Mant.ok {s : ByteArray} {p m : Nat} (h : Mant s p m) : ∀ k, k ≤ m → (rsAt s k).ok k
  | 0, _ => RS.ok_init
  | k + 1, hk => (h.ok k (by omega)).next _ (by
      by_cases e : k = p
      · subst e; exact .inl h.dot
      · exact .inr (h.dig k (by omega) e))
theorem Mant.dot_at {s : ByteArray} {p m : Nat} (h : Mant s p m) : ∀ k, k ≤ m → (rsAt s k).dot = decide (p < k)
  | 0, _ => by simp [rsAt, RS.init]
  | k + 1, hk => by
      have ih := h.dot_at k (by omega)
      show ((rsAt s k).step (bt s k)).dot = _
      by_cases e : k = p
      · subst e; rw [h.dot, RS.step_dot]; simp
      · have hd := h.dig k (by omega) e
        unfold RS.step
        rw [if_neg (by omega)]
        have : decide (p < k + 1) = decide (p < k) := by rw [decide_eq_decide]; omega
        rw [this, ← ih]
        split
        · rfl
        split <;> rfl
theorem Mant.dig_at {s : ByteArray} {p m : Nat} (h : Mant s p m) : ∀ k, k ≤ m → (rsAt s k).dig = decide (0 < k)
  | 0, _ => rfl
  | k + 1, hk => by
      have ih := h.dig_at k (by omega)
      show ((rsAt s k).step (bt s k)).dig = _
      rw [decide_eq_true (by omega)]
      by_cases e : k = p
      · subst e; rw [h.dot, RS.step_dot]
        show (rsAt s k).dig = true
        rw [ih, decide_eq_true (by have := h.h1; omega)]
      · have hd := h.dig k (by omega) e
        unfold RS.step
        rw [if_neg (by omega)]
        split
        · rfl
        split <;> rfl

/-- behind them: an e, perhaps a sign, digits from q on -/
structure Expo (s : ByteArray) (m q : Nat) (sg : Int) : Prop where
  m1 : m < q
  q1 : q < s.size
  e : bt s m = 101
  sign : (q = m + 1 ∧ sg = 1) ∨ (q = m + 1 + 1 ∧ bt s (m + 1) = 43 ∧ sg = 1) ∨ (q = m + 1 + 1 ∧ bt s (m + 1) = 45 ∧ sg = -1)
  dig : ∀ j, q ≤ j → j < s.size → 48 ≤ bt s j ∧ bt s j ≤ 57

/-- the exponent that is told -/
def Told (s : ByteArray) (m : Nat) (E : Int) : Prop := (s.size = m ∧ E = 0) ∨ ∃ q sg, Expo s m q sg ∧ E = (exAt s q (s.size - q) : Int) * sg

/-- what readFloat hands back -/
def rfVals (s : ByteArray) (m : Nat) (E : Int) : Array Value :=
  #[.int .u64 (rsAt s m).mant, .int .i64 (if (rsAt s m).mant = 0 then 0 else (rsAt s m).dp + E - (rsAt s m).ndm), .bool false, .bool (rsAt s m).trunc, .bool false, .int .i64 s.size, .bool true]
theorem rfVals_zero (s : ByteArray) (m : Nat) (E : Int) (h : (rsAt s m).mant = 0) : rfVals s m E = #[.int .u64 0, .int .i64 0, .bool false, .bool (rsAt s m).trunc, .bool false, .int .i64 s.size, .bool true] := by
  unfold rfVals; rw [h]; rfl
theorem rfVals_more (s : ByteArray) (m : Nat) (E : Int) (h : (rsAt s m).mant ≠ 0) : rfVals s m E = #[.int .u64 (rsAt s m).mant, .int .i64 ((rsAt s m).dp + E - (rsAt s m).ndm), .bool false, .bool (rsAt s m).trunc, .bool false, .int .i64 s.size, .bool true] := by
  unfold rfVals; rw [if_neg h]

set_option maxRecDepth 100000 in
set_option maxHeartbeats 40000000 in
theorem readFloat_any (s : ByteArray) (w : World) (p m : Nat) (E : Int) (H : Mant s p m) (HT : Told s m E) :
    Calls Tryz.prog 155 #[.string s] w fun e w' => e = .returned (.tuple (rfVals s m E)) ∧ w = w' := by
  have hms := H.hm
  have hpm := H.h2
  have hp1 := H.h1
  have hs40 := H.hs
  have hs0 : 0 < s.size := by omega
  have hs1 : 1 < s.size := by omega
  have hb0 := H.dig 0 (by omega) (by omega)
  have hb1 : bt s 1 ≤ 57 := by
    by_cases e : 1 = p
    · rw [e, H.dot]; omega
    · exact (H.dig 1 (by omega) e).2
  rw [bt_eq s 0 hs0] at hb0
  rw [bt_eq s 1 hs1] at hb1
  obtain ⟨b0, b0'⟩ := hb0
  have t43 : ((s[0].toNat : Int) == 43) = false := beq_eq_false_iff_ne.2 (by omega)
  have t45 : ((s[0].toNat : Int) == 45) = false := beq_eq_false_iff_ne.2 (by omega)
  have hl := or32_lt s[1].toNat (by omega)
  have t120 : (((s[1].toNat ||| 32 : Nat) : Int) == 120) = false := beq_eq_false_iff_ne.2 (by omega)
  have T120 := Lib.hid t120
  clear t120
  have hne : ¬ s = ByteArray.empty := by rintro rfl; exact absurd hs0 (by decide)
  have i1 : (1 : Int) < s.size := by omega
  have i2 : (2 : Int) < s.size := by omega
  rcases Bool.eq_false_or_eq_true ((s[0].toNat : Int) == 48) with hz | hz
  all_goals
    go_enter Tryz.func155, Tryz.ntmps155
    go_wp2_with fail
    go_step3
    go_wp2_with fail
    try (go_at_call 125; refine (lower_any _ _ (by omega) (by omega)).mono ?_; rintro e w' ⟨rfl, rfl⟩; rw [Int.toNat_natCast]; have t120 := T120.out; go_wp2_with fail; clear t120)
    go_step3
    go_wp2_with fail
    clear hz t43 t45 i2 b0 b0' hb1 hl T120
    go_loopg [2, 5, 7, 9, 13, 14, 15, 16, 17] m (fun g v2 v5 v7 v9 v13 v14 v15 v16 v17 wr => ∃ k : Nat, k + g = m ∧ v7 = .int .i64 k ∧ v9 = .bool false ∧ v2 = .int .u64 (rsAt s k).mant ∧ v5 = .bool (rsAt s k).trunc ∧ v13 = .bool (rsAt s k).dot ∧ v14 = .bool (rsAt s k).dig ∧ v15 = .int .i64 (rsAt s k).nd ∧ v16 = .int .i64 (rsAt s k).ndm ∧ v17 = .int .i64 (rsAt s k).dp ∧ w = wr)
    case atStart => exact ⟨0, by omega, rfl, rfl, rfl, rfl, rfl, rfl, rfl, rfl, rfl, rfl⟩
    case round =>
      obtain ⟨k, hkg, rfl, rfl, rfl, rfl, rfl, rfl, rfl, rfl, rfl, rfl⟩ := hrel
      cases gk with
      | zero =>
        obtain rfl : k = m := by omega
        have hok := H.ok k (by omega)
        have hdot : (rsAt s k).dot = true := by rw [H.dot_at k (by omega)]; exact decide_eq_true (by omega)
        have hdig : (rsAt s k).dig = true := by rw [H.dig_at k (by omega)]; exact decide_eq_true (by omega)
        rw [hdot, hdig]
        clear hdot hdig
        have hbig := hok.big
        have n1 : (rsAt s k).nd ≤ 40 := by have := hok.nd; omega
        have n2 : (rsAt s k).ndm ≤ 19 := hok.m19
        have n3 : -40 ≤ (rsAt s k).dp := by have := hok.dp1; omega
        have n4 : (rsAt s k).dp ≤ 40 := by have := hok.dp2; omega
        clear hok
        have HV : Hid ((rsAt s k).mant = 0 ∧ rfVals s k E = #[.int .u64 0, .int .i64 0, .bool false, .bool (rsAt s k).trunc, .bool false, .int .i64 s.size, .bool true] ∨
            (rsAt s k).mant ≠ 0 ∧ rfVals s k E = #[.int .u64 (rsAt s k).mant, .int .i64 ((rsAt s k).dp + E - (rsAt s k).ndm), .bool false, .bool (rsAt s k).trunc, .bool false, .int .i64 s.size, .bool true]) := by
          by_cases e : (rsAt s k).mant = 0
          · exact .inl ⟨e, rfVals_zero s k E e⟩
          · exact .inr ⟨e, rfVals_more s k E e⟩
        generalize rsAt s k = t at *
        rcases HT with ⟨hsz, rfl⟩ | ⟨q, sg, X, rfl⟩
        · have hlt : ¬ (k : Int) < (s.size : Int) := by omega
          rcases HV.out with ⟨e, hv⟩ | ⟨e, hv⟩
          · have t1 : ((t.mant : Int) != 0) = false := by rw [bne_eq_false_iff_eq]; omega
            have HV' := Lib.hid hv
            have HZ := Lib.hid hsz
            clear hv HV hsz
            go_wp2
            refine bodyPost_ret (v := .tuple #[.int .u64 0, .int .i64 0, .bool false, .bool t.trunc, .bool false, .int .i64 k, .bool true]) (by simp [results, Tryz.results155, go_sem]) rfl ⟨?_, rfl⟩
            rw [HV'.out, HZ.out]
          · have t1 : ((t.mant : Int) != 0) = true := by rw [bne_iff_ne]; omega
            have HV' := Lib.hid hv
            have HZ := Lib.hid hsz
            clear hv HV hsz
            go_wp2
            refine bodyPost_ret (v := .tuple #[.int .u64 t.mant, .int .i64 (t.dp - t.ndm), .bool false, .bool t.trunc, .bool false, .int .i64 k, .bool true]) (by simp [results, Tryz.results155, go_sem]) rfl ⟨?_, rfl⟩
            rw [HV'.out, HZ.out, Int.add_zero]
        · obtain ⟨m1, q1, xe, xs, xd⟩ := X
          have hks : k < s.size := by omega
          have hlt : (k : Int) < (s.size : Int) := by omega
          rw [bt_eq s k hks] at xe
          have t95 : ((s[k].toNat : Int) == 95) = false := beq_eq_false_iff_ne.2 (by omega)
          have t46 : ((s[k].toNat : Int) == 46) = false := beq_eq_false_iff_ne.2 (by omega)
          have c48 : (48 : Int) ≤ (s[k].toNat : Int) := by omega
          have c57 : ¬ (s[k].toNat : Int) ≤ 57 := by omega
          have c255 : (s[k].toNat : Int) < 256 := by omega
          have T101 := Lib.hid (show (((s[k].toNat ||| 32 : Nat) : Int) == 101) = true by rw [xe]; rfl)
          have he : exAt s q (s.size - q) < 100000 := exAt_lt s q _ (fun j hj => (xd (q + j) (by omega) (by omega)).2)
          have HXD := Lib.hid xd
          have hxq := xd q (Nat.le_refl _) q1
          clear xd xe
          have hk1s : k + 1 < s.size := by omega
          have hk1 : (k : Int) + 1 < (s.size : Int) := by omega
          rcases xs with ⟨rfl, rfl⟩ | ⟨rfl, x2, rfl⟩ | ⟨rfl, x2, rfl⟩
          · rw [bt_eq s (k + 1) hk1s] at hxq
            obtain ⟨d48, d57⟩ := hxq
            have u43 : ((s[k + 1].toNat : Int) == 43) = false := beq_eq_false_iff_ne.2 (by omega)
            have u45 : ((s[k + 1].toNat : Int) == 45) = false := beq_eq_false_iff_ne.2 (by omega)
            have d48' : ¬ (s[k + 1].toNat : Int) < 48 := by omega
            have d57' : ¬ (57 : Int) < (s[k + 1].toNat : Int) := by omega
            go_wp2_with fail
            refine (lower_any _ _ (by omega) c255).mono ?_
            rintro e w' ⟨rfl, rfl⟩
            rw [Int.toNat_natCast]
            have t101 := T101.out
            go_wp2_with fail
            clear t101 c48 c57 t95 t46
            go_loopg [7, 9, 20] (s.size - (k + 1)) (fun g v7 v9 v20 wr => ∃ j x : Nat, j + g = s.size - (k + 1) ∧ Hid (x = k + 1 + j) ∧ v7 = .int .i64 (x : Int) ∧ v9 = .bool false ∧ v20 = .int .i64 (exAt s (k + 1) j) ∧ w = wr)
            case atStart => exact ⟨0, _, by omega, rfl, by go_num, rfl, rfl, rfl⟩
            case round =>
              obtain ⟨j, x, hjg, HX, rfl, rfl, rfl, rfl⟩ := hrel
              cases gk with
              | zero =>
                obtain rfl : j = s.size - (k + 1) := by omega
                have hxs : x = s.size := by rw [HX.out]; omega
                have HXS := Lib.hid hxs
                have hend : ¬ (x : Int) < (s.size : Int) := by omega
                clear hxs
                generalize hE : exAt s (k + 1) (s.size - (k + 1)) = E at *
                have HE2 := Lib.hid hE
                clear hE
                rcases HV.out with ⟨e, hv⟩ | ⟨e, hv⟩
                · have t1 : ((t.mant : Int) != 0) = false := by rw [bne_eq_false_iff_eq]; omega
                  have HV' := Lib.hid hv
                  clear hv HV
                  go_wp2
                  refine bodyPost_ret (v := .tuple #[.int .u64 0, .int .i64 0, .bool false, .bool t.trunc, .bool false, .int .i64 (x : Int), .bool true]) (by simp [results, Tryz.results155, go_sem]) rfl ⟨?_, rfl⟩
                  rw [HE2.out, HV'.out, HXS.out]
                · have t1 : ((t.mant : Int) != 0) = true := by rw [bne_iff_ne]; omega
                  have HV' := Lib.hid hv
                  clear hv HV
                  go_wp2
                  refine bodyPost_ret (v := .tuple #[.int .u64 t.mant, .int .i64 (t.dp + (E : Int) * 1 - t.ndm), .bool false, .bool t.trunc, .bool false, .int .i64 (x : Int), .bool true]) (by simp [results, Tryz.results155, go_sem]; done) rfl ⟨?_, rfl⟩
                  rw [HE2.out, HV'.out, HXS.out]
              | succ g2 =>
                have hj : x < s.size := by rw [HX.out]; omega
                have hj' : (x : Int) < (s.size : Int) := by omega
                have hj0 : x ≤ 40 := by omega
                have hxj := HXD.out x (by rw [HX.out]; omega) hj
                have hbt := bt_eq s x hj
                have HST : Hid (exAt s (k + 1) (j + 1) = if exAt s (k + 1) j < 10000 then exAt s (k + 1) j * 10 + (s[x].toNat - 48) else exAt s (k + 1) j) := by
                  show _ = _
                  rw [← hbt, HX.out]; rfl
                rw [hbt] at hxj
                obtain ⟨e48, e57⟩ := hxj
                have e48' : (48 : Int) ≤ (s[x].toNat : Int) := by omega
                have e57' : (s[x].toNat : Int) ≤ 57 := by omega
                have v95 : ((s[x].toNat : Int) == 95) = false := beq_eq_false_iff_ne.2 (by omega)
                have hlim : exAt s (k + 1) j < 100000 := exAt_lt s (k + 1) j (fun i hi => (HXD.out (k + 1 + i) (by omega) (by omega)).2)
                clear hbt
                generalize exAt s (k + 1) j = E at *
                by_cases hE : E < 10000
                · have HN : Hid (exAt s (k + 1) (j + 1) = E * 10 + (s[x].toNat - 48)) := by show _ = _; rw [HST.out, if_pos hE]
                  have hE' : (E : Int) < 10000 := by omega
                  clear HST
                  go_wp2
                  go_roundg g2
                  case measure => omega
                  case rel => exact ⟨j + 1, x + 1, by omega, by rw [HX.out]; rfl, by go_num, rfl, by rw [HN.out]; go_num, rfl⟩
                · have HN : Hid (exAt s (k + 1) (j + 1) = E) := by show _ = _; rw [HST.out, if_neg hE]
                  have hE' : ¬ (E : Int) < 10000 := by omega
                  clear HST
                  go_wp2
                  go_roundg g2
                  case measure => omega
                  case rel => exact ⟨j + 1, x + 1, by omega, by rw [HX.out]; rfl, by go_num, rfl, by rw [HN.out], rfl⟩
          · rw [bt_eq s (k + 1 + 1) q1] at hxq
            rw [bt_eq s (k + 1) hk1s] at x2
            obtain ⟨d48, d57⟩ := hxq
            have hk2 : (k : Int) + 1 + 1 < (s.size : Int) := by omega
            have u43 : ((s[k + 1].toNat : Int) == 43) = true := beq_iff_eq.2 (by omega)
            have u45 : ((s[k + 1].toNat : Int) == 45) = false := beq_eq_false_iff_ne.2 (by omega)
            have d48' : ¬ (s[k + 1 + 1].toNat : Int) < 48 := by omega
            have d57' : ¬ (57 : Int) < (s[k + 1 + 1].toNat : Int) := by omega
            clear x2
            go_wp2_with fail
            refine (lower_any _ _ (by omega) c255).mono ?_
            rintro e w' ⟨rfl, rfl⟩
            rw [Int.toNat_natCast]
            have t101 := T101.out
            go_wp2_with fail
            clear t101 c48 c57 t95 t46
            go_loopg [7, 9, 20] (s.size - (k + 1 + 1)) (fun g v7 v9 v20 wr => ∃ j x : Nat, j + g = s.size - (k + 1 + 1) ∧ Hid (x = k + 1 + 1 + j) ∧ v7 = .int .i64 (x : Int) ∧ v9 = .bool false ∧ v20 = .int .i64 (exAt s (k + 1 + 1) j) ∧ w = wr)
            case atStart => exact ⟨0, _, by omega, rfl, by go_num, rfl, rfl, rfl⟩
            case round =>
              obtain ⟨j, x, hjg, HX, rfl, rfl, rfl, rfl⟩ := hrel
              cases gk with
              | zero =>
                obtain rfl : j = s.size - (k + 1 + 1) := by omega
                have hxs : x = s.size := by rw [HX.out]; omega
                have HXS := Lib.hid hxs
                have hend : ¬ (x : Int) < (s.size : Int) := by omega
                clear hxs
                generalize hE : exAt s (k + 1 + 1) (s.size - (k + 1 + 1)) = E at *
                have HE2 := Lib.hid hE
                clear hE
                rcases HV.out with ⟨e, hv⟩ | ⟨e, hv⟩
                · have t1 : ((t.mant : Int) != 0) = false := by rw [bne_eq_false_iff_eq]; omega
                  have HV' := Lib.hid hv
                  clear hv HV
                  go_wp2
                  refine bodyPost_ret (v := .tuple #[.int .u64 0, .int .i64 0, .bool false, .bool t.trunc, .bool false, .int .i64 (x : Int), .bool true]) (by simp [results, Tryz.results155, go_sem]) rfl ⟨?_, rfl⟩
                  rw [HE2.out, HV'.out, HXS.out]
                · have t1 : ((t.mant : Int) != 0) = true := by rw [bne_iff_ne]; omega
                  have HV' := Lib.hid hv
                  clear hv HV
                  go_wp2
                  refine bodyPost_ret (v := .tuple #[.int .u64 t.mant, .int .i64 (t.dp + (E : Int) * 1 - t.ndm), .bool false, .bool t.trunc, .bool false, .int .i64 (x : Int), .bool true]) (by simp [results, Tryz.results155, go_sem]; done) rfl ⟨?_, rfl⟩
                  rw [HE2.out, HV'.out, HXS.out]
              | succ g2 =>
                have hj : x < s.size := by rw [HX.out]; omega
                have hj' : (x : Int) < (s.size : Int) := by omega
                have hj0 : x ≤ 40 := by omega
                have hxj := HXD.out x (by rw [HX.out]; omega) hj
                have hbt := bt_eq s x hj
                have HST : Hid (exAt s (k + 1 + 1) (j + 1) = if exAt s (k + 1 + 1) j < 10000 then exAt s (k + 1 + 1) j * 10 + (s[x].toNat - 48) else exAt s (k + 1 + 1) j) := by
                  show _ = _
                  rw [← hbt, HX.out]; rfl
                rw [hbt] at hxj
                obtain ⟨e48, e57⟩ := hxj
                have e48' : (48 : Int) ≤ (s[x].toNat : Int) := by omega
                have e57' : (s[x].toNat : Int) ≤ 57 := by omega
                have v95 : ((s[x].toNat : Int) == 95) = false := beq_eq_false_iff_ne.2 (by omega)
                have hlim : exAt s (k + 1 + 1) j < 100000 := exAt_lt s (k + 1 + 1) j (fun i hi => (HXD.out (k + 1 + 1 + i) (by omega) (by omega)).2)
                clear hbt
                generalize exAt s (k + 1 + 1) j = E at *
                by_cases hE : E < 10000
                · have HN : Hid (exAt s (k + 1 + 1) (j + 1) = E * 10 + (s[x].toNat - 48)) := by show _ = _; rw [HST.out, if_pos hE]
                  have hE' : (E : Int) < 10000 := by omega
                  clear HST
                  go_wp2
                  go_roundg g2
                  case measure => omega
                  case rel => exact ⟨j + 1, x + 1, by omega, by rw [HX.out]; rfl, by go_num, rfl, by rw [HN.out]; go_num, rfl⟩
                · have HN : Hid (exAt s (k + 1 + 1) (j + 1) = E) := by show _ = _; rw [HST.out, if_neg hE]
                  have hE' : ¬ (E : Int) < 10000 := by omega
                  clear HST
                  go_wp2
                  go_roundg g2
                  case measure => omega
                  case rel => exact ⟨j + 1, x + 1, by omega, by rw [HX.out]; rfl, by go_num, rfl, by rw [HN.out], rfl⟩
          · rw [bt_eq s (k + 1 + 1) q1] at hxq
            rw [bt_eq s (k + 1) hk1s] at x2
            obtain ⟨d48, d57⟩ := hxq
            have hk2 : (k : Int) + 1 + 1 < (s.size : Int) := by omega
            have u43 : ((s[k + 1].toNat : Int) == 43) = false := beq_eq_false_iff_ne.2 (by omega)
            have u45 : ((s[k + 1].toNat : Int) == 45) = true := beq_iff_eq.2 (by omega)
            have d48' : ¬ (s[k + 1 + 1].toNat : Int) < 48 := by omega
            have d57' : ¬ (57 : Int) < (s[k + 1 + 1].toNat : Int) := by omega
            clear x2
            go_wp2_with fail
            refine (lower_any _ _ (by omega) c255).mono ?_
            rintro e w' ⟨rfl, rfl⟩
            rw [Int.toNat_natCast]
            have t101 := T101.out
            go_wp2_with fail
            clear t101 c48 c57 t95 t46
            go_loopg [7, 9, 20] (s.size - (k + 1 + 1)) (fun g v7 v9 v20 wr => ∃ j x : Nat, j + g = s.size - (k + 1 + 1) ∧ Hid (x = k + 1 + 1 + j) ∧ v7 = .int .i64 (x : Int) ∧ v9 = .bool false ∧ v20 = .int .i64 (exAt s (k + 1 + 1) j) ∧ w = wr)
            case atStart => exact ⟨0, _, by omega, rfl, by go_num, rfl, rfl, rfl⟩
            case round =>
              obtain ⟨j, x, hjg, HX, rfl, rfl, rfl, rfl⟩ := hrel
              cases gk with
              | zero =>
                obtain rfl : j = s.size - (k + 1 + 1) := by omega
                have hxs : x = s.size := by rw [HX.out]; omega
                have HXS := Lib.hid hxs
                have hend : ¬ (x : Int) < (s.size : Int) := by omega
                clear hxs
                generalize hE : exAt s (k + 1 + 1) (s.size - (k + 1 + 1)) = E at *
                have HE2 := Lib.hid hE
                clear hE
                rcases HV.out with ⟨e, hv⟩ | ⟨e, hv⟩
                · have t1 : ((t.mant : Int) != 0) = false := by rw [bne_eq_false_iff_eq]; omega
                  have HV' := Lib.hid hv
                  clear hv HV
                  go_wp2
                  refine bodyPost_ret (v := .tuple #[.int .u64 0, .int .i64 0, .bool false, .bool t.trunc, .bool false, .int .i64 (x : Int), .bool true]) (by simp [results, Tryz.results155, go_sem]) rfl ⟨?_, rfl⟩
                  rw [HE2.out, HV'.out, HXS.out]
                · have t1 : ((t.mant : Int) != 0) = true := by rw [bne_iff_ne]; omega
                  have HV' := Lib.hid hv
                  clear hv HV
                  go_wp2
                  refine bodyPost_ret (v := .tuple #[.int .u64 t.mant, .int .i64 (t.dp + (E : Int) * (-1) - t.ndm), .bool false, .bool t.trunc, .bool false, .int .i64 (x : Int), .bool true]) (by simp [results, Tryz.results155, go_sem]; done) rfl ⟨?_, rfl⟩
                  rw [HE2.out, HV'.out, HXS.out]
              | succ g2 =>
                have hj : x < s.size := by rw [HX.out]; omega
                have hj' : (x : Int) < (s.size : Int) := by omega
                have hj0 : x ≤ 40 := by omega
                have hxj := HXD.out x (by rw [HX.out]; omega) hj
                have hbt := bt_eq s x hj
                have HST : Hid (exAt s (k + 1 + 1) (j + 1) = if exAt s (k + 1 + 1) j < 10000 then exAt s (k + 1 + 1) j * 10 + (s[x].toNat - 48) else exAt s (k + 1 + 1) j) := by
                  show _ = _
                  rw [← hbt, HX.out]; rfl
                rw [hbt] at hxj
                obtain ⟨e48, e57⟩ := hxj
                have e48' : (48 : Int) ≤ (s[x].toNat : Int) := by omega
                have e57' : (s[x].toNat : Int) ≤ 57 := by omega
                have v95 : ((s[x].toNat : Int) == 95) = false := beq_eq_false_iff_ne.2 (by omega)
                have hlim : exAt s (k + 1 + 1) j < 100000 := exAt_lt s (k + 1 + 1) j (fun i hi => (HXD.out (k + 1 + 1 + i) (by omega) (by omega)).2)
                clear hbt
                generalize exAt s (k + 1 + 1) j = E at *
                by_cases hE : E < 10000
                · have HN : Hid (exAt s (k + 1 + 1) (j + 1) = E * 10 + (s[x].toNat - 48)) := by show _ = _; rw [HST.out, if_pos hE]
                  have hE' : (E : Int) < 10000 := by omega
                  clear HST
                  go_wp2
                  go_roundg g2
                  case measure => omega
                  case rel => exact ⟨j + 1, x + 1, by omega, by rw [HX.out]; rfl, by go_num, rfl, by rw [HN.out]; go_num, rfl⟩
                · have HN : Hid (exAt s (k + 1 + 1) (j + 1) = E) := by show _ = _; rw [HST.out, if_neg hE]
                  have hE' : ¬ (E : Int) < 10000 := by omega
                  clear HST
                  go_wp2
                  go_roundg g2
                  case measure => omega
                  case rel => exact ⟨j + 1, x + 1, by omega, by rw [HX.out]; rfl, by go_num, rfl, by rw [HN.out], rfl⟩
      | succ g =>
        have hk : k < m := by omega
        have hks : k < s.size := by omega
        have hok := H.ok k (by omega)
        have hdot := H.dot_at k (by omega)
        have hstep : rsAt s (k + 1) = (rsAt s k).step (bt s k) := rfl
        have HS := Lib.hid hstep
        have hbt := bt_eq s k hks
        clear hstep
        by_cases hkp : k = p
        · have hc : bt s k = 46 := by rw [hkp]; exact H.dot
          rw [hbt] at hc
          have t1 : ((s[k].toNat : Int) == 95) = false := beq_eq_false_iff_ne.2 (by omega)
          have t2 : ((s[k].toNat : Int) == 46) = true := beq_iff_eq.2 (by omega)
          have hd : (rsAt s k).dot = false := by rw [hdot]; exact decide_eq_false (by omega)
          rw [hd]
          have HE : Hid (rsAt s (k + 1) = { rsAt s k with dot := true, dp := (rsAt s k).nd }) := by rw [HS.out, hbt, hc]; rfl
          clear HS hbt hc hdot hd hkp
          generalize rsAt s k = t at *
          go_wp2
          go_roundg g
          case measure => omega
          case rel => exact ⟨k + 1, by omega, by go_num, rfl, by rw [HE.out], by rw [HE.out], by rw [HE.out], by rw [HE.out], by rw [HE.out], by rw [HE.out], by rw [HE.out], rfl⟩
        · have hcd := H.dig k hk hkp
          rw [hbt] at hcd HS
          obtain ⟨c48, c57⟩ := hcd
          have t1 : ((s[k].toNat : Int) == 95) = false := beq_eq_false_iff_ne.2 (by omega)
          have t2 : ((s[k].toNat : Int) == 46) = false := beq_eq_false_iff_ne.2 (by omega)
          have c48' : (48 : Int) ≤ (s[k].toNat : Int) := by omega
          have c57' : (s[k].toNat : Int) ≤ 57 := by omega
          clear hdot hbt
          generalize rsAt s k = t at *
          have n1 : t.nd ≤ 40 := by have := hok.nd; omega
          have n2 : t.ndm ≤ 19 := hok.m19
          have n3 : -40 ≤ t.dp := by have := hok.dp1; omega
          have n4 : t.dp ≤ 40 := by have := hok.dp2; omega
          by_cases hlead : s[k].toNat = 48 ∧ t.nd = 0
          · have t3 : ((s[k].toNat : Int) == 48) = true := beq_iff_eq.2 (by omega)
            have t4 : ((t.nd : Int) == 0) = true := beq_iff_eq.2 (by omega)
            have HE : Hid (rsAt s (k + 1) = { t with dig := true, dp := t.dp - 1 }) := by
              rw [HS.out, hlead.1]; exact RS.step_lead t hlead.2
            clear HS hlead hok
            go_wp2
            go_roundg g
            case measure => omega
            case rel => exact ⟨k + 1, by omega, by go_num, rfl, by rw [HE.out], by rw [HE.out], by rw [HE.out], by rw [HE.out], by rw [HE.out], by rw [HE.out], by rw [HE.out], rfl⟩
          · by_cases h19 : t.ndm < 19
            · have hmant := hok.small h19
              have HE : Hid (rsAt s (k + 1) = { t with dig := true, nd := t.nd + 1, mant := t.mant * 10 + (s[k].toNat - 48), ndm := t.ndm + 1 }) := by
                rw [HS.out]; exact RS.step_digit t _ c48 hlead h19
              have t5 : (t.ndm : Int) < 19 := by omega
              have hor : ((s[k].toNat : Int) == 48) = false ∨ (((s[k].toNat : Int) == 48) = true ∧ ((t.nd : Int) == 0) = false) := by
                by_cases e : s[k].toNat = 48
                · exact .inr ⟨beq_iff_eq.2 (by omega), beq_eq_false_iff_ne.2 (by omega)⟩
                · exact .inl (beq_eq_false_iff_ne.2 (by omega))
              clear HS hlead hok h19
              rcases hor with t3 | ⟨t3, t4⟩
              all_goals
                go_wp2
                go_roundg g
                case measure => omega
                case rel => exact ⟨k + 1, by omega, by go_num, rfl, by rw [HE.out]; go_num, by rw [HE.out], by rw [HE.out], by rw [HE.out], by rw [HE.out]; go_num, by rw [HE.out]; go_num, by rw [HE.out], rfl⟩
            · have HE : Hid (rsAt s (k + 1) = { t with dig := true, nd := t.nd + 1, trunc := t.trunc || s[k].toNat != 48 }) := by
                rw [HS.out]; exact RS.step_more t _ c48 hlead h19
              have t5 : ¬ (t.ndm : Int) < 19 := by omega
              by_cases e : s[k].toNat = 48
              · have t3 : ((s[k].toNat : Int) == 48) = true := beq_iff_eq.2 (by omega)
                have t4 : ((t.nd : Int) == 0) = false := beq_eq_false_iff_ne.2 (by omega)
                have t6 : ((s[k].toNat : Int) != 48) = false := by rw [bne_eq_false_iff_eq]; omega
                have HT : Hid ((t.trunc || s[k].toNat != 48) = t.trunc) := by show _ = _; rw [e]; simp
                clear HS hlead hok h19 e
                go_wp2
                go_roundg g
                case measure => omega
                case rel => exact ⟨k + 1, by omega, by go_num, rfl, by rw [HE.out], by rw [HE.out]; exact congrArg Value.bool HT.out.symm, by rw [HE.out], by rw [HE.out], by rw [HE.out]; go_num, by rw [HE.out], by rw [HE.out], rfl⟩
              · have t3 : ((s[k].toNat : Int) == 48) = false := beq_eq_false_iff_ne.2 (by omega)
                have t6 : ((s[k].toNat : Int) != 48) = true := by rw [bne_iff_ne]; omega
                have HT : Hid ((t.trunc || s[k].toNat != 48) = true) := by show _ = _; simp [e]
                clear HS hlead hok h19 e
                go_wp2
                go_roundg g
                case measure => omega
                case rel => exact ⟨k + 1, by omega, by go_num, rfl, by rw [HE.out], by rw [HE.out]; exact congrArg Value.bool HT.out.symm, by rw [HE.out], by rw [HE.out], by rw [HE.out]; go_num, by rw [HE.out], by rw [HE.out], rfl⟩
end Go.Proofs.YtfgiejfjnhgcaaaGreatDoor
