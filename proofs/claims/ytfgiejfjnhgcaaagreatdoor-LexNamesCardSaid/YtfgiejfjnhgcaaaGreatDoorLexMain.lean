/- The walk of lex.Lex at every text of at most 8192 bytes: what it comes to is lexF of its bytes. -/
import Derived.Test.YtfgiejfjnhgcaaaGreatDoorLexTokenAny
namespace Go.Proofs.YtfgiejfjnhgcaaaGreatDoor
open Go Go.RowKit SolF Go.Shelf

def tokCells (ts : List Tok) : List Value := ts.flatMap fun t => [.int .i64 (t.kind : Int), .string ⟨t.text.toArray⟩, .int .i64 (t.pos : Int)]
def LexPost (r : Except (Nat × Nat) (List Tok)) (w : World) (e : Ending) (w' : World) : Prop :=
  (match r with
    | .error (p, c) => e = .returned (.tuple #[.slice none 0 0, .int .i64 (p : Int), .int .i64 (c : Int)])
    | .ok ts => ∃ v, e = .returned (.tuple #[v, .int .i64 0, .int .i64 0]) ∧ w'.ownsRow w.heap.size 49 3 v ts.length (tokCells ts)) ∧ Same w w'

/-- the three named results lie in blocks of their own -/
structure Res3 (B : Nat) (W : World) (v0 v1 v2 : Value) : Prop where
  b0 : W.heap[B]? = some (.cells #[v0] 42 (0, 0))
  b1 : W.heap[B + 1]? = some (.cells #[v1] 3 (0, 0))
  b2 : W.heap[B + 1 + 1]? = some (.cells #[v2] 36 (0, 0))
theorem Res3.start (w : World) (v0 v1 v2 : Value) : Res3 w.heap.size (((w.alloc (.cells #[v0] 42)).alloc (.cells #[v1] 3)).alloc (.cells #[v2] 36)) v0 v1 v2 := by
  have s1 : ((w.alloc (.cells #[v0] 42)).heap.size) = w.heap.size + 1 := by simp
  have s2 : (((w.alloc (.cells #[v0] 42)).alloc (.cells #[v1] 3)).heap.size) = w.heap.size + 1 + 1 := by simp
  refine ⟨?_, ?_, ?_⟩
  · rw [Below.heap_alloc _ _ _ (by omega), Below.heap_alloc _ _ _ (by omega)]; exact heap_alloc_new w _
  · rw [Below.heap_alloc _ _ _ (by omega), ← s1]; exact heap_alloc_new _ _
  · rw [← s2]; exact heap_alloc_new _ _
theorem Res3.lt {B : Nat} {W : World} {v0 v1 v2 : Value} (h : Res3 B W v0 v1 v2) : B + 1 + 1 < W.heap.size := lt_of_block h.b2
theorem Res3.same {B : Nat} {W W' : World} {v0 v1 v2 : Value} (h : Res3 B W v0 v1 v2) (hs : Same W W') : Res3 B W' v0 v1 v2 :=
  ⟨(hs.block _ (by have := h.lt; omega)).trans h.b0, (hs.block _ (by have := h.lt; omega)).trans h.b1, (hs.block _ h.lt).trans h.b2⟩
theorem Res3.set0 {B : Nat} {W : World} {v0 v1 v2 : Value} (h : Res3 B W v0 v1 v2) (u : Value) : Res3 B (W.setCell ⟨B, 0, none⟩ u) u v1 v2 :=
  ⟨one_setCell h.b0, (Below.heap_setCell _ _ _ _ (by simp)).trans h.b1, (Below.heap_setCell _ _ _ _ (by simp; omega)).trans h.b2⟩
theorem Res3.set1 {B : Nat} {W : World} {v0 v1 v2 : Value} (h : Res3 B W v0 v1 v2) (u : Value) : Res3 B (W.setCell ⟨B + 1, 0, none⟩ u) v0 u v2 :=
  ⟨(Below.heap_setCell _ _ _ _ (by simp)).trans h.b0, one_setCell h.b1, (Below.heap_setCell _ _ _ _ (by simp)).trans h.b2⟩
theorem Res3.set2 {B : Nat} {W : World} {v0 v1 v2 : Value} (h : Res3 B W v0 v1 v2) (u : Value) : Res3 B (W.setCell ⟨B + 1 + 1, 0, none⟩ u) v0 v1 u :=
  ⟨(Below.heap_setCell _ _ _ _ (by simp; omega)).trans h.b0, (Below.heap_setCell _ _ _ _ (by simp)).trans h.b1, one_setCell h.b2⟩
theorem Res3.grown {B : Nat} {W W' : World} {v0 v1 v2 : Value} {row : Option Nat} (h : Res3 B W v0 v1 v2) (hg : W.grownBy W' row) (hr : ∀ k, row = some k → B + 1 + 1 < k) : Res3 B W' v0 v1 v2 :=
  ⟨(hg.block _ (by have := h.lt; omega) (fun e => by have := hr _ e.symm; omega)).trans h.b0, (hg.block _ (by have := h.lt; omega) (fun e => by have := hr _ e.symm; omega)).trans h.b1, (hg.block _ h.lt (fun e => by have := hr _ e.symm; omega)).trans h.b2⟩

theorem Res3.drew {B : Nat} {W : World} {v0 v1 v2 : Value} (h : Res3 B W v0 v1 v2) : Res3 B W.drew v0 v1 v2 := ⟨h.b0, h.b1, h.b2⟩

theorem door_wrong (r : Except (Nat × Nat) (List Tok)) (w W : World) (tm : Array Value) (p c : Nat) (x0 x1 x2 : Value) (hr : r = .error (p, c)) (hS : Same w W) (hR : Res3 w.heap.size W x0 x1 x2)
    (t2 : tm[2]? = some (.pointer (some ⟨w.heap.size, 0, none⟩))) (t3 : tm[3]? = some (.pointer (some ⟨w.heap.size + 1, 0, none⟩))) (t4 : tm[4]? = some (.pointer (some ⟨w.heap.size + 1 + 1, 0, none⟩))) :
    bodyPostD Tryz.prog Tryz.f33 (LexPost r w) (Exit.panic [{ v := .iface 90 (.agg #[.int .i64 (p : Int), .int .i64 (c : Int)]), recovered := false }])
      { tmps := tm, defers := [{ target := Target.fn (Fn.func 62) #[.pointer (some ⟨w.heap.size, 0, none⟩), .pointer (some ⟨w.heap.size + 1, 0, none⟩), .pointer (some ⟨w.heap.size + 1 + 1, 0, none⟩)], args := #[] }] } W := by
  subst hr
  refine leaves_cons (f := 62) (args := #[.pointer (some ⟨w.heap.size, 0, none⟩), .pointer (some ⟨w.heap.size + 1, 0, none⟩), .pointer (some ⟨w.heap.size + 1 + 1, 0, none⟩)]) (by simp) (by simp [go_sem]) ?_
  refine (catch_wrong w.heap.size p c W hR.lt x0 x1 x2 (cell_of_one hR.b0) (cell_of_one hR.b1) (cell_of_one hR.b2) (free_of_one hR.b0) (free_of_one hR.b1) (free_of_one hR.b2)).mono ?_
  rintro e u' w'' ⟨rfl, rfl, hB, d0, d1, d2⟩
  refine ⟨_, ?_, ⟨rfl, Below.trans hS hB⟩⟩
  simp [results, Tryz.f33, t2, t3, t4, d0, d1, d2, go_sem]

theorem door_ok (r : Except (Nat × Nat) (List Tok)) (w W : World) (tm : Array Value) (x0 x1 x2 : Value) (hR : Res3 w.heap.size W x0 x1 x2)
    (t2 : tm[2]? = some (.pointer (some ⟨w.heap.size, 0, none⟩))) (t3 : tm[3]? = some (.pointer (some ⟨w.heap.size + 1, 0, none⟩))) (t4 : tm[4]? = some (.pointer (some ⟨w.heap.size + 1 + 1, 0, none⟩)))
    (h : ∀ W', Same W W' → LexPost r w (.returned (.tuple #[x0, x1, x2])) W') :
    bodyPostD Tryz.prog Tryz.f33 (LexPost r w) Exit.ret
      { tmps := tm, defers := [{ target := Target.fn (Fn.func 62) #[.pointer (some ⟨w.heap.size, 0, none⟩), .pointer (some ⟨w.heap.size + 1, 0, none⟩), .pointer (some ⟨w.heap.size + 1 + 1, 0, none⟩)], args := #[] }] } W := by
  refine leaves_cons (f := 62) (args := #[.pointer (some ⟨w.heap.size, 0, none⟩), .pointer (some ⟨w.heap.size + 1, 0, none⟩), .pointer (some ⟨w.heap.size + 1 + 1, 0, none⟩)]) (by simp) (by simp [go_sem]) ?_
  refine (catch_idle _ _ _ W).mono ?_
  rintro e u' w'' ⟨rfl, rfl, hB⟩
  have hR' := hR.same hB
  refine ⟨_, ?_, h w'' hB⟩
  simp [results, Tryz.f33, t2, t3, t4, cell_of_one hR'.b0, cell_of_one hR'.b1, cell_of_one hR'.b2, go_sem]

/-- at a round's head: n tokens are told, at a one stands, or the end is -/
structure LexAtHead (s : ByteArray) (w : World) (f n a : Nat) (ts : List Tok) (A : Option Addr) (c : Nat) (wr : World) : Prop where
  le : a ≤ s.size
  fuel : s.size - a ≤ f
  n1 : ts.length = n
  n2 : n ≤ 2500
  now : lexF formL s.data.toList = joinT ts (lexAt formL f n a (s.data.toList.drop a))
  res : Res3 w.heap.size wr (.slice A n c) (.int .i64 (a : Int)) (.int .i64 0)
  own : wr.ownsRow (w.heap.size + 1 + 1 + 1) 49 3 (.slice A n c) n (tokCells ts)
  same : Same w wr
def LexInv (s : ByteArray) (w : World) (g : Nat) (wr : World) : Prop := ∃ f n a ts A c, s.size - a = g ∧ LexAtHead s w f n a ts A c wr

theorem own_same {w w' : World} {base : Nat} {e : TypeId} {size : Nat} {v : Value} {n : Nat} {xs : List Value} (h : w.ownsRow base e size v n xs) (hs : Same w w') : w'.ownsRow base e size v n xs := by
  refine ⟨h.1, ?_⟩
  rcases h.2 with hn | ⟨g, cap, cur, rfl, hb, hgg, rest⟩
  · exact .inl hn
  · exact .inr ⟨g, cap, cur, rfl, hb, (hs.block g (lt_of_block hgg)).trans hgg, rest⟩

theorem own_shape {w : World} {base : Nat} {e : TypeId} {size : Nat} {v : Value} {n : Nat} {xs : List Value} (h : w.ownsRow base e size v n xs) : ∃ A c, v = .slice A n c := by
  rcases h.2 with ⟨rfl, rfl⟩ | ⟨g, cap, cur, rfl, _⟩
  · exact ⟨none, 0, rfl⟩
  · exact ⟨_, _, rfl⟩
theorem new_cells (w : World) (l : List Value) (t : TypeId) : ∀ (j : Nat) (u : Value), l[j]? = some u → (w.alloc (.cells l.toArray t)).cell? ((⟨w.heap.size, 0, none⟩ : Addr).add j) = some u := by
  intro j u h
  rw [Addr.add_lit, Nat.zero_add, cell_of_row _ _ _ _ _ _ (heap_alloc_new w _)]
  simpa using h
theorem one_three (k k' : IntKind) (a b : Int) (x : ByteArray) : ∀ u ∈ [Value.int k a, .string x, .int k' b], u.oneCell' = true := by
  intro u hu
  simp only [List.mem_cons, List.not_mem_nil, or_false] at hu
  rcases hu with rfl | rfl | rfl <;> rfl
theorem alloc_room {w' : World} {n : Nat} (h : n < w'.heap.size) (o : Obj) : n + 1 ≤ (w'.alloc o).heap.size := by simp; omega
theorem own_base {w' : World} {base base' : Nat} {e : TypeId} {size : Nat} {v : Value} {n : Nat} {xs : List Value} (h : w'.ownsRow base e size v n xs) (hb : base' ≤ base) : w'.ownsRow base' e size v n xs := by
  refine ⟨h.1, ?_⟩
  rcases h.2 with hn | ⟨g, cap, cur, rfl, hg, rest⟩
  · exact .inl hn
  · exact .inr ⟨g, cap, cur, rfl, by omega, rest⟩
theorem tokCells_snoc (ts : List Tok) (t : Tok) : tokCells (ts ++ [t]) = tokCells ts ++ [.int .i64 (t.kind : Int), .string ⟨t.text.toArray⟩, .int .i64 (t.pos : Int)] := by
  simp [tokCells]
theorem post_ok {r : Except (Nat × Nat) (List Tok)} {w W : World} {ts : List Tok} {v : Value} (hr : r = .ok ts) (hS : Same w W) (ho : W.ownsRow w.heap.size 49 3 v ts.length (tokCells ts)) : LexPost r w (.returned (.tuple #[v, .int .i64 0, .int .i64 0])) W := by
  subst hr
  exact ⟨⟨v, rfl, ho⟩, hS⟩
theorem post_err {r : Except (Nat × Nat) (List Tok)} {w W : World} {p c : Nat} (hr : r = .error (p, c)) (hS : Same w W) : LexPost r w (.returned (.tuple #[.slice none 0 0, .int .i64 (p : Int), .int .i64 (c : Int)])) W := by
  subst hr
  exact ⟨rfl, hS⟩
theorem new_cells2 (w : World) (o : Obj) (l : List Value) (t : TypeId) : ∀ (j : Nat) (u : Value), l[j]? = some u → ((w.alloc o).alloc (.cells l.toArray t)).cell? ((⟨w.heap.size + 1, 0, none⟩ : Addr).add j) = some u := by
  have h := new_cells (w.alloc o) l t
  simpa using h
theorem alloc_room2 {w' : World} {n : Nat} (h : n < w'.heap.size) (o o' : Obj) : n + 1 ≤ ((w'.alloc o).alloc o').heap.size := by simp; omega
theorem set_far (w : World) (p q : Addr) (u : Value) (h : q.block ≠ p.block) : (w.setCell p u).cell? q = w.cell? q := World.cell?_setCell_other w p q u (fun e => h (by rw [e]))
theorem tok_info : (Tryz.prog.info? 49).map (fun i => (i.zero, i.size, i.bytes)) = some (some (.agg #[.int .i64 0, .string ⟨#[]⟩, .int .i64 0]), 3, 32) := by kernel_rfl

set_option maxRecDepth 100000 in
set_option maxHeartbeats 4000000 in
theorem lex_any (I : World → Prop) (s : ByteArray) (w : World) (hs : s.size ≤ 8192) (E : LexEnv w) (hI : ∀ w', Same w w' → I w') (hpf : ∀ a, a < s.size → RealsAt I (s.data.toList.drop a)) :
    Calls Tryz.prog 33 #[.string s] w (LexPost (lexF formL s.data.toList) w) := by
  have hmf : ∀ (fn : Fn) (first cap : Array Value) (w : World), (Instr.makeFunc fn first cap).run Tryz.prog w = .ok (.func fn first cap) w := fun _ _ _ _ => rfl
  have i0 : ¬ (8192 : Int) < (s.size : Int) := by omega
  have HE := Lib.hid E
  have HI := Lib.hid hI
  have HP := Lib.hid hpf
  clear E hI hpf
  obtain ⟨ti, ti0, ti1, ti2, ti3⟩ := info_parts tok_info
  go_enter_defers Tryz.func33, Tryz.ntmps33
  go_wp2_with fail
  obtain ⟨m, hm⟩ := HE.out.ml
  refine (gap_any s 0 _ m (by omega) (by omega) (alloc_cell (alloc_cell (alloc_cell hm _) _) _)).mono ?_
  unfold GapPost
  rintro e w' ⟨rfl, rfl⟩
  clear hm
  rw [List.drop_zero, Nat.zero_add]
  have hgl := gapR_le s.data.toList
  have hlen : s.data.toList.length = s.size := by simp
  have HF := Lib.hid (show lexF formL s.data.toList = lexGo formL (s.data.toList.length + 1) 0 0 s.data.toList by unfold lexF; rw [if_neg (by omega)])
  have HLEN := Lib.hid hlen
  rw [hlen] at hgl
  clear hlen
  cases hg : (gapR s.data.toList).2 with
  | false =>
    have HG := Lib.hid (HF.out.trans (lexGo_bad hg))
    clear hg HF
    go_wp2_with fail
    exact door_wrong _ _ _ _ _ _ _ _ _ (HG.out.trans (by rw [Nat.zero_add])) (by show Below _ _ _; go_grown) (Res3.start _ _ _ _) rfl rfl rfl
  | true =>
    have HG := Lib.hid (HF.out.trans (lexGo_good hg))
    rw [Nat.zero_add] at HG
    clear hg HF
    generalize (gapR s.data.toList).1 = a at *
    rw [HLEN.out] at HG
    go_wp2_with fail
    go_loopg [5] (s.size - a) (fun g v5 wr => LexInv s w g wr)
    case atStart => exact ⟨s.size, 0, a, [], none, 0, rfl, hgl, by omega, rfl, by omega, HG.out.trans (joinT_nil _).symm, Res3.start _ _ _ _, World.ownsRow_nil _ _ _ _, by show Below _ _ _; go_grown⟩
    case round =>
      obtain ⟨f, n, b, ts, A, c, hgk, H⟩ := hrel
      clear HG hgl
      have hle := H.le
      have HH := Lib.hid H
      have c0 := cell_of_one H.res.b0
      have c1 := cell_of_one H.res.b1
      have c2 := cell_of_one H.res.b2
      have f0 := free_of_one H.res.b0
      have f1 := free_of_one H.res.b1
      have f2 := free_of_one H.res.b2
      clear H
      by_cases hlt : b < s.size
      · have i1 : (b : Int) < (s.size : Int) := by omega
        go_wp2_with fail
        refine (token_any I s b _ (by omega) hlt (HE.out.same HH.out.same) (fun w' h => HI.out w' (HH.out.same.trans h)) (HP.out b hlt)).mono ?_
        intro e w1 hT
        obtain ⟨hT, hS1⟩ := hT
        obtain ⟨ch, r, hcr⟩ : ∃ ch r, s.data.toList.drop b = ch :: r := by
          cases h : s.data.toList.drop b with
          | nil => rw [List.drop_eq_nil_iff, HLEN.out] at h; omega
          | cons ch r => exact ⟨ch, r, rfl⟩
        have hne : s.data.toList.drop b ≠ [] := by rw [hcr]; exact List.cons_ne_nil _ _
        have htl := tokenL_le formL ch r
        have htp := tokenL_pos formL ch r
        rw [← hcr] at htl htp
        rw [List.length_drop, HLEN.out] at htl
        have NONE := Lib.hid (lexAt_none (form := formL) (f := f) (n := n) (a := b) hne)
        have FULL := Lib.hid (lexAt_full (form := formL) (f := f) (a := b) hne)
        have BAD := Lib.hid (lexAt_bad (form := formL) (f := f - 1) (n := n) (a := b) hne)
        have MORE := Lib.hid (lexAt_more (form := formL) (f := f - 1) (n := n) (a := b) hne)
        have hf1 : f - 1 + 1 = f := by have := HH.out.fuel; omega
        rw [hf1] at BAD MORE
        clear hne hcr hf1 ch r
        have hgl := gapR_le ((s.data.toList.drop b).drop (tokenL formL (s.data.toList.drop b)).2)
        have hdd : (s.data.toList.drop b).drop (tokenL formL (s.data.toList.drop b)).2 = s.data.toList.drop (b + (tokenL formL (s.data.toList.drop b)).2) := by rw [List.drop_drop]
        rw [hdd] at BAD MORE hgl
        rw [List.length_drop, HLEN.out] at hgl
        clear hdd
        generalize htk : tokenL formL (s.data.toList.drop b) = tk at *
        obtain ⟨k, m⟩ := tk
        simp only at hT htl htp hgl
        by_cases hk : k = 0
        · rw [if_pos hk] at hT
          subst hT
          have hR1 := HH.out.res.same hS1
          have hNow : lexF formL s.data.toList = .error (b, 10) := by rw [HH.out.now, NONE.out hk]; rfl
          have HNow := Lib.hid hNow
          clear hNow
          go_wp2_with fail
          exact door_wrong _ _ _ _ _ _ _ _ _ HNow.out (HH.out.same.trans hS1) hR1 rfl rfl rfl
        · rw [if_neg hk] at hT
          subst hT
          have hR1 := Lib.hid (HH.out.res.same hS1)
          have hO1 := Lib.hid (own_same HH.out.own hS1)
          have d0 := cell_of_one hR1.out.b0
          have d1 := cell_of_one hR1.out.b1
          have d2 := cell_of_one hR1.out.b2
          have g0 := free_of_one hR1.out.b0
          have g1 := free_of_one hR1.out.b1
          have g2 := free_of_one hR1.out.b2
          have hs1 := hR1.out.lt
          have h0 : w.heap.size < w1.heap.size := by omega
          have h1 : w.heap.size + 1 < w1.heap.size := by omega
          have HS1 := Lib.hid (HH.out.same.trans hS1)
          have hmm : 0 < m := htp hk
          have HK := Lib.hid hk
          have HTK := Lib.hid htk
          have htx : ((s.data.toList.drop b).take m).length = m := by rw [List.length_take, List.length_drop, HLEN.out]; omega
          obtain ⟨x, hx⟩ : ∃ x : ByteArray, x = ⟨((s.data.toList.drop b).take m).toArray⟩ := ⟨_, rfl⟩
          have hxm : x.size = m := by rw [hx]; show (((s.data.toList.drop b).take m).toArray).size = m; simpa using htx
          rw [← hx]
          have HTX := Lib.hid hx
          have HXM := Lib.hid hxm
          have hxb : x.size ≤ 8192 := by omega
          have hx1 : 0 < x.size := by omega
          have hx2 : b + x.size ≤ s.size := by omega
          rw [← hxm] at hgl BAD MORE
          clear hS1 c0 c1 c2 f0 f1 f2 hk htk htp htx hx hxm hmm htl
          by_cases hn : n = 2500
          · subst hn
            have hNow : lexF formL s.data.toList = .error (b, 5) := by rw [HH.out.now, FULL.out HK.out]; rfl
            have HNow := Lib.hid hNow
            clear hNow
            go_wp2_with fail
            go_region
            all_goals
              go_wp2
              refine door_ok _ _ _ _ _ _ _ ((((hR1.out.set0 _).set1 _).set2 _).same (Same.new _ _)).drew rfl rfl rfl fun W' hW => post_err HNow.out (Same.trans (Below.trans HS1.out ?_) hW)
              go_grown
          · have hnb : ((n : Int) == 2500) = false := beq_eq_false_iff_ne.2 (by omega)
            have HN := Lib.hid hn
            have hn2 := HH.out.n2
            have hn1 : n + 1 ≤ 9223372036854775807 := by omega
            have hbm : (n + 1) * 32 ≤ 140737488355328 := by omega
            have hbb : b ≤ 8192 := by omega
            clear hn
            go_wp2_with (at_builtin; refine wpList_append_own _ rfl (.tmp 26) (.tmp 28) _ rfl (w.heap.size + 1 + 1 + 1) 49 ti _ 3 32 Tryz.underlying42 ti0 ti1 ti2 ti3 rfl (by decide) (.slice A n c) n (tokCells ts) rfl ((hO1.out.alloc _).alloc _) ⟨w1.heap.size + 1, 0, none⟩ 1 1 [.int .i64 k, .string x, .int .i64 b] rfl rfl (new_cells2 w1 _ _ _) (one_three _ _ _ _ _) hn1 hbm (alloc_room2 hs1 _ _) ?_)
            intro v' w2 hown2 hgr2 _
            obtain ⟨A', c', rfl⟩ := own_shape hown2
            have hrow : ∀ k, (Value.slice A n c).ownBlock = some k → w.heap.size + 1 + 1 < k ∧ k < w1.heap.size := fun k hk => by have := hO1.out.lt k hk; omega
            have hR2 := Lib.hid (((hR1.out.same (Same.new _ _)).same (Same.new _ _)).grown hgr2 fun k hk => (hrow k hk).1)
            have hS2 := Lib.hid (((HS1.out.trans (Same.new _ _)).trans (Same.new _ _)).grown hgr2 (by have := hR1.out.lt; simp; omega) (fun k hk => by have := (hrow k hk).1; omega))
            have hT2 : w2.heap[w1.heap.size]? = some (.cells #[.int .i64 k, .string x, .int .i64 b] 49 (0, 0)) :=
              (hgr2.block _ (by simp; omega) (fun e => by have := (hrow _ e.symm).2; omega)).trans ((Below.heap_alloc _ _ _ (by simp)).trans (heap_alloc_new w1 _))
            have e1 : w2.cell? ⟨w1.heap.size, 1, none⟩ = some (.string x) := by rw [cell_of_row _ _ _ _ _ _ hT2]; rfl
            have e2 := cell_of_one hR2.out.b0
            have e3 := cell_of_one hR2.out.b1
            have e4 := cell_of_one hR2.out.b2
            have k0 := free_of_one hR2.out.b0
            have k1 := free_of_one hR2.out.b1
            have k2 := free_of_one hR2.out.b2
            have ne1 : ¬ w.heap.size = w1.heap.size := by omega
            have ne2 : ¬ w.heap.size + 1 = w1.heap.size := by omega
            have HO := Lib.hid hown2
            clear hown2 hgr2 hrow hT2 d0 d1 d2 g0 g1 g2
            go_wp2_with fail
            have hsum : (b : Int) + (x.size : Int) = ((b + x.size : Nat) : Int) := by omega
            rw [hsum]
            have HSUM := Lib.hid hsum
            clear hsum
            obtain ⟨ml, hml⟩ := HE.out.ml
            refine (gap_any s (b + x.size) _ ml (by omega) hx2 ?_).mono ?_
            · have hlt2 := lt_of_cell' hml
              rw [set_far _ _ _ _ (by simp only at hlt2 ⊢; omega), set_far _ _ _ _ (by simp only at hlt2 ⊢; omega)]
              exact (hS2.out.cell hlt2).trans hml
            unfold GapPost
            rintro e w3 ⟨rfl, rfl⟩
            clear hml
            cases hg : (gapR (s.data.toList.drop (b + x.size))).2 with
            | false =>
              have hNow : lexF formL s.data.toList = .error (b + x.size + (gapR (s.data.toList.drop (b + x.size))).1, 10) := by rw [HH.out.now, BAD.out HK.out HN.out hg]; rfl
              have HNow := Lib.hid hNow
              clear hNow hg
              go_wp2_with fail
              refine door_wrong _ _ _ _ _ _ _ _ _ HNow.out ?_ ((hR2.out.set0 _).set1 _) rfl rfl rfl
              refine Below.trans hS2.out ?_
              go_grown
            | true =>
              have hNow := HH.out.now
              rw [MORE.out HK.out HN.out hg, joinT_join] at hNow
              have HNow := Lib.hid hNow
              have HG := Lib.hid hg
              clear hNow hg
              generalize hgv : (gapR (s.data.toList.drop (b + x.size))).1 = gv at *
              have HGV := Lib.hid hgv
              clear hgv
              go_wp2_with fail
              go_roundg (s.size - (b + x.size + gv))
              case measure => omega
              case rel =>
                have hts : (ts ++ [(⟨k, (s.data.toList.drop b).take x.size, b⟩ : Tok)]).length = n + 1 := by rw [List.length_append, HH.out.n1]; rfl
                refine ⟨f - 1, n + 1, b + x.size + gv, ts ++ [⟨k, (s.data.toList.drop b).take x.size, b⟩], A', c', rfl, by omega, by have := HH.out.fuel; omega, hts, by have := HN.out; omega, ?_, by rw [show ((b + x.size + gv : Nat) : Int) = ↑b + ↑x.size + ↑gv from by omega]; exact ((hR2.out.set0 _).set1 _).set1 _, ?_, ?_⟩
                · rw [HNow.out, List.drop_drop]
                · refine ownsRow_setCell_below (ownsRow_setCell_below (ownsRow_setCell_below ?_ (by simp; omega) _) (by simp) _) (by simp) _
                  rw [tokCells_snoc, HXM.out, ← HTX.out]
                  exact HO.out
                · refine Below.trans hS2.out ?_
                  go_grown
      · have i1 : ¬ (b : Int) < (s.size : Int) := by omega
        have hown := Lib.hid HH.out.own
        have hn := HH.out.n2
        have hn1 : n + 1 ≤ 9223372036854775807 := by omega
        have hbm : (n + 1) * 32 ≤ 140737488355328 := by omega
        have hsz : w.heap.size + 1 + 1 < wr.heap.size := HH.out.res.lt
        go_wp2_with (at_builtin; refine wpList_append_own _ rfl (.tmp 35) (.tmp 39) _ rfl (w.heap.size + 1 + 1 + 1) 49 ti _ 3 32 Tryz.underlying42 ti0 ti1 ti2 ti3 rfl (by decide) (.slice A n c) n (tokCells ts) rfl (hown.out.alloc _) ⟨wr.heap.size, 0, none⟩ 1 1 [.int .i64 0, .string ⟨#[]⟩, .int .i64 s.size] rfl rfl (new_cells wr _ _) (one_three _ _ _ _ _) hn1 hbm (alloc_room hsz _) ?_)
        intro v' w1 hown1 hgr _
        obtain ⟨A', c', rfl⟩ := own_shape hown1
        have hR1 := Lib.hid ((HH.out.res.same (Same.new _ _)).grown hgr (fun k hk => by have := (hown.out.lt k hk).1; omega))
        have hS1 := Lib.hid ((HH.out.same.trans (Same.new _ _)).grown hgr (by have := HH.out.same.size; simp; omega) (fun k hk => by have := (hown.out.lt k hk).1; omega))
        have d0 := cell_of_one hR1.out.b0
        have d1 := cell_of_one hR1.out.b1
        have d2 := cell_of_one hR1.out.b2
        have g0 := free_of_one hR1.out.b0
        have g1 := free_of_one hR1.out.b1
        have g2 := free_of_one hR1.out.b2
        have HO := Lib.hid hown1
        clear hown1 hgr
        go_wp2
        refine door_ok _ _ _ _ _ _ _ (((hR1.out.set0 _).set1 _).set2 _) rfl rfl rfl fun W' hW => ?_
        have hbs : b = s.size := by omega
        have hts : (ts ++ [(⟨0, [], b⟩ : Tok)]).length = n + 1 := by rw [List.length_append, HH.out.n1]; rfl
        refine post_ok (ts := ts ++ [⟨0, [], b⟩]) ?_ ?_ ?_
        · rw [HH.out.now, List.drop_eq_nil_of_le (by rw [HLEN.out]; omega), lexAt_nil]; rfl
        · refine Same.trans (Below.trans hS1.out ?_) hW
          go_grown
        · refine own_same (own_base (ownsRow_setCell_below (ownsRow_setCell_below (ownsRow_setCell_below ?_ (by simp; omega) _) (by simp) _) (by simp) _) (show w.heap.size ≤ w.heap.size + 1 + 1 + 1 by omega)) hW
          rw [hts, tokCells_snoc, hbs]
          exact HO.out
end Go.Proofs.YtfgiejfjnhgcaaaGreatDoor
