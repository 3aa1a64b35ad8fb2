/- From a row's list of package-level variables to cells: slices and arrays, element by element. Over any program. -/
import Derived.Lib.LaidU8
import Derived.OpenShut
namespace SolF
open Go Go.RowKit Go.Lib Go.ChangeShapes Go.WideShapes

variable {P : Program} {w : World}

theorem at_of_take' {cs : List Value} {k : Nat} {v : Value} (h : (cs.drop k).take 1 = [v]) : cs[k]? = some v := by
  have := congrArg (fun l : List Value => l[0]?) h
  simpa [List.getElem?_take_of_lt, List.getElem?_drop] using this
theorem cell_of_cells {a : Addr} {n : Nat} {ce : List Value} {b : Nat} (h : w.cells? b a n = some ce) (j : Nat) (hj : j < n) : w.cell? (a.add j) = ce[j]? := (World.cells?_some h).2.2 j hj

theorem slice_of_reads {name : String} {g : Nat} {t e : TypeId} {ds : List (DataW Unit)} (hn : P.globalNamed name = some g) (hy : (P.globals[g]?).map (·.type) = some t)
    (ht : P.underlying t = some (.slice e)) (hc : 0 < P.cellsOf e) (hl : 0 < ds.length) (h : VarReads P w name (.slice ds [])) :
    ∃ R o cap, w.cell? ⟨g, 0, none⟩ = some (.slice (some ⟨R, o, none⟩) ds.length cap) ∧ ∀ i, i < ds.length → ∃ fuel ce p, (∀ j, j < P.cellsOf e → w.cell? ⟨R, o + (i * P.cellsOf e + j), none⟩ = ce[j]?) ∧
      DataW.trod (fun _ => ()) P w 0 (fun _ => true) false fuel e ce = some (ds.getD i .nil, p) := by
  obtain ⟨g', t', cs, fuel, p, hg, hty, hvar, hd⟩ := h
  obtain rfl := Option.some.inj (hn.symm.trans hg)
  obtain rfl := Option.some.inj (hy.symm.trans hty)
  rcases DataW.trod_slice ht hd with ⟨_, hx⟩ | ⟨a, len, cap, el, rs, m, rfl, hcs, hx, _, hlc, _, hel, helem, hsp, _⟩
  · cases hx
  have e0 := congrArg Prod.fst hx
  simp only [DataW.slice.injEq] at e0
  obtain ⟨eE, eR⟩ := e0
  have hlen : len = ds.length := by
    have := congrArg List.length eE
    simp at this
    omega
  have hcell : ∀ i, i < ds.length → ∃ ce p, (∀ j, j < P.cellsOf e → w.cell? ((a.add (i * P.cellsOf e)).add j) = ce[j]?) ∧ ce.length = P.cellsOf e ∧ DataW.trod (fun _ => ()) P w 0 (fun _ => true) false m e ce = some (ds.getD i .nil, p) := by
    intro i hi
    have h1 := helem i (by omega)
    obtain ⟨b, hb⟩ : ∃ b, el[i]? = some b := ⟨el[i]'(by omega), List.getElem?_eq_getElem (by omega)⟩
    rw [hb] at h1
    obtain ⟨ce, hce, hte⟩ := Option.bind_eq_some_iff.1 h1
    have hb1 : b.1 = ds.getD i .nil := by
      have := congrArg (·[i]?) eE
      simp [hb, hi] at this
      rw [List.getD_eq_getElem?_getD, List.getElem?_eq_getElem hi]
      exact this.symm
    refine ⟨ce, b.2, fun j hj => cell_of_cells hce j hj, (World.cells?_some hce).2.1, ?_⟩
    rw [hte, ← hb1]
  obtain ⟨R, o, sR⟩ := a
  obtain rfl : sR = none := by
    obtain ⟨ce, p, h00, hl0, _⟩ := hcell 0 hl
    have h0 := h00 0 hc
    rw [List.getElem?_eq_getElem (by omega)] at h0
    have e1 : ((Addr.add ⟨R, o, sR⟩ (0 * P.cellsOf e)).add 0) = ⟨R, o, sR⟩ := by simp [Addr.add]
    rw [e1] at h0
    exact Go.Proofs.cell_spot h0
  refine ⟨R, o, cap, ?_, fun i hi => ?_⟩
  · rw [World.var?_cell hg hvar 0, ← Array.getElem?_toList, hcs, hlen]
    rfl
  · obtain ⟨ce, p, h1, _, h2⟩ := hcell i hi
    refine ⟨m, ce, p, fun j hj => ?_, h2⟩
    have := h1 j hj
    rw [Addr.add_lit, Addr.add_lit] at this
    rw [← this, Nat.add_assoc]

theorem trod_float {H : Type} {enc : TypeId × Value → H} {base : Nat} {spare : Nat → Bool} {held : Bool} {t : TypeId} {fuel : Nat} {cs : List Value} {x : DataW H × List MemPlace} {k : FloatKind} (ht : P.underlying t = some (.float k)) (h : DataW.trod enc P w base spare held fuel t cs = some x) :
    ∃ n, cs = [.float k n] ∧ x = (.lit (.float k n), []) := by
  cases fuel with
  | zero => simp [DataW.trod] at h
  | succ n =>
    unfold DataW.trod at h
    rw [ht] at h
    split at h <;> simp_all

/-- a slice of floats -/
theorem floats_of_reads {name : String} {g : Nat} {t e : TypeId} {l : List Nat} (hn : P.globalNamed name = some g) (hy : (P.globals[g]?).map (·.type) = some t)
    (ht : P.underlying t = some (.slice e)) (he : P.underlying e = some (.float .f64)) (hc : P.cellsOf e = 1) (hl : 0 < l.length) (h : VarReads P w name (.slice (l.map fun (x : Nat) => .lit (.float .f64 x)) [])) :
    ∃ R o cap, w.cell? ⟨g, 0, none⟩ = some (.slice (some ⟨R, o, none⟩) l.length cap) ∧ ∀ i, i < l.length → w.cell? ⟨R, o + i, none⟩ = some (.float .f64 (l.getD i 0)) := by
  obtain ⟨R, o, cap, h1, h2⟩ := slice_of_reads hn hy ht (by omega) (by simpa using hl) h
  refine ⟨R, o, cap, by simpa using h1, fun i hi => ?_⟩
  obtain ⟨fuel, ce, p, h3, h4⟩ := h2 i (by simpa using hi)
  obtain ⟨n, rfl, hx⟩ := trod_float he h4
  have h5 := h3 0 (by omega)
  rw [hc, Nat.mul_one, Nat.add_zero] at h5
  rw [h5]
  have h6 := congrArg Prod.fst hx
  simp only [List.getD_eq_getElem?_getD, List.getElem?_map, List.getElem?_eq_getElem hi, Option.map_some, Option.getD_some, DataW.lit.injEq, Lit.float.injEq, true_and] at h6 ⊢
  rw [h6]
  rfl

/-- a slice of ints -/
theorem ints_of_reads {name : String} {g : Nat} {t e : TypeId} {k : IntKind} {l : List Nat} (hn : P.globalNamed name = some g) (hy : (P.globals[g]?).map (·.type) = some t)
    (ht : P.underlying t = some (.slice e)) (he : P.underlying e = some (.int k)) (hc : P.cellsOf e = 1) (hl : 0 < l.length) (h : VarReads P w name (.slice (l.map fun (x : Nat) => .lit (.int k (x : Int))) [])) :
    ∃ R o cap, w.cell? ⟨g, 0, none⟩ = some (.slice (some ⟨R, o, none⟩) l.length cap) ∧ ∀ i, i < l.length → w.cell? ⟨R, o + i, none⟩ = some (.int k (l.getD i 0 : Nat)) := by
  obtain ⟨R, o, cap, h1, h2⟩ := slice_of_reads hn hy ht (by omega) (by simpa using hl) h
  refine ⟨R, o, cap, by simpa using h1, fun i hi => ?_⟩
  obtain ⟨fuel, ce, p, h3, h4⟩ := h2 i (by simpa using hi)
  obtain ⟨n, rfl, hx, _⟩ := DataW.trod_int he h4
  have h5 := h3 0 (by omega)
  rw [hc, Nat.mul_one, Nat.add_zero] at h5
  rw [h5]
  have h6 := congrArg Prod.fst hx
  simp only [List.getD_eq_getElem?_getD, List.getElem?_map, List.getElem?_eq_getElem hi, Option.map_some, Option.getD_some, DataW.lit.injEq, Lit.int.injEq, true_and] at h6 ⊢
  rw [← h6]
  rfl

/-- a slice of a struct of an int and a string -/
theorem cheats_of_reads {name : String} {g : Nat} {t e ti ts : TypeId} {f0 f1 : Field} {l : List (Nat × List UInt8)} (hn : P.globalNamed name = some g) (hy : (P.globals[g]?).map (·.type) = some t)
    (ht : P.underlying t = some (.slice e)) (he : P.underlying e = some (.struct #[f0, f1])) (hc : P.cellsOf e = 2) (h0 : f0.type = ti ∧ f0.offset = 0) (h1 : f1.type = ts ∧ f1.offset = 1) (hi : P.underlying ti = some (.int .i64)) (hs : P.underlying ts = some .string)
    (c0 : P.cellsOf ti = 1) (c1 : P.cellsOf ts = 1) (hl : 0 < l.length) (h : VarReads P w name (.slice (l.map fun x => .agg [.lit (.int .i64 x.1), .lit (.string x.2)]) [])) :
    ∃ R o cap, w.cell? ⟨g, 0, none⟩ = some (.slice (some ⟨R, o, none⟩) l.length cap) ∧ ∀ i, i < l.length → w.cell? ⟨R, o + (i * 2), none⟩ = some (.int .i64 ((l.getD i (0, [])).1 : Int)) ∧
      ∃ s : ByteArray, s.data.toList = (l.getD i (0, [])).2 ∧ w.cell? ⟨R, o + (i * 2 + 1), none⟩ = some (.string s) := by
  obtain ⟨R, o, cap, h2, h3⟩ := slice_of_reads hn hy ht (by omega) (by simpa using hl) h
  refine ⟨R, o, cap, by simpa using h2, fun i hi' => ?_⟩
  obtain ⟨fuel, ce, p, h4, h5⟩ := h3 i (by simpa using hi')
  obtain ⟨y0, y1, n, hx, hlen, ha, hb⟩ := trod_struct2 he h5
  rw [h0.1, h0.2, c0] at ha
  rw [h1.1, h1.2, c1] at hb
  obtain ⟨z, hz, hy0, _⟩ := DataW.trod_int hi ha
  obtain ⟨s, hs', hy1, _⟩ := DataW.trod_string hs hb
  rw [hc] at h4 hlen
  have e0 := h4 0 (by omega)
  have e1 := h4 1 (by omega)
  have k0 := at_of_take' hz
  have k1 := at_of_take' hs'
  rw [k0] at e0
  rw [k1] at e1
  have h6 := congrArg Prod.fst hx
  rw [hy0, hy1] at h6
  simp only [List.getD_eq_getElem?_getD, List.getElem?_map, List.getElem?_eq_getElem hi', Option.map_some, Option.getD_some, DataW.agg.injEq, List.cons.injEq, DataW.lit.injEq, Lit.int.injEq, Lit.string.injEq, true_and, and_true] at h6 ⊢
  refine ⟨?_, s, h6.2.symm, e1⟩
  rw [Nat.add_zero] at e0
  rw [e0, ← h6.1]

/-- an array of pairs of words -/
theorem pairs_of_reads {name : String} {g : Nat} {t e tu : TypeId} {n : Nat} {f0 f1 : Field} {l : List (Nat × Nat)} (hn : P.globalNamed name = some g) (hy : (P.globals[g]?).map (·.type) = some t)
    (ht : P.underlying t = some (.array n e)) (he : P.underlying e = some (.struct #[f0, f1])) (hc : P.cellsOf e = 2) (h0 : f0.type = tu ∧ f0.offset = 0) (h1 : f1.type = tu ∧ f1.offset = 1) (hi : P.underlying tu = some (.int .u64))
    (c0 : P.cellsOf tu = 1) (hl : l.length = n) (h : VarReads P w name (.agg (l.map fun x => .agg [.lit (.int .u64 x.1), .lit (.int .u64 x.2)]))) :
    ∀ i, i < n → w.cell? ⟨g, i * 2, none⟩ = some (.int .u64 ((l.getD i (0, 0)).1 : Int)) ∧ w.cell? ⟨g, i * 2 + 1, none⟩ = some (.int .u64 ((l.getD i (0, 0)).2 : Int)) := by
  intro i hi'
  obtain ⟨g', t', cs, fuel, p, hg, hty, hvar, hd⟩ := h
  obtain rfl := Option.some.inj (hn.symm.trans hg)
  obtain rfl := Option.some.inj (hy.symm.trans hty)
  obtain ⟨fuel', d, q, hds, hte⟩ := array_elem ht hd i hi'
  rw [hc] at hte
  obtain ⟨y0, y1, m, hx, hlen, ha, hb⟩ := trod_struct2 he hte
  rw [h0.1, h0.2, c0] at ha
  rw [h1.1, h1.2, c0] at hb
  obtain ⟨z0, hz0, hy0, _⟩ := DataW.trod_int hi ha
  obtain ⟨z1, hz1, hy1, _⟩ := DataW.trod_int hi hb
  have k0 := at_of_take' hz0
  have k1 := at_of_take' hz1
  rw [List.getElem?_take_of_lt (by omega), List.getElem?_drop] at k0 k1
  have h6 := congrArg Prod.fst hx
  rw [hy0, hy1] at h6
  rw [List.getElem?_map] at hds
  have hii : i < l.length := by omega
  simp only [List.getElem?_eq_getElem hii, Option.map_some, Option.some.injEq] at hds
  rw [← hds] at h6
  simp only [DataW.agg.injEq, List.cons.injEq, DataW.lit.injEq, Lit.int.injEq, true_and, and_true] at h6
  simp only [List.getD_eq_getElem?_getD, List.getElem?_eq_getElem hii, Option.getD_some]
  rw [World.var?_cell hg hvar (i * 2), World.var?_cell hg hvar (i * 2 + 1), ← Array.getElem?_toList, ← Array.getElem?_toList, h6.1, h6.2]
  exact ⟨by simpa using k0, k1⟩
theorem iface_of_reads {name nm : String} {g : Nat} {t : TypeId} {ms : Array (String × TypeId)} {d : DataW Unit} (hn : P.globalNamed name = some g) (hy : (P.globals[g]?).map (·.type) = some t)
    (ht : P.underlying t = some (.interface ms)) (h : VarReads P w name (.iface nm d)) : ∃ tp p, w.cell? ⟨g, 0, none⟩ = some (.iface tp p) := by
  obtain ⟨g', t', cs, fuel, p, hg, hty, hvar, hd⟩ := h
  obtain rfl := Option.some.inj (hn.symm.trans hg)
  obtain rfl := Option.some.inj (hy.symm.trans hty)
  rw [World.var?_cell hg hvar 0, ← Array.getElem?_toList]
  cases fuel with
  | zero => simp [DataW.trod] at hd
  | succ n =>
    unfold DataW.trod at hd
    rw [ht] at hd
    split at hd <;> simp_all
end SolF
