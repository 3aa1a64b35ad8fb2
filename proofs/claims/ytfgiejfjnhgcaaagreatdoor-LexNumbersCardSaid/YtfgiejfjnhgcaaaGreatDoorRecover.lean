/- A deferred closure whose first operation is 'recover': its contract out of a plain walk of what comes behind. Over any program. -/
import Derived.Recover
import Derived.Tactics
import Derived.WalkKit
namespace SolF
open Go

section
variable {P : Program}

theorem wpS_region_recover {Q : Exit → Act → List Frame → World → Prop} {Q0 : Exit → Act → World → Prop} {a : Act} {cs cs' : List Frame} {w : World} {id : Nat} {o : Oper} {rest : List Oper} {v : Value} (hg : o.guard = none)
    (hr : (execOp a.eval o).run P w = .ok .recover w) (hrec : (match recoverD cs with | some (v, cs') => (v, cs') | none => (.nilIface, cs)) = (v, cs'))
    (hq0 : ∀ e a w, Q0 e a w → Q e a cs' w) (h : wpList P (o :: rest).toArray Q0 rest (a.put o.dst v) w) : (Code.region id (o :: rest).toArray false).wpS P Q a cs w := by
  intro b k hb hro
  have hlen : List.range (o :: rest).toArray.size = 0 :: List.range' 1 rest.length := by
    rw [List.range_eq_range']
    simp [List.range'_succ]
  have h' : wpOps P (o :: rest).toArray Q0 (List.range' 1 rest.length) (a.put o.dst v) w := by
    rw [wpOps_eq_wpList rest 1 (fun j => by simp [Nat.add_comm 1 j])]
    exact h
  obtain ⟨e, a', w', hq, harr⟩ := wp_ops _ _ _ h' b k cs'
  refine ⟨e, a', cs', w', hq0 _ _ _ hq, .of_steps (.one step_region) ?_⟩
  rw [hlen]
  have ho : (o :: rest).toArray[0]? = some o := by simp
  have hw : Region.wanted o (yielded (o :: rest).toArray a.tmps) = true := by simp [Region.wanted, hg]
  have hgo := stepG_op (P := P) (b := b) (k := k) (cs := cs) (w := w) (rest := List.range' 1 rest.length) ho hw
  have hfin : ∀ v, (b.at a (.inRegion (o :: rest).toArray (0 :: List.range' 1 rest.length) :: k)).finish v = b.at (a.put o.dst v) (.inRegion (o :: rest).toArray (List.range' 1 rest.length) :: k) := by
    intro v; rw [Frame.finish_at, ho]; rfl
  have hk : (b.at a (.inRegion (o :: rest).toArray (0 :: List.range' 1 rest.length) :: k)).kind = .deferred := hb
  have htr := tryRecover_deferred hk cs
  refine .of_steps (.one (step_lone_go ?_)) harr
  rw [hgo, ← hfin]
  simp only [Frame.at] at htr ⊢
  revert hrec
  cases hc : recoverD cs with
  | none =>
    intro hh
    simp only [Prod.mk.injEq] at hh
    obtain ⟨rfl, rfl⟩ := hh
    simp [stepG.apply, hr, htr, hc]
  | some p =>
    obtain ⟨v', cs''⟩ := p
    intro hh
    simp only [Prod.mk.injEq] at hh
    obtain ⟨rfl, rfl⟩ := hh
    simp [stepG.apply, hr, htr, hc]

theorem bodyPostS_of {fn : Func} {c₀ : Frame} {cs : List Frame} {R : Ending → FrameMode → World → Prop} {u' : FrameMode} {e : Exit} {a : Act} {w : World}
    (h : bodyPost P fn (fun e w => R e u' w) e a w) : bodyPostS P fn c₀ cs R e a ({ c₀ with mode := u' } :: cs) w := by
  cases e with
  | normal => obtain ⟨hd, v, hr, hR⟩ := h; exact ⟨hd, u', rfl, v, hr, hR⟩
  | ret => obtain ⟨hd, v, hr, hR⟩ := h; exact ⟨hd, u', rfl, v, hr, hR⟩
  | panic ch => exact ⟨h.1, u', rfl, h.2⟩
  | outgrown => exact ⟨u', h⟩
  | exit id => exact h.elim
  | goto l => exact h.elim

theorem callsD_recover {f : FuncId} {fn : Func} {id : Nat} {o : Oper} {rest : List Oper} {y : Code} {args : Array Value} {u u' : FrameMode} {v : Value} {w : World} {R : Ending → FrameMode → World → Prop}
    (hf : P.funcs[f]? = some fn) (hb : fn.body = some ((Code.region id (o :: rest).toArray false).seq y)) (hg : o.guard = none)
    (hr : ∀ (a : Act) (w : World), (execOp a.eval o).run P w = .ok .recover w)
    (hrec : ∀ (c : Frame) (cs : List Frame), c.mode = u → (match recoverD (c :: cs) with | some (v, cs') => (v, cs') | none => (.nilIface, c :: cs)) = (v, { c with mode := u' } :: cs))
    (h : wpList P (o :: rest).toArray (Exit.then (y.wp P (bodyPost P fn (fun e w => R e u' w))) (bodyPost P fn (fun e w => R e u' w))) rest
      (({ tmps := args ++ Array.replicate (fn.ntmps - args.size) undef, defers := [] } : Act).put o.dst v) w) : CallsD P f args u w R := by
  refine callsD_of_wpS hf hb fun c₀ cs hu => ?_
  apply wpS_seq
  refine wpS_region_recover hg (hr _ _) (hrec c₀ cs hu) (fun e a w he => ?_) h
  cases e with
  | normal => exact wpS_of_wp (wp_mono he fun e a w h => bodyPostS_of (P := P) (fn := fn) h)
  | ret => exact bodyPostS_of (P := P) (fn := fn) (u' := u') (e := .ret) he
  | panic ch => exact bodyPostS_of (P := P) (fn := fn) (u' := u') (e := .panic ch) he
  | outgrown => exact ⟨u', he⟩
  | exit id => exact he.elim
  | goto l => exact he.elim
end
end SolF
