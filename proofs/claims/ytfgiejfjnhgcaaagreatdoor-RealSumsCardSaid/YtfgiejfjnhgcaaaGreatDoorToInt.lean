/- The walks of math.Trunc and real.ToInt. -/
import Derived.Test.YtfgiejfjnhgcaaaGreatDoorRealOps
namespace Go.Proofs.YtfgiejfjnhgcaaaGreatDoor
open Go Go.RowKit SolF

/-- a number without what stands behind its point -/
def truncB (a : Nat) : Nat := FloatKind.f64.encode ((rd a).integral .zero)

theorem arch_num (a : Nat) (w : World) (h : (rd a).isNaN = false) : (callFunc 69 #[.float .f64 a]).run Tryz.prog w = .ok (.value (.float .f64 (truncB a))) w := by
  rw [run_callFunc_extern Tryz.func69 (by kernel_rfl) (by kernel_rfl) (by kernel_rfl) (e := Extern.MathFloor.toIntegral "math.archTrunc" .zero) (by kernel_rfl)]
  show (Sem.run Tryz.prog (match rd a with
    | .nan s t => if FloatKind.f64.format.quiet t = t then (pure (Value.float .f64 a) : Sem Value) else do
        let kept ← choose (.extern "math.Floor,Ceil,Trunc,RoundToEven.signallingNaN kept" 2)
        pure (Value.float .f64 (if kept == 1 then a else FloatKind.f64.encode (.nan s (FloatKind.f64.format.quiet t))))
    | d => pure (Value.float .f64 (FloatKind.f64.encode (d.integral .zero)))) w).andThen (fun v w' => Result.ok (Next.value v) w') = _
  unfold truncB
  cases hd : rd a with
  | nan s t => rw [hd] at h; cases h
  | infinity s => rfl
  | number s m i => rfl

set_option maxRecDepth 100000 in
theorem trunc_num (a : Nat) (w : World) (h : (rd a).isNaN = false) : Calls Tryz.prog 45 #[.float .f64 a] w fun e w' => e = .returned (.float .f64 (truncB a)) ∧ w = w' := by
  have hA := arch_num a w h
  clear h
  generalize truncB a = t at *
  go_enter Tryz.func45, Tryz.ntmps45
  go_wp2
  go_ret
  exact ⟨rfl, rfl⟩

theorem isNaN_trunc (a : Nat) (h : (rd a).isNaN = false) : (rd (truncB a)).isNaN = false := by
  unfold truncB FloatKind.encode
  refine write_num _ ?_
  cases hd : rd a with
  | nan s t => rw [hd] at h; cases h
  | infinity s => rfl
  | number s m i => rfl

set_option maxRecDepth 100000 in
theorem toInt_low (a : Nat) (w : World) (h : (rd a).isNaN = false) (hg : (FloatKind.f64.format.order (truncB a) 4746794007244308480 == some .gt) = false) (hl : (FloatKind.f64.format.order (truncB a) 13970166044103278592 == some .lt) = true) :
    Calls Tryz.prog 23 #[.int .u64 (a : Int)] w fun e w' => e = .returned (.int .u32 2147483648) ∧ w = w' := by
  have hn := isNaN_any (truncB a) w
  rw [isNaN_trunc a h] at hn
  have hT := trunc_num a w h
  have HN := Lib.hid hn
  have HT := Lib.hid hT
  clear hn hT h
  generalize truncB a = t at *
  go_enter Tryz.func23, Tryz.ntmps23
  go_wp2_with fail
  refine (of_any a _).mono ?_
  rintro e w' ⟨rfl, rfl⟩
  go_wp2_with fail
  refine HT.out.mono ?_
  rintro e w' ⟨rfl, rfl⟩
  go_wp2_with fail
  refine HN.out.mono ?_
  rintro e w' ⟨rfl, rfl⟩
  go_wp2
  go_ret
  exact ⟨rfl, rfl⟩
end Go.Proofs.YtfgiejfjnhgcaaaGreatDoor
