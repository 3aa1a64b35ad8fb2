/- The fixed fact of the statements of layer 10: the document's examples. -/
import Derived.Test.YtfgiejfjnhgcaaaGreatDoorFast
import Derived.Test.YtfgiejfjnhgcaaaGreatDoorLexMain
import Derived.Test.YtfgiejfjnhgcaaaGreatDoorLexAll
namespace Go.Proofs.YtfgiejfjnhgcaaaGreatDoor
open Go Go.RowKit SolF Go.Shelf

/-- what package lex, with the reals, reads of package-level variables -/
structure Env (w : World) : Prop where
  lex : LexEnv w
  pf : PFTabs w
theorem Env.same {w w' : World} (h : Env w) (hs : Same w w') : Env w' := ⟨h.lex.same hs, h.pf.same hs⟩

/-- a text whose digits are at most 19: ParseFloat answers -/
theorem pf_fast (t : ByteArray) (p m : Nat) (E : Int) (H : Mant t p m) (HT : Told t m E) (ht : (rsAt t m).trunc = false) : PFOk Env t :=
  ⟨canon (fastN (rsAt t m).mant (if (rsAt t m).mant = 0 then 0 else (rsAt t m).dp + E - (rsAt t m).ndm)).1, fun w h =>
    (public_any t w _ (by have := H.hs; omega) h.lex (atof64_fast t w p m E H HT h.pf ht)).mono fun _ _ ⟨v, he, hs⟩ => ⟨_, v, he, rfl, hs⟩⟩

def awA : List UInt8 := [97, 60, 60, 61, 49, 46, 53, 101, 51, 59]
def awB : List UInt8 := [32, 52, 50, 57, 52, 57, 54, 55, 50, 57, 54]
theorem lexA : lexF formL awA = .ok [⟨1, [97], 0⟩, ⟨4, [60, 60], 1⟩, ⟨4, [61], 3⟩, ⟨3, [49, 46, 53, 101, 51], 4⟩, ⟨4, [59], 9⟩, ⟨0, [], 10⟩] := rfl
theorem lexB : lexF formL awB = .error (1, 10) := rfl
def text153 : ByteArray := ⟨#[49, 46, 53, 101, 51]⟩
theorem mant153 : Mant text153 1 3 := ⟨by decide, by decide, by decide, by decide, by decide, by decide⟩
theorem told153 : Told text153 3 3 := .inr ⟨4, 1, ⟨by decide, by decide, by decide, .inl ⟨by decide, rfl⟩, fun j h1 h2 => by
  obtain rfl : j = 4 := by have : text153.size = 5 := rfl; omega
  decide⟩, by decide⟩
theorem pf153 : PFOk Env text153 := pf_fast text153 1 3 3 mant153 told153 (by decide)

/-- where reals' texts are met in a text, they are one -/
def OnlyAt (l r : List UInt8) : Prop := ∀ a, a < l.length → at0 (l.drop a) (whileN isDigit (l.drop a)) = 46 → formL ((l.drop a).take (realEnd (l.drop a))) = true → (l.drop a).take (realEnd (l.drop a)) = r
theorem OnlyAt.reals {l r : List UInt8} (h : OnlyAt l r) {t : ByteArray} (ht : t.data.toList = r) (hp : PFOk Env t) : ∀ a, a < l.length → RealsAt Env (l.drop a) := by
  intro a ha u hu hd hf
  have hu2 : u.data.toList = r := by rw [hu]; rw [hu] at hf; exact h a ha hd hf
  have : u = t := by rw [bytes_eq u r hu2, bytes_eq t r ht]
  rw [this]; exact hp
set_option maxRecDepth 100000 in
theorem onlyA : OnlyAt awA [49, 46, 53, 101, 51] := by unfold OnlyAt awA; decide
set_option maxRecDepth 100000 in
theorem onlyB : OnlyAt awB [49, 46, 53, 101, 51] := by unfold OnlyAt awB; decide

theorem lexA_any (w : World) (h : Env w) : Calls Tryz.prog 33 #[.string ⟨#[97, 60, 60, 61, 49, 46, 53, 101, 51, 59]⟩] w (LexPost (.ok [⟨1, [97], 0⟩, ⟨4, [60, 60], 1⟩, ⟨4, [61], 3⟩, ⟨3, [49, 46, 53, 101, 51], 4⟩, ⟨4, [59], 9⟩, ⟨0, [], 10⟩]) w) := by
  rw [← lexA]
  exact lex_all Env ⟨#[97, 60, 60, 61, 49, 46, 53, 101, 51, 59]⟩ w h.lex (fun w' hs => h.same hs) (onlyA.reals (t := text153) rfl pf153)
theorem lexB_any (w : World) (h : Env w) : Calls Tryz.prog 33 #[.string ⟨#[32, 52, 50, 57, 52, 57, 54, 55, 50, 57, 54]⟩] w (LexPost (.error (1, 10)) w) := by
  rw [← lexB]
  exact lex_all Env ⟨#[32, 52, 50, 57, 52, 57, 54, 55, 50, 57, 54]⟩ w h.lex (fun w' hs => h.same hs) (onlyB.reals (t := text153) rfl pf153)

set_option maxRecDepth 100000 in
set_option maxHeartbeats 2000000 in
theorem awake10 (w : World) (h : Env w) : Calls Tryz.prog 32 #[] w fun e w' => e = .returned (.bool true) ∧ Same w w' := by
  have HE := Lib.hid h
  clear h
  go_enter Tryz.func32, Tryz.ntmps32
  go_wp2_with fail
  refine (lexA_any _ HE.out).mono ?_
  rintro e w1 ⟨⟨v, rfl, ho⟩, hS1⟩
  rcases ho.2 with ⟨_, hn⟩ | ⟨g, cap, cur, rfl, _⟩
  · simp at hn
  have d1 := ho.cellAt 4 (by decide)
  have d2 := ho.cellAt 9 (by decide)
  have d3 := ho.cellAt 10 (by decide)
  have d4 := ho.cellAt 11 (by decide)
  have hgl : g < w1.heap.size := (ho.lt g rfl).2
  go_wp2_with fail
  refine (lexB_any _ (HE.out.same hS1)).mono ?_
  rintro e w2 ⟨rfl, hS2⟩
  have e1 := (hS2.cell (p := ⟨g, 4, none⟩) hgl).trans d1
  have e2 := (hS2.cell (p := ⟨g, 9, none⟩) hgl).trans d2
  have e3 := (hS2.cell (p := ⟨g, 10, none⟩) hgl).trans d3
  have e4 := (hS2.cell (p := ⟨g, 11, none⟩) hgl).trans d4
  simp only [tokCells, List.flatMap_cons, List.cons_append, List.nil_append, List.flatMap_nil] at e1 e2 e3 e4
  simp at e1 e2 e3 e4
  have HS := Lib.hid (hS1.trans hS2)
  clear d1 d2 d3 d4 ho hS1 hS2
  go_wp2
  go_ret
  exact ⟨rfl, HS.out⟩
end Go.Proofs.YtfgiejfjnhgcaaaGreatDoor
