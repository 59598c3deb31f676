/-
  Rows of cells written whole: what stands behind them.
-/
import Derived.Test.YtnonnencdhogiaaHeap
import Derived.ChangeAlike
import Derived.StillTailTactics
import Derived.RegionTactic
import Derived.Laws.Rows
namespace Go.Proofs.Ytnonnencdhogiaa
open Go.RowKit

theorem new2 (w : World) (t u : TypeId) (c d : Array Value) : Blk ((w.alloc (.cells c t)).alloc (.cells d u)) w.heap.size t c ∧ Blk ((w.alloc (.cells c t)).alloc (.cells d u)) (w.heap.size + 1) u d ∧ Only NoneOf w ((w.alloc (.cells c t)).alloc (.cells d u)) :=
  ⟨(Blk.new w t c).alloc _, Blk.new' _ _ _ (by simp), ((Only.refl _ _).alloc _).alloc _⟩

section
variable {w w' : World} {b g : Nat} {t : TypeId} {cs ds : Array Value} {S : Nat → Prop}
theorem Blk.row (h : Blk w b t cs) (ds : Array Value) : Blk (w.setRow b ds) b t ds := setRow_heap w b cs ds t _ h
theorem Blk.row_far (h : Blk w b t cs) (hne : b ≠ g) (ds : Array Value) : Blk (w.setRow g ds) b t cs := (setRow_other w g b ds hne).trans h
theorem Only.row (h : Only S w w') (hb : S b ∨ w.heap.size ≤ b) (ds : Array Value) : Only S w (w'.setRow b ds) :=
  ⟨h.os, h.tape, h.output, by simpa using h.size, fun i hi hs => (setRow_other w' b i ds (by
    rintro rfl
    rcases hb with hp | hp
    · exact hs hp
    · omega)).trans (h.block i hi hs)⟩
end

theorem bcell {W w1 : World} (hb : Only NoneOf W w1) : (∀ b o, b < W.heap.size → w1.cell? ⟨b, o, none⟩ = W.cell? ⟨b, o, none⟩) ∧ (∀ b o, b < W.heap.size → w1.frozen? ⟨b, o, none⟩ = W.frozen? ⟨b, o, none⟩) :=
  ⟨fun b o h => hb.cell (p := ⟨b, o, none⟩) h (fun h => h), fun b o h => hb.frozen (p := ⟨b, o, none⟩) h (fun h => h)⟩
/-- A call that answers; nothing that was there has turned. -/
def Ans (v : Value) (w : World) (e : Ending) (w' : World) : Prop := e = .returned v ∧ Only NoneOf w w'

/-- A call that answers and turns nothing. -/
def Same (v : Value) (w : World) (e : Ending) (w' : World) : Prop := e = .returned v ∧ w = w'

end Go.Proofs.Ytnonnencdhogiaa
