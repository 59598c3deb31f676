/-
  A region that draws its order, whose calls make memory but turn nothing that was there: one walk of the text's order.
-/
import Derived.Test.YtnonnencdhogiaaRows1
import Derived.Deep.Quiet
import Derived.Lib.Hide
namespace Go.Proofs.Ytnonnencdhogiaa
open Go.RowKit

/-- The worlds in which nothing of W has turned. -/
def Aft (W w : World) : Prop := Only NoneOf W w

section
variable {P : Program} {ops : Array Oper} {W : World} {Q : Act → Prop} {a : Act} {o : Oper} {rest : List Oper}

theorem wp_region_aft {id : Nat} {Q : Exit → Act → World → Prop} {l : List Oper} (hm : P.follows .mixedOrders = true) (hB : Region.lexB .any l.toArray = true)
    (h : wpQuiet P l.toArray (Aft W) (fun a' => ∀ w', Aft W w' → Q .normal a' w') l a) : (Code.region id l.toArray true).wp P Q a W :=
  wp_region_quiet (C := Aft W) hm hB (Only.refl _ _).drew h

theorem q_at (v : Value) (hg : Region.wanted o (yielded ops a.tmps) = true) (ho : ∀ w, Aft W w → (execOp a.eval o).run P w = .ok (.value v) w) (hk : wpQuiet P ops (Aft W) Q rest (a.put o.dst v)) : wpQuiet P ops (Aft W) Q (o :: rest) a :=
  wpQuiet_step fun K hK => by
    rw [if_pos hg]
    exact ⟨v, fun w hw => by unfold Oper.quietAt; rw [ho w hw]; exact ⟨rfl, rfl⟩, hK _ hk⟩

theorem q_pure (v : Value) (hg : Region.wanted o (yielded ops a.tmps) = true) (ho : ∀ w, (execOp a.eval o).run P w = .ok (.value v) w) (hk : wpQuiet P ops (Aft W) Q rest (a.put o.dst v)) : wpQuiet P ops (Aft W) Q (o :: rest) a :=
  q_at v hg (fun w _ => ho w) hk

theorem q_skip (hg : Region.wanted o (yielded ops a.tmps) = false) (hk : wpQuiet P ops (Aft W) Q rest (a.put o.dst undef)) : wpQuiet P ops (Aft W) Q (o :: rest) a :=
  wpQuiet_step fun K hK => by
    rw [if_neg (by rw [hg]; exact Bool.false_ne_true)]
    exact hK _ hk

theorem q_move (x : Operand) (hg : Region.wanted o (yielded ops a.tmps) = true) (h : o.op = .move x ∨ o.op = .assign x) (hk : wpQuiet P ops (Aft W) Q rest (a.put o.dst (a.eval x))) : wpQuiet P ops (Aft W) Q (o :: rest) a :=
  q_pure _ hg (fun w => by rcases h with h | h <;> simp [execOp, h]) hk

theorem q_call (f : FuncId) (args : Array Value) (v : Value) (hg : Region.wanted o (yielded ops a.tmps) = true) (ho : ∀ w, (execOp a.eval o).run P w = .ok (.enter f args) w) (hc : ∀ u, Hid (Calls P f args u (Ans v u)))
    (hk : wpQuiet P ops (Aft W) Q rest (a.put o.dst v)) : wpQuiet P ops (Aft W) Q (o :: rest) a :=
  wpQuiet_step fun K hK => by
    rw [if_pos hg]
    exact ⟨v, fun w hw => by unfold Oper.quietAt; rw [ho w]; exact ⟨rfl, (hc w).out.mono fun e w' ⟨he, h⟩ => ⟨he, Only.trans hw h⟩⟩, hK _ hk⟩

theorem q_same (f : FuncId) (args : Array Value) (v : Value) (hg : Region.wanted o (yielded ops a.tmps) = true) (ho : ∀ w, (execOp a.eval o).run P w = .ok (.enter f args) w) (hc : ∀ u, Hid (Calls P f args u (Same v u)))
    (hk : wpQuiet P ops (Aft W) Q rest (a.put o.dst v)) : wpQuiet P ops (Aft W) Q (o :: rest) a :=
  q_call f args v hg ho (fun u => Lib.hid ((hc u).out.mono fun _ _ ⟨he, h⟩ => ⟨he, h ▸ Only.refl _ _⟩)) hk

theorem q_load (ty : TypeId) (x : Operand) (g : Nat) (t : TypeId) (cs : Array Value) (d : TypeDesc) (hg : Region.wanted o (yielded ops a.tmps) = true) (ho : o.op = .load ty x) (hx : a.eval x = .pointer (some ⟨g, 0, none⟩)) (hB : Blk W g t cs)
    (hu : P.underlying ty = some d) (hd : (match d with | .struct _ | .array _ _ => true | _ => false) = true) (hi : (P.info? ty).map (·.size) = some cs.size)
    (hk : wpQuiet P ops (Aft W) Q rest (a.put o.dst (.agg cs))) : wpQuiet P ops (Aft W) Q (o :: rest) a :=
  q_at _ hg (fun w hw => by
    have hB' : Blk w g t cs := hB.only hw (fun h => h)
    unfold execOp
    simp only [ho, hx, Instr.loadAt, Instr.sureAddr, Sem.run_bind, Sem.run_pure, Result.andThen_ok, run_loadVar_row w g t ty cs _ d hB' hu hd hi]) hk
end

end Go.Proofs.Ytnonnencdhogiaa
