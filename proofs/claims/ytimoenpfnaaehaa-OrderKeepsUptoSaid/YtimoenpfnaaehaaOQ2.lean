/-
  A quiet walk (OQ) whose goals are wrapped, so that nothing looks through them: for regions with many guarded operations.
-/
import Derived.Test.YtimoenpfnaaehaaOV2
namespace Go.Proofs.Ytimoenpfnaaehaa
open Go.RowKit

structure QG (P : Program) (ops : Array Oper) (W : World) (Q : Act → Prop) (l : List Oper) (a : Act) : Prop where
  out : wpQuiet P ops (Aft W) Q l a

section
variable {P : Program} {ops : Array Oper} {W : World} {Q : Act → Prop} {a : Act} {o : Oper} {rest : List Oper}
theorem wp_region_qg {id : Nat} {Q : Exit → Act → World → Prop} {l : List Oper} (hm : P.follows .mixedOrders = true) (hB : Region.lexB .any l.toArray = true)
    (h : QG P l.toArray W (fun a' => ∀ w', Aft W w' → Q .normal a' w') l a) : (Code.region id l.toArray true).wp P Q a W := wp_region_aft hm hB h.out
theorem g_nil {Q : Act → Prop} (h : Q a) : QG P ops W Q [] a := ⟨wpQuiet_nil h⟩
theorem g_at (v : Value) (hg : Region.wanted o (yielded ops a.tmps) = true) (ho : ∀ w, Aft W w → (execOp a.eval o).run P w = .ok (.value v) w) (hk : QG P ops W Q rest (a.put o.dst v)) : QG P ops W Q (o :: rest) a := ⟨q_at v hg ho hk.out⟩
theorem g_pure (v : Value) (hg : Region.wanted o (yielded ops a.tmps) = true) (ho : ∀ w, (execOp a.eval o).run P w = .ok (.value v) w) (hk : QG P ops W Q rest (a.put o.dst v)) : QG P ops W Q (o :: rest) a := ⟨q_pure v hg ho hk.out⟩
theorem g_skip (hg : Region.wanted o (yielded ops a.tmps) = false) (hk : QG P ops W Q rest (a.put o.dst undef)) : QG P ops W Q (o :: rest) a := ⟨q_skip hg hk.out⟩
theorem g_mv (v : Value) (x : Operand) (hg : Region.wanted o (yielded ops a.tmps) = true) (h : o.op = .move x ∨ o.op = .assign x) (hv : a.eval x = v) (hk : QG P ops W Q rest (a.put o.dst v)) : QG P ops W Q (o :: rest) a := ⟨q_mv v x hg h hv hk.out⟩
theorem g_call (f : FuncId) (args : Array Value) (v : Value) (hg : Region.wanted o (yielded ops a.tmps) = true) (ho : ∀ w, (execOp a.eval o).run P w = .ok (.enter f args) w) (hc : ∀ u, Hid (Calls P f args u (Ans v u)))
    (hk : QG P ops W Q rest (a.put o.dst v)) : QG P ops W Q (o :: rest) a := ⟨q_call f args v hg ho hc hk.out⟩
theorem g_mid (ty : TypeId) (x : Operand) (g off : Nat) (cs : List Value) (d : TypeDesc) (hg : Region.wanted o (yielded ops a.tmps) = true) (ho : o.op = .load ty x) (hx : a.eval x = .pointer (some ⟨g, off, none⟩)) (hc : W.rangeAt g off cs) (hl : g < W.heap.size)
    (hu : P.underlying ty = some d) (hd : d.isRow = true) (hi : (P.info? ty).map (·.size) = some cs.length)
    (hk : QG P ops W Q rest (a.put o.dst (.agg cs.toArray))) : QG P ops W Q (o :: rest) a := ⟨q_mid ty x g off cs d hg ho hx hc hl hu hd hi hk.out⟩
end

end Go.Proofs.Ytimoenpfnaaehaa
