/-
  Layer 14: a store in memory: a map of chains; New, of, Live, may.
-/
import Derived.Test.YtnonnencdhogiaaC6b
import Derived.Maps.Own
import Derived.Maps.Views
import Derived.Maps.OwnOps
namespace Go.Proofs.Ytnonnencdhogiaa
open Go.RowKit
open Go.Maps (Keyed)
open Cb (ChIs Foot)

abbrev MD := DataW Unit
/-- How a chain's pointer reads. -/
def RP (v : Value) : Option (MD × List MemPlace) := match v with
  | .pointer none => some (.nil, [])
  | .pointer (some ⟨p, 0, none⟩) => some (.lit (.int .i64 p), [])
  | _ => none
theorem RP_nil {v : Value} {ps : List MemPlace} (h : RP v = some (.nil, ps)) : v = .pointer none := by
  unfold RP at h
  split at h
  · rfl
  · simp at h
  · cases h
theorem RP_at {v : Value} {p : Nat} {ps : List MemPlace} (h : RP v = some (.lit (.int .i64 p), ps)) : v = .pointer (some ⟨p, 0, none⟩) := by
  unfold RP at h
  split at h
  · simp at h
  · rename_i q
    simp only [Option.some.injEq, Prod.mk.injEq, DataW.lit.injEq, Lit.int.injEq, true_and] at h
    have : q = p := by omega
    rw [this]
  · cases h

theorem law9 : Keyed Try.prog 9 := Go.Maps.string_keyed Try.underlying9
theorem zero84 (w : World) : (zeroValue 84).run Try.prog w = .ok (.pointer none) w := by kernel_rfl

/-- a chain of a store: where it lies, its row, its links -/
abbrev Ch := Nat × Value × List Lk

structure StIs (w : World) (s m n : Nat) (D : MD) (C : ByteArray → Option Ch) (live : Int) : Prop where
  blk : Blk w s 83 #[.map (some m), .int .i64 live]
  map : w.ownsMap Try.prog 9 RP m n D
  keys : ∀ (key : ByteArray) (zd : MD), key.size ≤ maxLen → D.atKey (.string key.data.toList) zd = match C key with | none => zd | some c => .lit (.int .i64 c.1)
  chains : ∀ key c, C key = some c → ChIs w c.1 c.2.1 c.2.2
  apart : ∀ key key' c c', C key = some c → C key' = some c' → key ≠ key' → ∀ k, Foot c.1 c.2.1 k → ¬ Foot c'.1 c'.2.1 k
  far : ∀ key c, C key = some c → ∀ k, Foot c.1 c.2.1 k → k ≠ s ∧ k ≠ m
  sm : s ≠ m

theorem wpList_lookup_rp {ops : Array Oper} {rest : List Oper} {o : Oper} {a : Act} {Q : Exit → Act → World → Prop} {w : World}
    (hg : o.guard = none) (mo x : Operand) (hop : o.op = Op.lookup 81 mo x false) (m n : Nat) (D : MD) (hm : a.eval mo = .map (some m)) (hown : w.ownsMap Try.prog 9 RP m n D)
    (key : ByteArray) (hx : a.eval x = .string key) (hl : key.size ≤ maxLen) (v : Value) (hv : ∀ v' ps, RP v' = some (D.atKey (.string key.data.toList) .nil, ps) → v' = v)
    (hK : wpList Try.prog ops Q rest (a.put o.dst v) w) : wpList Try.prog ops Q (o :: rest) a w := by
  refine wpList_plain hg fun K' hK' => ?_
  obtain ⟨v', ps, hrun, hr⟩ := hown.lookup law9 Try.underlying81 (zero84 w) (zd := .nil) (zp := []) rfl (Go.WideMaps.keyOf_string_mk Try.underlying9 hl)
  obtain rfl := hv v' ps hr
  unfold Oper.wp
  simp [execOp, hop, hm, hx, hrun, Result.andThen]
  exact hK' _ _ hK

def chPtr : Option Ch → Value
  | none => .pointer none
  | some c => .pointer (some ⟨c.1, 0, none⟩)
theorem StIs.ptr {w : World} {s m n : Nat} {D : MD} {C : ByteArray → Option Ch} {live : Int} (h : StIs w s m n D C live) {key : ByteArray} (hl : key.size ≤ maxLen) : ∀ v ps, RP v = some (D.atKey (.string key.data.toList) .nil, ps) → v = chPtr (C key) := fun v ps hr => by
  rw [h.keys key .nil hl] at hr
  cases hc : C key with
  | none => rw [hc] at hr; exact RP_nil hr
  | some c => rw [hc] at hr; exact RP_at hr

set_option maxHeartbeats 400000 in
theorem of_is (w : World) (s m n : Nat) (D : MD) (C : ByteArray → Option Ch) (live : Int) (key : ByteArray) (hl : key.size ≤ maxLen) (h : StIs w s m n D C live) :
    Calls Try.prog 44 #[.pointer (some ⟨s, 0, none⟩), .string key] w fun e w' => e = .returned (chPtr (C key)) ∧ w = w' := by
  have c0 := h.blk.cellv 0 rfl
  have hp := Lib.hid (h.ptr hl)
  have hm := Lib.hid h.map
  clear h
  go_enter Try.func44, Try.ntmps44
  go_wp2_with (at_lookup; refine wpList_lookup_rp rfl (.tmp 10) (.tmp 11) rfl m n D rfl hm.out key rfl hl (chPtr (C key)) hp.out ?_)
  go_ret
  exact ⟨rfl, rfl⟩
theorem of_nil (w : World) (key : ByteArray) : Calls Try.prog 44 #[.pointer none, .string key] w fun e w' => e = .returned (.pointer none) ∧ w = w' := by
  go_enter Try.func44, Try.ntmps44
  go_wp2_with fail
  go_ret
  exact ⟨rfl, rfl⟩
theorem live_is (w : World) (s m n : Nat) (D : MD) (C : ByteArray → Option Ch) (live : Int) (h : StIs w s m n D C live) :
    Calls Try.prog 34 #[.pointer (some ⟨s, 0, none⟩)] w fun e w' => e = .returned (.int .i64 live) ∧ w = w' := by
  have c1 := h.blk.cellv 1 rfl
  clear h
  go_enter Try.func34, Try.ntmps34
  go_wp2_with fail
  go_ret
  exact ⟨rfl, rfl⟩
theorem live_nil (w : World) : Calls Try.prog 34 #[.pointer none] w fun e w' => e = .returned (.int .i64 0) ∧ w = w' := by
  go_enter Try.func34, Try.ntmps34
  go_wp2_with fail
  go_ret
  exact ⟨rfl, rfl⟩

end Go.Proofs.Ytnonnencdhogiaa
