/-
  Layer 14: own (a copy of a value).
-/
import Derived.Test.YtnonnencdhogiaaS2
import Derived.Test.YtnonnencdhogiaaRows1
import Derived.OwnWalk
import Derived.Deep.AppendLies
namespace Go.Proofs.Ytnonnencdhogiaa
open Go.RowKit
open Cb (ChIs Foot)

/-- A byte's cell. -/
abbrev byteV (c : UInt8) : Value := .int .u8 (c.toNat : Int)
/-- A slice of bytes that is its own. -/
def RowB (w : World) (B : Nat) (v : Value) (l : List UInt8) : Prop := w.ownsRow B 5 1 v l.length (l.map byteV)
theorem info5 : (Try.prog.info? 5).map (fun i => (i.zero, i.size, i.bytes)) = some (some (.int .u8 0), 1, 1) := by kernel_rfl
theorem only_grown {w w' : World} {row : Option Nat} (h : w.grownBy w' row) : Only (fun k => row = some k) w w' :=
  ⟨h.os, h.tape, h.output, h.size, fun k hk hs => h.block k hk (fun e => hs e.symm)⟩

/-- bytes in memory, from a slice's place on -/
def BytesAt (w : World) (A : Option Addr) (bs : List UInt8) : Prop := ∀ (i : Nat) (c : UInt8), bs[i]? = some c → ∃ g off, A = some ⟨g, off, none⟩ ∧ g < w.heap.size ∧ w.cell? ⟨g, off + i, none⟩ = some (byteV c)
theorem BytesAt.keep {w w' : World} {A : Option Addr} {bs : List UInt8} (h : BytesAt w A bs) (ho : Only NoneOf w w') : BytesAt w' A bs := fun i c hc => by
  obtain ⟨g, off, hA, hg, h1⟩ := h i c hc
  exact ⟨g, off, hA, Nat.lt_of_lt_of_le hg ho.size, (ho.cell (p := ⟨g, off + i, none⟩) hg (fun h => h)).trans h1⟩
theorem RowB.at {w : World} {B : Nat} {v : Value} {l : List UInt8} (h : RowB w B v l) : ∃ A cap, v = .slice A l.length cap ∧ BytesAt w A l := by
  rcases h.2 with ⟨rfl, h0⟩ | ⟨g, cap, cur, rfl, _, hb, hle, _, hsz, hcur⟩
  · obtain rfl : l = [] := List.eq_nil_of_length_eq_zero h0
    exact ⟨none, 0, rfl, fun i x hx => by simp at hx⟩
  · refine ⟨_, cap, rfl, fun i c hi => ⟨g, 0, rfl, Blk.lt (t := 5) (cs := cur) hb, ?_⟩⟩
    have hil : i < l.length := (List.getElem?_eq_some_iff.1 hi).1
    have : (l.map byteV)[i]? = some (byteV c) := by rw [List.getElem?_map, hi]; rfl
    rw [Nat.zero_add, Blk.cell (t := 5) (cs := cur) hb, ← this, ← hcur, List.getElem?_take_of_lt (by omega), Array.getElem?_toList]

theorem run_append_zero (t ty e : TypeId) (i : TypeInfo) (ht : Try.prog.underlying t = some (.slice e)) (hi : Try.prog.info? e = some i) (A : Option Addr) (c : Nat) (w : World) :
    (Builtin.append_ #[t, t] ty #[.slice none 0 0, .slice A 0 c]).run Try.prog w = .ok (.slice none 0 0) w := by
  cases A <;> simp [Builtin.append_, run_underlying ht, sizeOf, typeInfo, hi, Builtin.lenOf, Builtin.firstCells, loadCells, loadCellsFrom]

theorem wpList_append_zero {w : World} {ops : Array Oper} {rest : List Oper} {o : Oper} {a : Act} {Q : Exit → Act → World → Prop} (hgd : o.guard = none) (s x : Operand) (t e : TypeId)
    (ho : o.op = .call { callee := .builtin .append, args := #[s, x], argTypes := #[t, t] }) (i : TypeInfo) (ht : Try.prog.underlying t = some (.slice e)) (hi : Try.prog.info? e = some i)
    (hs : a.eval s = .slice none 0 0) (A : Option Addr) (c : Nat) (hx : a.eval x = .slice A 0 c) (h : wpList Try.prog ops Q rest (a.put o.dst (.slice none 0 0)) w) : wpList Try.prog ops Q (o :: rest) a w := by
  refine wpList_plain hgd fun K hK => ?_
  have hrun := run_append_zero t o.type e i ht hi A c w
  unfold Oper.wp
  simp [execOp, ho, resolve, invoke, builtin, hs, hx, hrun, Result.andThen]
  exact hK _ _ h

def OwnPost (bs : List UInt8) (w : World) (e : Ending) (w' : World) : Prop := ∃ v, e = .returned v ∧ RowB w' w.heap.size v bs ∧ Only NoneOf w w'

set_option maxRecDepth 100000 in
set_option maxHeartbeats 1000000 in
theorem own_is (A : Option Addr) (n c : Nat) (bs : List UInt8) (w : World) (hn : bs.length = n) (hA : BytesAt w A bs) (hl : n ≤ 35184372088832) : Calls Try.prog 47 #[.slice A n c] w (OwnPost bs w) := by
  obtain ⟨i0, hi, hz0, hz1, hz2⟩ := info_parts info5
  rcases Nat.eq_zero_or_pos n with h0 | h0
  · subst h0
    obtain rfl : bs = [] := List.eq_nil_of_length_eq_zero hn
    go_enter Try.func47, Try.ntmps47
    go_wp2_with (at_builtin; refine wpList_append_zero rfl (.const (.slice none 0 0)) (.tmp 3) 25 5 rfl i0 Try.underlying25 hi rfl A c rfl ?_)
    go_ret
    exact ⟨_, rfl, ⟨by simp, .inl ⟨rfl, rfl⟩⟩, Only.refl _ _⟩
  · obtain ⟨g, off, rfl, hg, hq⟩ := hA 0 bs[0] (List.getElem?_eq_getElem (by omega))
    clear hq hg
    have HA := Lib.hid hA
    have HN := Lib.hid hn
    clear hA hn
    go_enter Try.func47, Try.ntmps47
    go_wp2_with (at_builtin; refine wpList_append_lies w rfl (.const (.slice none 0 0)) (.tmp 3) 25 rfl w.heap.size 5 i0 _ 1 1 Try.underlying25 hi hz0 hz1 hz2 rfl (by decide) (.slice none 0 0) 0 [] rfl ⟨rfl, .inl ⟨rfl, rfl⟩⟩ ⟨g, off, none⟩ n c (bs.map byteV) rfl (by rw [List.length_map, HN.out, Nat.mul_one]) ?_ ?_ h0 (by unfold maxLen; omega) (by omega) (Nat.le_refl _) w.heap.size rfl ?_)
    · intro j u hj
      have hadd : (⟨g, off, none⟩ : Addr).add j = ⟨g, off + j, none⟩ := by unfold Addr.add; split <;> simp_all
      rw [List.getElem?_map] at hj
      obtain ⟨b, hb, rfl⟩ := Option.map_eq_some_iff.1 hj
      obtain ⟨g', off', he, _, h1⟩ := HA.out j b hb
      simp only [Option.some.injEq, Addr.mk.injEq, and_true] at he
      obtain ⟨rfl, rfl⟩ := he
      rw [hadd]
      exact h1
    · intro u hu
      obtain ⟨b, _, rfl⟩ := List.mem_map.1 hu
      rfl
    · intro g' cap w' h1 h2 h3 _
      have H1 := Lib.hid h1
      have H2 := Lib.hid h2
      clear h1 h2 h3
      go_wp2_with fail
      go_ret
      refine ⟨.slice (some ⟨g', 0, none⟩) n cap, by simp, ?_, (only_grown H2.out).mono (fun k _ hk => by simp [Value.ownBlock] at hk)⟩
      have h3 : World.ownsRow w' w.heap.size 5 1 (.slice (some ⟨g', 0, none⟩) n cap) n (bs.map byteV) := by simpa using H1.out
      show World.ownsRow w' w.heap.size 5 1 (.slice (some ⟨g', 0, none⟩) n cap) bs.length (bs.map byteV)
      rw [HN.out]
      exact h3

end Go.Proofs.Ytnonnencdhogiaa
