/-
  Layer 4: numbers and texts laid down.
-/
import Derived.Test.YtimoenpfnaaehaaO1
import Derived.OwnWalk
import Derived.Laws.ShiftsVar
import Derived.Deep.AppendLies
namespace Go.Proofs.Ytimoenpfnaaehaa
open Go.RowKit

/-- A byte's cell. -/
abbrev byteV (c : UInt8) : Value := .int .u8 (c.toNat : Int)
/-- A slice of bytes that is its own. -/
def RowB (w : World) (B : Nat) (v : Value) (l : List UInt8) : Prop := w.ownsRow B 5 1 v l.length (l.map byteV)

/-- A number's last bytes, the highest first. -/
def lastB (u : Nat) : Nat → List UInt8
  | 0 => []
  | q + 1 => UInt8.ofNat (u / 256 ^ q) :: lastB u q
abbrev put8 (u : Nat) : List UInt8 := lastB u 8
theorem lastB_len (u q : Nat) : (lastB u q).length = q := by induction q with
  | zero => rfl
  | succ q ih => simp [lastB, ih]

theorem only_grown {w w' : World} {row : Option Nat} (h : w.grownBy w' row) : Only (fun k => row = some k) w w' :=
  ⟨h.os, h.tape, h.output, h.size, fun k hk hs => h.block k hk (fun e => hs e.symm)⟩

/-- How a call ends that lays bytes down behind a row. -/
def LaidPost (B : Nat) (v : Value) (l : List UInt8) (w : World) (e : Ending) (w' : World) : Prop :=
  ∃ v', e = .returned v' ∧ RowB w' B v' l ∧ Only (fun k => v.ownBlock = some k) w w' ∧ ∀ k, v'.ownBlock = some k → v.ownBlock = some k ∨ w.heap.size ≤ k

theorem info5 : (Try.prog.info? 5).map (fun i => (i.zero, i.size, i.bytes)) = some (some (.int .u8 0), 1, 1) := by kernel_rfl

section
variable {w w' : World} {B : Nat} {v : Value} {l : List UInt8} {S : Nat → Prop}
theorem RowB.only (h : RowB w B v l) (ho : Only S w w') (hg : ∀ g, v.ownBlock = some g → ¬ S g) : RowB w' B v l := by
  refine ⟨h.1, ?_⟩
  rcases h.2 with h0 | ⟨g, cap, cur, hv, hb, hh, r⟩
  · exact .inl h0
  · refine .inr ⟨g, cap, cur, hv, hb, ?_, r⟩
    exact Blk.only (t := 5) (cs := cur) hh ho (hg g (by rw [hv]; rfl))
theorem RowB.keep (h : RowB w B v l) (ho : Only NoneOf w w') : RowB w' B v l := h.only ho (fun _ _ h => h)
theorem RowB.alloc' (h : RowB w B v l) (o : Obj) : RowB (w.alloc o) B v l := h.keep ((Only.refl NoneOf w).alloc o)
theorem RowB.lt (h : RowB w B v l) {g : Nat} (hg : v.ownBlock = some g) : g < w.heap.size := by
  rcases h.2 with ⟨rfl, _⟩ | ⟨g', cap, cur, rfl, _, hb, _⟩
  · simp [Value.ownBlock] at hg
  · have : g' = g := by simpa [Value.ownBlock] using hg
    subst this
    exact Blk.lt (t := 5) (cs := cur) hb
theorem RowB.ge (h : RowB w B v l) {g : Nat} (hg : v.ownBlock = some g) : B ≤ g := by
  rcases h.2 with ⟨rfl, _⟩ | ⟨g', cap, cur, rfl, hb, _⟩
  · simp [Value.ownBlock] at hg
  · have : g' = g := by simpa [Value.ownBlock] using hg
    omega
theorem rowB_nil (w : World) (B : Nat) : RowB w B (.slice none 0 0) [] := ⟨by simp, .inl ⟨rfl, rfl⟩⟩
end

theorem app_bytes {ops : Array Oper} {rest : List Oper} {o : Oper} {a : Act} {Q : Exit → Act → World → Prop} {w : World} (hgd : o.guard = none) (s x : Operand) (ho : o.op = .call { callee := .builtin .append, args := #[s, x], argTypes := #[84, 84] })
    (B : Nat) (v : Value) (l : List UInt8) (hs : a.eval s = v) (hr : RowB w B v l) (g m c : Nat) (bs : List UInt8) (cs : Array Value) (hm : bs.length = m) (h0 : 0 < m) (hcs : cs.toList = bs.map byteV) (hx : a.eval x = .slice (some ⟨g, 0, none⟩) m c) (hc : Blk w g 5 cs)
    (hl : l.length + m ≤ 35184372088832) (hB : B ≤ w.heap.size)
    (h : ∀ v' w', RowB w' B v' (l ++ bs) → Only (fun k => v.ownBlock = some k) w w' → (∀ k, v'.ownBlock = some k → v.ownBlock = some k ∨ w.heap.size ≤ k) → wpList Try.prog ops Q rest (a.put o.dst v') w') : wpList Try.prog ops Q (o :: rest) a w := by
  obtain ⟨i0, hi, hz0, hz1, hz2⟩ := info_parts info5
  refine wpList_append_lies w hgd s x 84 ho B 5 i0 _ 1 1 Try.underlying84 hi hz0 hz1 hz2 rfl (by decide) v l.length (l.map byteV) hs hr ⟨g, 0, none⟩ m c (bs.map byteV) hx (by simp [hm]) ?_ ?_ h0 (by unfold maxLen; omega) (by omega) hB w.heap.size rfl ?_
  · intro j u hj
    have hadd : (⟨g, 0, none⟩ : Addr).add j = ⟨g, j, none⟩ := by unfold Addr.add; split <;> simp_all
    rw [hadd, hc.cell, ← hj, ← hcs]
    simp
  · intro u hu
    obtain ⟨b, _, rfl⟩ := List.mem_map.1 hu
    rfl
  · intro g' cap w' h1 h2 h3 _
    refine h _ w' ?_ (only_grown h2) ?_
    · show w'.ownsRow B 5 1 _ (l ++ bs).length ((l ++ bs).map byteV)
      rw [List.length_append, List.map_append, hm]
      exact h1
    · intro k hk
      have : g' = k := by simpa [Value.ownBlock] using hk
      subst this
      rcases h3 with h3 | h3
      · exact .inl h3
      · exact .inr (by omega)

/-- How far a row has gone from v at w. -/
def Went (B : Nat) (v : Value) (w : World) (v' : Value) (l' : List UInt8) (w' : World) : Prop :=
  RowB w' B v' l' ∧ Only (fun k => v.ownBlock = some k) w w' ∧ ∀ k, v'.ownBlock = some k → v.ownBlock = some k ∨ w.heap.size ≤ k
theorem Went.step {B : Nat} {v v' v'' : Value} {w w' W w'' : World} {l' l'' : List UInt8} (h : Went B v w v' l' w') (hW : Only NoneOf w' W) (h1 : RowB w'' B v'' l'') (h2 : Only (fun k => v'.ownBlock = some k) W w'') (h3 : ∀ k, v''.ownBlock = some k → v'.ownBlock = some k ∨ W.heap.size ≤ k) :
    Went B v w v'' l'' w'' := by
  refine ⟨h1, ?_, ?_⟩
  · refine (h.2.1.step hW (fun _ _ h => h.elim)).step h2 (fun k hk hv => ?_)
    rcases h.2.2 k hv with h | h
    · exact h
    · omega
  · intro k hk
    rcases h3 k hk with h4 | h4
    · exact h.2.2 k h4
    · exact .inr (by have := h.2.1.size; have := hW.size; omega)
theorem LaidPost.of {B : Nat} {v v' : Value} {w w' : World} {l : List UInt8} (h : Went B v w v' l w') : LaidPost B v l w (.returned v') w' := ⟨v', rfl, h.1, h.2.1, h.2.2⟩

theorem byte_ofNat (n : Nat) : ((UInt8.ofNat n).toNat : Int) = (n : Int) % 256 := by simp

def PutRel (w : World) (B u : Nat) (v : Value) (l : List UInt8) (v0 i : Value) (wr : World) : Prop :=
  ∃ q : Nat, q ≤ 8 ∧ i = .int .i64 ((q : Int) - 1) ∧ ∃ done, done ++ lastB u q = put8 u ∧ Went B v w v0 (l ++ done) wr

set_option maxRecDepth 100000 in
set_option maxHeartbeats 1000000 in
theorem put_is (w : World) (B : Nat) (v : Value) (l : List UInt8) (u : Nat) (hr : RowB w B v l) (hl : l.length ≤ 1099511627776) (hB : B ≤ w.heap.size) :
    Calls Try.prog 57 #[v, .int .u64 u] w (LaidPost B v (l ++ put8 u) w) := by
  have HR := Lib.hid hr
  clear hr
  go_enter Try.func57, Try.ntmps57
  go_wp2_with fail
  go_loopw [0, 5] (fun v0 i wr => PutRel w B u v l v0 i wr) (fun _ i _ => (intOf i + 1).toNat)
  case atStart => exact ⟨8, Nat.le_refl _, rfl, [], rfl, by simpa using HR.out, Only.refl _ _, fun k h => .inl h⟩
  case round =>
    obtain ⟨q, hq, rfl, done, hd, hw⟩ := hrel
    have HD := Lib.hid hd
    have HW := Lib.hid hw
    clear hw
    rcases q with _ | r
    · rw [show ((0 : Nat) : Int) - 1 = -1 by rfl]
      clear hd
      go_wp2_with fail
      go_ret
      have e : done = put8 u := (List.append_nil done).symm.trans HD.out
      have hw := HW.out
      rw [e] at hw
      exact LaidPost.of hw
    · rw [show ((r + 1 : Nat) : Int) - 1 = r by omega]
      have hdl : done.length ≤ 8 := by
        have := congrArg List.length hd
        simp [lastB_len] at this
        omega
      have hsz := HW.out.2.1.size
      have hN := Blk.new wr 5 #[.int .u8 ((u : Int) / 2 ^ (8 * r) % 256)]
      have HB := Lib.hid (show #[Value.int .u8 ((u : Int) / 2 ^ (8 * r) % 256)].toList = [UInt8.ofNat (u / 256 ^ r)].map byteV by
        simp only [List.map_cons, List.map_nil, byteV, byte_ofNat, Int.natCast_ediv, Int.natCast_pow]
        rw [show ((256 : Nat) : Int) ^ r = 2 ^ (8 * r) by rw [Int.pow_mul]; rfl])
      clear hd
      go_wp2_with (at_builtin; refine app_bytes rfl (.tmp 10) (.tmp 16) rfl B _ (l ++ done) rfl (HW.out.1.alloc' _) wr.heap.size 1 1 [UInt8.ofNat (u / 256 ^ r)] _ rfl (by decide) HB.out rfl hN (by simp; omega) (by simp; omega) ?_; intro v2 w2 g1 g2 g3; have HG := Lib.hid (HW.out.step ((Only.refl NoneOf wr).alloc _) g1 g2 g3); clear g1 g2 g3)
      go_roundw
      case rel => exact ⟨r, by omega, rfl, done ++ [UInt8.ofNat (u / 256 ^ r)], by simpa [lastB] using HD.out, by simpa using HG.out⟩
      case measure => simp [intOf]

/-- A text's bytes, laid down so that it ends below every longer one. -/
def escT (l : List UInt8) : List UInt8 := l.flatMap fun c => if c = 0 then [0, 255] else [c]
theorem escT_len (l : List UInt8) : (escT l).length ≤ 2 * l.length := by
  induction l with
  | nil => simp [escT]
  | cons c l ih =>
    have e : escT (c :: l) = (if c = 0 then [0, 255] else [c]) ++ escT l := rfl
    rw [e, List.length_append, List.length_cons]
    split
    · simp only [List.length_cons, List.length_nil]; omega
    · simp only [List.length_cons, List.length_nil]; omega
theorem escT_snoc (l : List UInt8) (c : UInt8) : escT (l ++ [c]) = escT l ++ if c = 0 then [0, 255] else [c] := by
  simp [escT]
theorem take_snoc (s : ByteArray) (k : Nat) (h : k < s.size) : s.data.toList.take (k + 1) = s.data.toList.take k ++ [s[k]] := by
  rw [List.take_succ_eq_append_getElem (by simpa using h)]; rfl

def TextRel (w : World) (B : Nat) (v : Value) (l : List UInt8) (s : ByteArray) (v0 i : Value) (wr : World) : Prop :=
  ∃ k : Nat, k ≤ s.size ∧ i = .int .i64 k ∧ Went B v w v0 (l ++ escT (s.data.toList.take k)) wr

set_option maxRecDepth 100000 in
set_option maxHeartbeats 2000000 in
theorem putText_is (w : World) (B : Nat) (v : Value) (l : List UInt8) (s : ByteArray) (hr : RowB w B v l) (hl : l.length ≤ 1099511627776) (hs : s.size ≤ 1099511627776) (hB : B ≤ w.heap.size) :
    Calls Try.prog 59 #[v, .string s] w (LaidPost B v (l ++ escT s.data.toList ++ [0, 1]) w) := by
  have HR := Lib.hid hr
  clear hr
  go_enter Try.func59, Try.ntmps59
  go_wp2_with fail
  go_loopw [0, 8] (fun v0 i wr => TextRel w B v l s v0 i wr) (fun _ i _ => s.size - (intOf i).toNat)
  case atStart => exact ⟨0, Nat.zero_le _, rfl, by simpa [escT] using HR.out, Only.refl _ _, fun k h => .inl h⟩
  case round =>
    obtain ⟨k, hk, rfl, hw⟩ := hrel
    have HW := Lib.hid hw
    clear hw
    have hel := escT_len (s.data.toList.take k)
    have htl : (s.data.toList.take k).length ≤ k := List.length_take_le _ _
    have hsz := HW.out.2.1.size
    by_cases hlt : k < s.size
    · have HE := Lib.hid (show escT (s.data.toList.take (k + 1)) = escT (s.data.toList.take k) ++ if s[k] = 0 then [0, 255] else [s[k]] by rw [take_snoc s k hlt, escT_snoc])
      have hN := Blk.new wr 5 #[.int .u8 (s[k].toNat : Int)]
      by_cases hc : s[k] = 0
      · have h0 : ((s[k].toNat : Int) == 0) = true := by rw [hc]; rfl
        have HC := Lib.hid hc
        clear hc
        go_wp2_with (first
          | (at_builtin; refine app_bytes rfl (.tmp 11) (.tmp 15) rfl B _ (l ++ escT (s.data.toList.take k)) rfl (HW.out.1.alloc' _) wr.heap.size 1 1 [s[k]] _ rfl (by decide) rfl rfl hN (by simp; omega) (by simp; omega) ?_; intro v2 w2 g1 g2 g3; have HG := Lib.hid (HW.out.step ((Only.refl NoneOf wr).alloc _) g1 g2 g3); clear g1 g2 g3; have hs2 := HG.out.2.1.size; have hN2 := Blk.new w2 5 #[.int .u8 255])
          | (at_builtin; refine app_bytes rfl (.tmp 21) (.tmp 22) rfl B _ (l ++ escT (s.data.toList.take k) ++ [s[k]]) rfl (HG.out.1.alloc' _) w2.heap.size 1 1 [255] _ rfl (by decide) rfl rfl hN2 (by simp; omega) (by simp; omega) ?_; intro v3 w3 g1 g2 g3; have HJ := Lib.hid (HG.out.step ((Only.refl NoneOf w2).alloc _) g1 g2 g3); clear g1 g2 g3))
        go_roundw
        case rel => exact ⟨k + 1, by omega, by go_num, by rw [HE.out, if_pos HC.out]; simpa [HC.out] using HJ.out⟩
        case measure => simp [intOf]; omega
      · have h0 : ((s[k].toNat : Int) == 0) = false := by
          rw [beq_eq_false_iff_ne]
          intro h
          exact hc (UInt8.toNat_inj.1 (by simpa using h))
        have HC := Lib.hid hc
        clear hc
        go_wp2_with (at_builtin; refine app_bytes rfl (.tmp 11) (.tmp 15) rfl B _ (l ++ escT (s.data.toList.take k)) rfl (HW.out.1.alloc' _) wr.heap.size 1 1 [s[k]] _ rfl (by decide) rfl rfl hN (by simp; omega) (by simp; omega) ?_; intro v2 w2 g1 g2 g3; have HG := Lib.hid (HW.out.step ((Only.refl NoneOf wr).alloc _) g1 g2 g3); clear g1 g2 g3)
        go_roundw
        case rel => exact ⟨k + 1, by omega, by go_num, by rw [HE.out, if_neg HC.out]; simpa using HG.out⟩
        case measure => simp [intOf]; omega
    · obtain rfl : k = s.size := by omega
      have HT := Lib.hid (show s.data.toList.take s.size = s.data.toList from List.take_of_length_le (by simp))
      have hN := Blk.new wr 5 #[.int .u8 0, .int .u8 1]
      go_wp2_with (at_builtin; refine app_bytes rfl (.tmp 25) (.tmp 26) rfl B _ (l ++ escT (s.data.toList.take s.size)) rfl (HW.out.1.alloc' _) wr.heap.size 2 2 [0, 1] _ rfl (by decide) rfl rfl hN (by simp; omega) (by simp; omega) ?_; intro v2 w2 g1 g2 g3; have HG := Lib.hid (HW.out.step ((Only.refl NoneOf wr).alloc _) g1 g2 g3); clear g1 g2 g3)
      go_ret
      have hg := HG.out
      rw [HT.out] at hg
      exact LaidPost.of hg

end Go.Proofs.Ytimoenpfnaaehaa
