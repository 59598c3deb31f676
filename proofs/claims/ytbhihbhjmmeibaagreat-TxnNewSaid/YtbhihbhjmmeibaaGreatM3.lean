/-
  Texts of this proof, laid together: T1, T2, T3, T4, T5, S53a, T6, S51a, T7, T8, IterZ, T9.
-/
import Derived.Test.YtbhihbhjmmeibaaGreatM2
import Derived.Maps.OwnSet
import Derived.Laws.ResultCell
import Derived.Test.YtbhihbhjmmeibaaGreatM1
import Derived.Laws.AppendOwnNone
import Derived.Maps.OwnIn
/-
  Layer 16: a set of writes in memory; New, find, Weight, Bytes.
-/
namespace Go.Proofs.YtbhihbhjmmeibaaGreat
open Go.RowKit
open Go.Maps (Keyed)

abbrev MW := DataW Value
/-- How a write in a map reads: as itself. -/
def RW (v : Value) : Option (MW × List MemPlace) := some (.held v, [])
theorem RW_inv {v : Value} {d : MW} {ps : List MemPlace} (h : RW v = some (d, ps)) : d = .held v := by
  unfold RW at h
  injection h with h
  injection h with h _
  exact h.symm

/-- a write: its key, its bytes, whether it takes away -/
structure We where
  key : List UInt8
  bs : List UInt8
  dead : Bool

/-- the write of a key -/
def look (ws : List We) (k : List UInt8) : Option We := ws.find? fun e => decide (e.key = k)
/-- the bytes of all -/
def bytesW : List We → Nat
  | [] => 0
  | e :: ws => e.key.length + e.bs.length + bytesW ws
/-- the bytes of a key's write -/
def weightW (ws : List We) (k : List UInt8) : Nat := match look ws k with | none => 0 | some e => e.key.length + e.bs.length

theorem look_mem {ws : List We} {k : List UInt8} {e : We} (h : look ws k = some e) : e ∈ ws ∧ e.key = k := by
  unfold look at h
  exact ⟨List.mem_of_find?_eq_some h, by simpa using List.find?_some h⟩
theorem look_none {ws : List We} {k : List UInt8} (h : look ws k = none) : ∀ e ∈ ws, e.key ≠ k := by
  unfold look at h
  rw [List.find?_eq_none] at h
  exact fun e he => by simpa using h e he

/-- a write's cells -/
abbrev weC (A : Option Addr) (n c : Nat) (dead : Bool) : Array Value := #[.slice A n c, .bool dead]
abbrev zeroW : Array Value := #[.slice none 0 0, .bool false]
theorem infoW : (Tryz.prog.info? 160).map (·.size) = some 2 := by kernel_rfl
theorem zeroWr (w : World) : (zeroValue 160).run Tryz.prog w = .ok (.agg zeroW) w := by kernel_rfl

/-- the set p with the map m holds the writes ws; U are blocks that others turn -/
structure SetB (w : World) (p m n : Nat) (D : MW) (at' : List UInt8 → Option Addr × Nat) (ws : List We) (U : Nat → Prop) (by' : Int) : Prop where
  blk : Blk w p 143 #[.map (some m), .int .i64 by']
  map : w.ownsMap Tryz.prog 9 RW m n D
  keys : ∀ (key : ByteArray) (zd : MW), key.size ≤ maxLen → D.atKey (.string key.data.toList) zd = match look ws key.data.toList with | none => zd | some e => .held (.agg (weC (at' e.key).1 e.bs.length (at' e.key).2 e.dead))
  vals : ∀ e ∈ ws, BytesAt w (at' e.key).1 e.bs
  apart : ∀ e ∈ ws, e.bs ≠ [] → ∀ g off, (at' e.key).1 = some ⟨g, off, none⟩ → g ≠ p ∧ g ≠ m ∧ ¬ U g
  rise : ws.Pairwise fun a b => a.key < b.key
  good : ∀ e ∈ ws, 1 ≤ e.key.length ∧ e.key.length ≤ 255 ∧ e.bs.length ≤ 4096 ∧ (e.dead = true → e.bs = [])
  few : ws.length ≤ n
  pm : p ≠ m
  ult : ∀ k, U k → k < w.heap.size ∧ k ≠ p ∧ k ≠ m
/-- .. and tells their bytes -/
abbrev SetIs (w : World) (p m n : Nat) (D : MW) (at' : List UInt8 → Option Addr × Nat) (ws : List We) (U : Nat → Prop) : Prop := SetB w p m n D at' ws U (bytesW ws : Nat)

theorem mapw_only {w w' : World} {S : Nat → Prop} {m n : Nat} {D : MW} (h : w.ownsMap Tryz.prog 9 RW m n D) (ho : Only S w w') (hS : ¬ S m) : w'.ownsMap Tryz.prog 9 RW m n D := by
  have hlt := h.lt
  obtain ⟨es, clock, hb, r⟩ := h
  exact ⟨es, clock, (ho.block m hlt hS).trans hb, r⟩
theorem BytesAt.turn {w w' : World} {A : Option Addr} {bs : List UInt8} {S : Nat → Prop} (h : BytesAt w A bs) (ho : Only S w w') (hS : bs ≠ [] → ∀ g off, A = some ⟨g, off, none⟩ → ¬ S g) : BytesAt w' A bs := fun i c hc => by
  obtain ⟨g, off, hA, hg, h1⟩ := h i c hc
  exact ⟨g, off, hA, Nat.lt_of_lt_of_le hg ho.size, (ho.cell (p := ⟨g, off + i, none⟩) hg (hS (fun e => by rw [e] at hc; simp at hc) g off hA)).trans h1⟩
theorem BytesAt.lt {w : World} {A : Option Addr} {bs : List UInt8} (h : BytesAt w A bs) (hne : bs ≠ []) {g off : Nat} (hA : A = some ⟨g, off, none⟩) : g < w.heap.size := by
  obtain ⟨g', off', hA', hg, _⟩ := h 0 _ (List.getElem?_eq_getElem (List.length_pos_iff.2 hne))
  rw [hA] at hA'
  simp only [Option.some.injEq, Addr.mk.injEq, and_true] at hA'
  rw [hA'.1]
  exact hg

/-- What others turn leaves a set. -/
theorem SetB.other {w w' : World} {p m n : Nat} {D : MW} {at' : List UInt8 → Option Addr × Nat} {ws : List We} {U U' S : Nat → Prop} {by' : Int} (h : SetB w p m n D at' ws U by') (ho : Only S w w') (hS : ∀ k, S k → U k) (hU : ∀ k, U' k → k < w'.heap.size ∧ (U k ∨ w.heap.size ≤ k)) : SetB w' p m n D at' ws U' by' :=
  ⟨h.blk.only ho (fun hs => (h.ult p (hS p hs)).2.1 rfl), mapw_only h.map ho (fun hs => (h.ult m (hS m hs)).2.2 rfl), h.keys, fun e he => (h.vals e he).turn ho (fun hne g off hA hs => (h.apart e he hne g off hA).2.2 (hS g hs)),
    fun e he hne g off hA => ⟨(h.apart e he hne g off hA).1, (h.apart e he hne g off hA).2.1, fun hu => by
      rcases (hU g hu).2 with h1 | h1
      · exact (h.apart e he hne g off hA).2.2 h1
      · have := (h.vals e he).lt hne hA; omega⟩, h.rise, h.good, h.few, h.pm, fun k hk => ⟨(hU k hk).1, by
      have hp := h.blk.lt
      have hm := h.map.lt
      rcases (hU k hk).2 with h1 | h1
      · exact (h.ult k h1).2
      · exact ⟨by omega, by omega⟩⟩⟩
theorem SetB.keep {w w' : World} {p m n : Nat} {D : MW} {at' : List UInt8 → Option Addr × Nat} {ws : List We} {U : Nat → Prop} {by' : Int} (h : SetB w p m n D at' ws U by') (ho : Only NoneOf w w') : SetB w' p m n D at' ws U by' :=
  h.other ho (fun _ h => h.elim) (fun k hk => ⟨Nat.lt_of_lt_of_le (h.ult k hk).1 ho.size, .inl hk⟩)

/-- a key's write as a value -/
def writeV (at' : List UInt8 → Option Addr × Nat) (ws : List We) (k : List UInt8) : Array Value := match look ws k with | none => zeroW | some e => weC (at' e.key).1 e.bs.length (at' e.key).2 e.dead
theorem SetB.has {w : World} {p m n : Nat} {D : MW} {at' : List UInt8 → Option Addr × Nat} {ws : List We} {U : Nat → Prop} {by' : Int} (h : SetB w p m n D at' ws U by') {key : ByteArray} (hk : key.size ≤ maxLen) : Go.Maps.has D (.string key.data.toList) = (look ws key.data.toList).isSome := by
  cases hl : look ws key.data.toList with
  | none => exact Go.Maps.has_false_of_atKey (fun z => by rw [h.keys key z hk, hl])
  | some e => exact Go.Maps.has_true_of_atKey (y := .held (.agg (weC (at' e.key).1 e.bs.length (at' e.key).2 e.dead))) (fun z => by rw [h.keys key z hk, hl])

theorem wpList_lookup_w {ops : Array Oper} {rest : List Oper} {o : Oper} {a : Act} {Q : Exit → Act → World → Prop} {w : World}
    (hg : o.guard = none) (mo x : Operand) (hop : o.op = Op.lookup 141 mo x true) (p m n : Nat) (D : MW) (at' : List UInt8 → Option Addr × Nat) (ws : List We) (U : Nat → Prop) (hm : a.eval mo = .map (some m)) {by' : Int} (h : SetB w p m n D at' ws U by')
    (key : ByteArray) (hx : a.eval x = .string key) (hl : key.size ≤ maxLen)
    (hK : wpList Tryz.prog ops Q rest (a.put o.dst (.tuple #[.agg (writeV at' ws key.data.toList), .bool (look ws key.data.toList).isSome])) w) : wpList Tryz.prog ops Q (o :: rest) a w := by
  refine wpList_plain hg fun K' hK' => ?_
  obtain ⟨v, ps, hrun, hr⟩ := h.map.look_ok law9 Tryz.underlying141 (zeroWr w) (zd := .held (.agg zeroW)) (zp := []) rfl (Go.WideMaps.keyOf_string_mk Tryz.underlying9 hl)
  have hv := RW_inv hr
  rw [h.keys key _ hl] at hv
  have hv' : v = .agg (writeV at' ws key.data.toList) := by
    unfold writeV
    cases hlk : look ws key.data.toList with
    | none => rw [hlk] at hv; exact (DataW.held.inj hv).symm
    | some e => rw [hlk] at hv; exact (DataW.held.inj hv).symm
  rw [h.has hl, hv'] at hrun
  unfold Oper.wp
  simp [execOp, hop, hm, hx, hrun, Result.andThen]
  exact hK' _ _ hK
theorem wpList_get_w {ops : Array Oper} {rest : List Oper} {o : Oper} {a : Act} {Q : Exit → Act → World → Prop} {w : World}
    (hg : o.guard = none) (mo x : Operand) (hop : o.op = Op.lookup 141 mo x false) (p m n : Nat) (D : MW) (at' : List UInt8 → Option Addr × Nat) (ws : List We) (U : Nat → Prop) (hm : a.eval mo = .map (some m)) {by' : Int} (h : SetB w p m n D at' ws U by')
    (key : ByteArray) (hx : a.eval x = .string key) (hl : key.size ≤ maxLen)
    (hK : wpList Tryz.prog ops Q rest (a.put o.dst (.agg (writeV at' ws key.data.toList))) w) : wpList Tryz.prog ops Q (o :: rest) a w := by
  refine wpList_plain hg fun K' hK' => ?_
  obtain ⟨v, ps, hrun, hr⟩ := h.map.lookup law9 Tryz.underlying141 (zeroWr w) (zd := .held (.agg zeroW)) (zp := []) rfl (Go.WideMaps.keyOf_string_mk Tryz.underlying9 hl)
  have hv := RW_inv hr
  rw [h.keys key _ hl] at hv
  have hv' : v = .agg (writeV at' ws key.data.toList) := by
    unfold writeV
    cases hlk : look ws key.data.toList with
    | none => rw [hlk] at hv; exact (DataW.held.inj hv).symm
    | some e => rw [hlk] at hv; exact (DataW.held.inj hv).symm
  rw [hv'] at hrun
  unfold Oper.wp
  simp [execOp, hop, hm, hx, hrun, Result.andThen]
  exact hK' _ _ hK

theorem results_row_tmp {P : Program} {fn : Func} {p u : Tmp} {ty : TypeId} (h : fn.results = #[.cell p ty, .tmp u]) (tmps : Array Value) (w : World) (g : Nat) (t : TypeId) (cs : Array Value) (fr : Nat × Nat) (d : TypeDesc)
    (hp : tmps.getD p undef = .pointer (some ⟨g, 0, none⟩)) (hg : w.heap[g]? = some (.cells cs t fr))
    (hu : P.underlying ty = some d) (hd : (match d with | .struct _ | .array _ _ => true | _ => false) = true) (hi : (P.info? ty).map (·.size) = some cs.size) (x : Value) (hx : tmps.getD u undef = x) :
    (results fn tmps).run P w = .ok (.tuple #[.agg cs, x]) w := by
  rw [results_cell_tmp h, hp, hx]
  simp [asAddr, Result.andThen, run_loadVar_row w g t ty cs fr d hg hu hd hi]

theorem writeV_form (at' : List UInt8 → Option Addr × Nat) (ws : List We) (k : List UInt8) : ∃ A n c d, writeV at' ws k = weC A n c d := by
  unfold writeV
  cases look ws k with
  | none => exact ⟨none, 0, 0, false, rfl⟩
  | some e => exact ⟨_, _, _, _, rfl⟩

/-- new, empty -/
theorem setNew (w : World) : Calls Tryz.prog 36 #[] w fun e w' => e = .returned (.pointer (some ⟨w.heap.size + 1, 0, none⟩)) ∧ SetIs w' (w.heap.size + 1) w.heap.size 0 (.map []) (fun _ => (none, 0)) [] NoneOf ∧ Only NoneOf w w' := by
  have hm := World.ownsMap_made w Tryz.prog 9 RW
  have hmm := @run_makeMap Tryz.prog
  go_enter Tryz.func36, Tryz.ntmps36
  go_wp2_with fail
  go_ret
  refine ⟨by simp, ?_, ((Only.refl _ _).alloc _).alloc _⟩
  exact ⟨Blk.new' _ _ _ (by simp), hm.alloc _, fun key zd hk => by simp [look, DataW.atKey], fun e he => (by cases he), fun e he => (by cases he), .nil, fun e he => (by cases he), Nat.le_refl _, by omega, fun k hk => hk.elim⟩

set_option maxRecDepth 100000 in
set_option maxHeartbeats 1000000 in
theorem find_is (w : World) (p m n : Nat) (D : MW) (at' : List UInt8 → Option Addr × Nat) (ws : List We) (U : Nat → Prop) {by' : Int} (h : SetB w p m n D at' ws U by') (key : ByteArray) (hl : key.size ≤ maxLen) :
    Calls Tryz.prog 87 #[.pointer (some ⟨p, 0, none⟩), .string key] w fun e w' => e = .returned (.tuple #[.agg (writeV at' ws key.data.toList), .bool (look ws key.data.toList).isSome]) ∧ Only NoneOf w w' := by
  obtain ⟨A, k, c, d, hwv⟩ := writeV_form at' ws key.data.toList
  have B1 := Blk.new w 160 zeroW
  have h1 := h.keep ((Only.refl _ w).alloc (.cells zeroW 160))
  have H1 := Lib.hid h1
  have c0 := h1.blk.cellv 0 rfl
  have HB2 := Lib.hid ((B1.alloc (.cells zeroW 160)).row (weC A k c d))
  have hB2 := Blk.new' (w.alloc (.cells zeroW 160)) 160 zeroW (n := w.heap.size + 1) (by simp)
  have HR := Lib.hid (hB2.row (weC A k c d))
  have HF := Lib.hid (((B1.alloc (.cells zeroW 160)).row_far (g := w.heap.size + 1) (by omega) (weC A k c d)))
  have HFR := Lib.hid (HF.out.row (weC A k c d))
  have HO := Lib.hid (((((Only.refl NoneOf w).alloc (.cells zeroW 160)).alloc (.cells zeroW 160)).row (b := w.heap.size + 1) (.inr (by omega)) (weC A k c d)).row (b := w.heap.size) (.inr (Nat.le_refl _)) (weC A k c d))
  have Hb2 := Lib.hid hB2
  clear h h1 hB2 B1
  go_enter Tryz.func87, Tryz.ntmps87
  go_wp2_with (first | (at_lookup; refine wpList_lookup_w rfl (.tmp 15) (.tmp 16) rfl p m n D at' ws U rfl H1.out key rfl hl ?_; rw [hwv]) | (refine wpList_store_row rfl 160 (.tmp 6) (.tmp 18) rfl (w.heap.size + 1) (weC A k c d) rfl rfl 160 zeroW Hb2.out infoW rfl (by simp [Value.oneCell']) ?_) | (refine wpList_load_row rfl 160 (.tmp 6) rfl (w.heap.size + 1) rfl 160 _ (0, 0) _ HR.out Tryz.underlying160 rfl infoW ?_) | (refine wpList_store_row rfl 160 (.tmp 4) (.tmp 20) rfl w.heap.size (weC A k c d) rfl rfl 160 zeroW HF.out infoW rfl (by simp [Value.oneCell']) ?_) | fail)
  rw [hwv]
  exact bodyPost_ret (v := .tuple #[.agg (weC A k c d), .bool (look ws key.data.toList).isSome]) (results_row_tmp rfl _ _ w.heap.size 160 _ (0, 0) _ rfl HFR.out Tryz.underlying160 rfl infoW _ rfl) rfl ⟨rfl, HO.out⟩

end Go.Proofs.YtbhihbhjmmeibaaGreat

/-
  Layer 16: a set of writes: Weight, Bytes, version, Get.
-/
namespace Go.Proofs.YtbhihbhjmmeibaaGreat
open Go.RowKit

theorem infoV : (Tryz.prog.info? 47).map (·.size) = some 4 := by kernel_rfl
abbrev zeroVer : Array Value := verC ⟨#[]⟩ 0 (.slice none 0 0) false

theorem weight_le {ws : List We} (hg : ∀ e ∈ ws, 1 ≤ e.key.length ∧ e.key.length ≤ 255 ∧ e.bs.length ≤ 4096 ∧ (e.dead = true → e.bs = [])) (k : List UInt8) : weightW ws k ≤ 4351 := by
  unfold weightW
  cases h : look ws k with
  | none => simp
  | some e => have := hg e (look_mem h).1; simp only; omega

set_option maxRecDepth 100000 in
set_option maxHeartbeats 1000000 in
theorem weight_is' (w : World) (p m n : Nat) (D : MW) (at' : List UInt8 → Option Addr × Nat) (ws : List We) (U : Nat → Prop) {by' : Int} (h : SetB w p m n D at' ws U by') (key : ByteArray) (hl : key.size ≤ maxLen) :
    Calls Tryz.prog 89 #[.pointer (some ⟨p, 0, none⟩), .string key] w fun e w' => e = .returned (.int .i64 (weightW ws key.data.toList : Nat)) ∧ Only NoneOf w w' := by
  have HF := Lib.hid (find_is w p m n D at' ws U h key hl)
  cases hlk : look ws key.data.toList with
  | none =>
    have hwv : writeV at' ws key.data.toList = zeroW := by unfold writeV; rw [hlk]
    have hwt : weightW ws key.data.toList = 0 := by unfold weightW; rw [hlk]
    rw [hwv, hlk] at HF
    rw [hwt]
    clear h hlk hwv hwt
    go_enter Tryz.func89, Tryz.ntmps89
    go_wp2_with fail
    refine HF.out.mono ?_; rintro e w1 ⟨rfl, ho⟩
    have hB := Lib.hid (Blk.new w1 160 zeroW)
    have HO := Lib.hid ((ho.alloc (.cells zeroW 160)).row (b := w1.heap.size) (.inr ho.size) zeroW)
    clear ho
    go_wp2_with (first | (refine wpList_store_row rfl 160 (.tmp 5) (.tmp 11) rfl w1.heap.size zeroW rfl rfl 160 zeroW hB.out infoW rfl (by simp [Value.oneCell']) ?_) | fail)
    go_ret
    exact ⟨rfl, HO.out⟩
  | some x =>
    obtain ⟨hx, hxk⟩ := look_mem hlk
    obtain ⟨A, c, hat⟩ : ∃ A c, at' x.key = (A, c) := ⟨_, _, rfl⟩
    have hwv : writeV at' ws key.data.toList = weC A x.bs.length c x.dead := by unfold writeV; rw [hlk]; simp only [hat]
    have hwt : weightW ws key.data.toList = key.size + x.bs.length := by
      unfold weightW; rw [hlk]; simp only [hxk]; rw [Array.length_toList]; rfl
    have hgx := h.good x hx
    have hks : key.size ≤ 255 := by
      have e : key.size = x.key.length := by rw [hxk, Array.length_toList]; rfl
      omega
    rw [hwv, hlk] at HF
    rw [hwt]
    obtain ⟨nb, hnb⟩ : ∃ nb, x.bs.length = nb := ⟨_, rfl⟩
    obtain ⟨dd, hdd⟩ : ∃ dd, x.dead = dd := ⟨_, rfl⟩
    rw [hnb, hdd] at HF
    have hnb1 : nb ≤ 4096 := by omega
    simp only [hnb]
    clear h hlk hwv hwt hgx hx hxk hat hnb hdd
    obtain ⟨nk, hnk⟩ : ∃ nk, key.size = nk := ⟨_, rfl⟩
    go_enter Tryz.func89, Tryz.ntmps89
    go_wp2_with fail
    refine HF.out.mono ?_; rintro e w1 ⟨rfl, ho⟩
    have hB := Lib.hid (Blk.new w1 160 zeroW)
    have E1 := hB.out.row (weC A nb c dd)
    have c0 := E1.cellv 0 rfl
    have HO := Lib.hid ((ho.alloc (.cells zeroW 160)).row (b := w1.heap.size) (.inr ho.size) (weC A nb c dd))
    clear ho E1
    go_wp2_with (first | (refine wpList_store_row rfl 160 (.tmp 5) (.tmp 11) rfl w1.heap.size (weC A nb c dd) rfl rfl 160 zeroW hB.out infoW rfl (by simp [Value.oneCell']) ?_) | fail)
    go_ret
    exact ⟨by rw [show ((key.size + nb : Nat) : Int) = (nk : Int) + (nb : Int) by omega]; rfl, HO.out⟩

theorem bytes_is' (w : World) (p m n : Nat) (D : MW) (at' : List UInt8 → Option Addr × Nat) (ws : List We) (U : Nat → Prop) (h : SetIs w p m n D at' ws U) :
    Calls Tryz.prog 71 #[.pointer (some ⟨p, 0, none⟩)] w fun e w' => e = .returned (.int .i64 (bytesW ws : Nat)) ∧ w = w' := by
  have c1 := h.blk.cellv 1 rfl
  clear h
  go_enter Tryz.func71, Tryz.ntmps71
  go_wp2_with fail
  go_ret
  exact ⟨rfl, rfl⟩

/-- what a version's region has made -/
def VerT (key : ByteArray) (b : Nat) (A : Option Addr) (n c : Nat) (dead : Bool) (bs : List UInt8) (B : Nat) : Nat → Value → World → Prop
  | 0, x, _ => x = .string key
  | 1, x, _ => x = .pointer (some ⟨b, 0, none⟩)
  | 2, x, _ => x = .slice A n c
  | 3, x, w => ∃ A' c', x = .slice A' bs.length c' ∧ RowB w B x bs
  | 4, x, _ => x = .pointer (some ⟨b, 1, none⟩)
  | 5, x, _ => x = .bool dead
  | 6, x, w => ∃ A' c', x = .agg (verC key 0 (.slice A' bs.length c') dead) ∧ RowB w B (.slice A' bs.length c') bs
  | _, _, _ => True
theorem VerT_keep (key : ByteArray) (b : Nat) (A : Option Addr) (n c : Nat) (dead : Bool) (bs : List UInt8) (B : Nat) (i : Nat) (x : Value) (w w' : World) (h : VerT key b A n c dead bs B i x w) (ho : Only NoneOf w w') : VerT key b A n c dead bs B i x w' :=
  match i, h with
  | 0, h | 1, h | 2, h | 4, h | 5, h => h
  | 3, ⟨A', c', h1, h2⟩ => ⟨A', c', h1, h2.keep ho⟩
  | 6, ⟨A', c', h1, h2⟩ => ⟨A', c', h1, h2.keep ho⟩
  | _ + 7, _ => trivial

def VersionPost (key : ByteArray) (bs : List UInt8) (dead : Bool) (w : World) (e : Ending) (w' : World) : Prop :=
  ∃ v, e = .returned (.agg (verC key 0 v dead)) ∧ RowB w' w.heap.size v bs ∧ Only NoneOf w w'

set_option maxRecDepth 100000 in
set_option maxHeartbeats 2000000 in
theorem version_is (w : World) (key : ByteArray) (A : Option Addr) (n c : Nat) (dead : Bool) (bs : List UInt8) (hn : bs.length = n) (hby : BytesAt w A bs) (hl : n ≤ 4096) :
    Calls Tryz.prog 74 #[.string key, .agg (weC A n c dead)] w (VersionPost key bs dead w) := by
  have hBB := (Blk.new w 160 (weC A n c dead)).alloc (.cells zeroVer 47)
  have HB := Lib.hid hBB
  have hb2 := Blk.new' (w.alloc (.cells (weC A n c dead) 160)) 47 zeroVer (n := w.heap.size + 1) (by simp)
  have HB2 := Lib.hid hb2
  have HOO := Lib.hid (((Only.refl NoneOf w).alloc (.cells (weC A n c dead) 160)).alloc (.cells zeroVer 47))
  have HBY := Lib.hid (hby.keep HOO.out)
  have hz : (((w.alloc (.cells (weC A n c dead) 160)).alloc (.cells zeroVer 47))).heap.size = w.heap.size + 2 := by simp
  obtain ⟨W, hW⟩ : ∃ W, ((w.alloc (.cells (weC A n c dead) 160)).alloc (.cells zeroVer 47)) = W := ⟨_, rfl⟩
  have HW := Lib.hid hW
  have HN := Lib.hid hn
  rw [hW] at HB HB2 HOO HBY hz
  clear hby hBB hb2 hW hn
  go_enter Tryz.func74, Tryz.ntmps74
  go_upto_region 1 with (fail)
  rw [HW.out]
  refine wp_region_head 7 12 (VerT key w.heap.size A n c dead bs W.heap.size) (fun _ => false) rfl (by kernel_rfl) (by kernel_rfl) (VerT_keep _ _ _ _ _ _ _ _) (fun _ _ _ h => by cases h) ?_ ?_
  · intro i o hi ho a u hu hs ht
    have e0 : a.tmps.getD 0 undef = .string key := hs 0 (of_decide_eq_true (by kernel_rfl))
    have e3 : a.tmps.getD 3 undef = .pointer (some ⟨w.heap.size, 0, none⟩) := hs 3 (of_decide_eq_true (by kernel_rfl))
    have F8 := HB.out.only hu (fun h => h)
    have c0 := F8.cellv 0 rfl
    have c1 := F8.cellv 1 rfl
    have : i = 0 ∨ i = 1 ∨ i = 2 ∨ i = 3 ∨ i = 4 ∨ i = 5 ∨ i = 6 := by omega
    rcases this with rfl | rfl | rfl | rfl | rfl | rfl | rfl
    · obtain rfl := Option.some.inj (ho : some _ = some o)
      exact left_value (.string key) (by simp [go_sem, e0]) rfl rfl
    · obtain rfl := Option.some.inj (ho : some _ = some o)
      exact left_value (.pointer (some ⟨w.heap.size, 0, none⟩)) (by simp [go_sem, e3]) rfl rfl
    · obtain rfl := Option.some.inj (ho : some _ = some o)
      have s1 : a.tmps.getD 6 undef = .pointer (some ⟨w.heap.size, 0, none⟩) := ht 1 (by omega) (by kernel_rfl)
      exact left_value (.slice A n c) (by simp [go_sem, s1, c0]) rfl rfl
    · obtain rfl := Option.some.inj (ho : some _ = some o)
      have s2 : a.tmps.getD 7 undef = .slice A n c := ht 2 (by omega) (by kernel_rfl)
      refine left_calls 91 #[.slice A n c] (by simp [go_sem, s2]) ((own_isw A n c bs u HN.out (HBY.out.keep hu) (by omega)).mono ?_) rfl
      rintro e u' ⟨v', rfl, hr, ho'⟩
      obtain ⟨A', c', rfl, _⟩ := hr.at
      exact ⟨_, rfl, ⟨A', c', rfl, hr.base (by have := hu.size; omega)⟩, ho'⟩
    · obtain rfl := Option.some.inj (ho : some _ = some o)
      exact left_value (.pointer (some ⟨w.heap.size, 1, none⟩)) (by simp [go_sem, e3]) rfl rfl
    · obtain rfl := Option.some.inj (ho : some _ = some o)
      have s4 : a.tmps.getD 9 undef = .pointer (some ⟨w.heap.size, 1, none⟩) := ht 4 (by omega) (by kernel_rfl)
      exact left_value (.bool dead) (by simp [go_sem, s4, c1]) rfl rfl
    · obtain rfl := Option.some.inj (ho : some _ = some o)
      have s0 : a.tmps.getD 5 undef = .string key := ht 0 (by omega) (by kernel_rfl)
      have s0' : a.tmps[5]?.getD undef = .string key := by simpa using s0
      have s5 : a.tmps.getD 10 undef = .bool dead := ht 5 (by omega) (by kernel_rfl)
      have s5' : a.tmps[10]?.getD undef = .bool dead := by simpa using s5
      obtain ⟨A', c', s3, hr⟩ : ∃ A' c', a.tmps.getD 8 undef = .slice A' bs.length c' ∧ RowB u W.heap.size (a.tmps.getD 8 undef) bs := ht 3 (by omega) (by kernel_rfl)
      rw [s3] at hr
      have s3' : a.tmps[8]?.getD undef = .slice A' bs.length c' := by simpa using s3
      exact left_value (.agg (verC key 0 (.slice A' bs.length c') dead)) (by simp [go_sem, s0', s3', s5', verC]) rfl ⟨A', c', rfl, hr⟩
  · intro V' u hu hV' _
    have v0 : V' 0 = .string key := hV' 0 (by omega)
    have v1 : V' 1 = .pointer (some ⟨w.heap.size, 0, none⟩) := hV' 1 (by omega)
    have v2 : V' 2 = .slice A n c := hV' 2 (by omega)
    obtain ⟨A3, c3, v3, _⟩ : ∃ A' c', V' 3 = .slice A' bs.length c' ∧ RowB u W.heap.size (V' 3) bs := hV' 3 (by omega)
    have v4 : V' 4 = .pointer (some ⟨w.heap.size, 1, none⟩) := hV' 4 (by omega)
    have v5 : V' 5 = .bool dead := hV' 5 (by omega)
    obtain ⟨A6, c6, v6, hr6⟩ : ∃ A' c', V' 6 = .agg (verC key 0 (.slice A' bs.length c') dead) ∧ RowB u W.heap.size (.slice A' bs.length c') bs := hV' 6 (by omega)
    replace hr6 := Lib.hid hr6
    change wpList _ _ _ _ (Act.put (Act.put (Act.put (Act.put (Act.put (Act.put (Act.put _ (some 5) (V' 0)) (some 6) (V' 1)) (some 7) (V' 2)) (some 8) (V' 3)) (some 9) (V' 4)) (some 10) (V' 5)) (some 11) (V' 6)) _
    rw [v0, v1, v2, v3, v4, v5, v6]
    simp only [Act.put, List.setIfInBounds_toArray, List.set_cons_zero, List.set_cons_succ]
    simp only [List.drop_succ_cons, List.drop_zero]
    clear hV' v0 v1 v2 v3 v4 v5 v6
    have hu0 := HOO.out.trans hu
    have hB2u := Lib.hid (HB2.out.only hu (fun h => h))
    have HR := Lib.hid (hB2u.out.row (verC key 0 (.slice A6 bs.length c6) dead))
    have HF := Lib.hid (hr6.out.only (S := (· = w.heap.size + 1)) ((Only.refl (· = w.heap.size + 1) u).row (.inl rfl) (verC key 0 (.slice A6 bs.length c6) dead)) (fun g hg e => by have := (ownsRow_lt hr6.out hg).1; omega))
    have HOF := Lib.hid (hu0.row (b := w.heap.size + 1) (.inr (by omega)) (verC key 0 (.slice A6 bs.length c6) dead))
    have HZ := Lib.hid hz
    clear hu hu0 hz
    go_wp2_with (first | (refine wpList_store_row rfl 47 (.tmp 4) (.tmp 11) rfl (w.heap.size + 1) (verC key 0 (.slice A6 bs.length c6) dead) rfl rfl 47 zeroVer hB2u.out infoV rfl (by simp [Value.oneCell', verC]) ?_) | fail)
    exact bodyPost_ret (v := .agg (verC key 0 (.slice A6 bs.length c6) dead)) (results_cell_row rfl _ _ (w.heap.size + 1) 47 _ (0, 0) _ rfl HR.out Tryz.underlying47 rfl infoV) rfl ⟨_, rfl, HF.out.base (by have := HZ.out; omega), HOF.out⟩

end Go.Proofs.YtbhihbhjmmeibaaGreat

/-
  Layer 16: a set of writes: one more is laid.
-/
namespace Go.Proofs.YtbhihbhjmmeibaaGreat
open Go.RowKit

/-- what is wrong with a write -/
def mayW (key : ByteArray) (n : Nat) : Int := if key.size < 1 ∨ 255 < key.size then 140 else if 4096 < n then 141 else 0

/-- the writes with one more -/
def layW : List We → We → List We
  | [], e => [e]
  | x :: ws, e => if x.key < e.key then x :: layW ws e else if x.key = e.key then e :: ws else e :: x :: ws

theorem layW_mem : ∀ {ws : List We} {e x : We}, x ∈ layW ws e → x = e ∨ x ∈ ws
  | [], e, x, h => .inl (by simpa [layW] using h)
  | y :: ws, e, x, h => by
    unfold layW at h
    split at h
    · rcases List.mem_cons.1 h with h | h
      · exact .inr (by simp [h])
      · rcases layW_mem h with h | h
        · exact .inl h
        · exact .inr (by simp [h])
    · split at h
      · rcases List.mem_cons.1 h with h | h
        · exact .inl h
        · exact .inr (by simp [h])
      · rcases List.mem_cons.1 h with h | h
        · exact .inl h
        · exact .inr h

theorem layW_rise : ∀ {ws : List We} {e : We}, (ws.Pairwise fun a b => a.key < b.key) → (layW ws e).Pairwise fun a b => a.key < b.key
  | [], e, _ => by simp [layW]
  | y :: ws, e, h => by
    rw [List.pairwise_cons] at h
    unfold layW
    split
    · rename_i hlt
      rw [List.pairwise_cons]
      refine ⟨fun b hb => ?_, layW_rise h.2⟩
      rcases layW_mem hb with rfl | hb
      · exact hlt
      · exact h.1 b hb
    · split
      · rename_i heq
        rw [List.pairwise_cons]
        exact ⟨fun b hb => by rw [← heq]; exact h.1 b hb, h.2⟩
      · rename_i hn hne
        have hlt : e.key < y.key := (List.le_iff_lt_or_eq.1 (List.not_lt.1 hn)).resolve_right (fun h' => hne h'.symm)
        rw [List.pairwise_cons, List.pairwise_cons]
        refine ⟨fun b hb => ?_, h⟩
        rcases List.mem_cons.1 hb with rfl | hb
        · exact hlt
        · exact List.lt_trans hlt (h.1 b hb)

theorem look_cons (x : We) (ws : List We) (k : List UInt8) : look (x :: ws) k = if x.key = k then some x else look ws k := by
  unfold look
  rw [List.find?_cons]
  by_cases h : x.key = k <;> simp [h]
theorem look_above {ws : List We} {k : List UInt8} (h : ∀ e ∈ ws, k < e.key) : look ws k = none := by
  unfold look
  rw [List.find?_eq_none]
  intro e he hk
  have h1 := h e he
  simp only [decide_eq_true_eq] at hk
  rw [hk] at h1
  exact List.lt_irrefl _ h1

theorem look_lay : ∀ {ws : List We} (e : We) (k : List UInt8), (ws.Pairwise fun a b => a.key < b.key) → look (layW ws e) k = if e.key = k then some e else look ws k
  | [], e, k, _ => by
    show look [e] k = _
    rw [look_cons]
  | y :: ws, e, k, h => by
    rw [List.pairwise_cons] at h
    unfold layW
    split
    · rename_i hlt
      rw [look_cons, look_lay e k h.2, look_cons]
      by_cases h1 : y.key = k
      · rw [if_pos h1, if_pos h1, if_neg]
        intro h2
        rw [h1, h2] at hlt
        exact List.lt_irrefl _ hlt
      · rw [if_neg h1, if_neg h1]
    · split
      · rename_i heq
        rw [look_cons, look_cons, heq]
        by_cases h1 : e.key = k
        · rw [if_pos h1, if_pos h1]
        · rw [if_neg h1, if_neg h1, if_neg h1]
      · rw [look_cons]

theorem weight_cons (x : We) (ws : List We) (k : List UInt8) : weightW (x :: ws) k = if x.key = k then x.key.length + x.bs.length else weightW ws k := by
  unfold weightW
  rw [look_cons]
  by_cases h : x.key = k <;> simp [h]
theorem weight_above {ws : List We} {k : List UInt8} (h : ∀ e ∈ ws, k < e.key) : weightW ws k = 0 := by
  unfold weightW
  rw [look_above h]
/-- the bytes behind it -/
theorem bytes_lay : ∀ {ws : List We} (e : We), (ws.Pairwise fun a b => a.key < b.key) → bytesW (layW ws e) + weightW ws e.key = bytesW ws + (e.key.length + e.bs.length)
  | [], e, _ => by simp [layW, bytesW, weightW, look]
  | y :: ws, e, h => by
    rw [List.pairwise_cons] at h
    have ih := bytes_lay e h.2
    unfold layW
    split
    · rename_i hlt
      rw [weight_cons, if_neg (fun h2 => by rw [h2] at hlt; exact List.lt_irrefl _ hlt)]
      simp only [bytesW]
      omega
    · split
      · rename_i heq
        rw [weight_cons, if_pos heq]
        simp only [bytesW]
        omega
      · rename_i hn hne
        have hlt : e.key < y.key := (List.le_iff_lt_or_eq.1 (List.not_lt.1 hn)).resolve_right (fun h' => hne h'.symm)
        rw [weight_cons, if_neg hne, weight_above (fun x hx => List.lt_trans hlt (h.1 x hx))]
        simp only [bytesW]
        omega
theorem weight_le_bytes : ∀ (ws : List We) (k : List UInt8), weightW ws k ≤ bytesW ws
  | [], k => by simp [weightW, look, bytesW]
  | y :: ws, k => by
    have := weight_le_bytes ws k
    rw [weight_cons]
    simp only [bytesW]
    split <;> omega
theorem bytes_le {ws : List We} (hg : ∀ e ∈ ws, 1 ≤ e.key.length ∧ e.key.length ≤ 255 ∧ e.bs.length ≤ 4096 ∧ (e.dead = true → e.bs = [])) : bytesW ws ≤ 4351 * ws.length := by
  induction ws with
  | nil => simp [bytesW]
  | cons x ws ih =>
    have h1 := ih fun e he => hg e (by simp [he])
    have h2 := hg x (by simp)
    simp only [bytesW, List.length_cons]
    omega
theorem lay_length : ∀ (ws : List We) (e : We), (layW ws e).length ≤ ws.length + 1
  | [], e => by simp [layW]
  | y :: ws, e => by
    have := lay_length ws e
    unfold layW
    split
    · simp only [List.length_cons]; omega
    · split <;> simp only [List.length_cons] <;> omega

/-- one key's place anew -/
def updA (at' : List UInt8 → Option Addr × Nat) (k : List UInt8) (x : Option Addr × Nat) : List UInt8 → Option Addr × Nat := fun j => if j = k then x else at' j

theorem lay_bad (w : World) (p : Nat) (key : ByteArray) (A : Option Addr) (nb c : Nat) (dead : Bool) (hm : mayW key nb ≠ 0) :
    Calls Tryz.prog 90 #[.pointer (some ⟨p, 0, none⟩), .string key, .agg (weC A nb c dead)] w fun e w' => e = .returned (.int .i64 (mayW key nb)) ∧ Only NoneOf w w' := by
  have hB := Blk.new w 160 (weC A nb c dead)
  have c0 := hB.cellv 0 rfl
  have HO := Lib.hid ((Only.refl NoneOf w).alloc (.cells (weC A nb c dead) 160))
  clear hB
  obtain ⟨nk, hnk⟩ : ∃ nk, key.size = nk := ⟨_, rfl⟩
  have hkk : mayW key nb = if nk < 1 ∨ 255 < nk then 140 else if 4096 < nb then 141 else 0 := by unfold mayW; rw [hnk]
  rw [hkk] at hm ⊢
  clear hkk
  by_cases h1 : nk < 1
  · rw [if_pos (.inl h1)]
    clear hm
    go_enter Tryz.func90, Tryz.ntmps90
    go_wp2_with fail
    go_ret
    exact ⟨rfl, HO.out⟩
  by_cases h2 : 255 < nk
  · rw [if_pos (.inr h2)]
    clear hm
    go_enter Tryz.func90, Tryz.ntmps90
    go_wp2_with fail
    go_ret
    exact ⟨rfl, HO.out⟩
  have h3 : ¬ (nk < 1 ∨ 255 < nk) := by omega
  rw [if_neg h3] at hm ⊢
  by_cases h4 : 4096 < nb
  · rw [if_pos h4]
    clear hm h3
    go_enter Tryz.func90, Tryz.ntmps90
    go_wp2_with fail
    go_ret
    exact ⟨rfl, HO.out⟩
  · rw [if_neg h4] at hm
    exact absurd rfl hm

theorem SetB.laid {w w' : World} {by' b2 : Int} {p m n : Nat} {D : MW} {at' : List UInt8 → Option Addr × Nat} {ws : List We} {U : Nat → Prop} {e : We} {A : Option Addr} {c : Nat} (h : SetB w p m n D at' ws U by')
    (hb : Blk w' p 143 #[.map (some m), .int .i64 b2]) (hm : w'.ownsMap Tryz.prog 9 RW m (n + 1) (D.put (.string e.key) (.held (.agg (weC A e.bs.length c e.dead))))) (ho : Only (fun k => k = p ∨ k = m) w w')
    (hby : BytesAt w' A e.bs) (hap : e.bs ≠ [] → ∀ g off, A = some ⟨g, off, none⟩ → g ≠ p ∧ g ≠ m ∧ ¬ U g) (hg : 1 ≤ e.key.length ∧ e.key.length ≤ 255 ∧ e.bs.length ≤ 4096 ∧ (e.dead = true → e.bs = [])) :
    SetB w' p m (n + 1) (D.put (.string e.key) (.held (.agg (weC A e.bs.length c e.dead)))) (updA at' e.key (A, c)) (layW ws e) U b2 := by
  have hat : ∀ x ∈ ws, x.key ≠ e.key → updA at' e.key (A, c) x.key = at' x.key := fun x _ hne => by unfold updA; rw [if_neg hne]
  have hae : updA at' e.key (A, c) e.key = (A, c) := by unfold updA; rw [if_pos rfl]
  have huniq : ∀ x ∈ layW ws e, x = e ∨ (x ∈ ws ∧ x.key ≠ e.key) := fun x hx => by
    by_cases hk : x.key = e.key
    · have h1 := look_lay e x.key h.rise
      rw [if_pos hk.symm] at h1
      have h2 : look (layW ws e) x.key = some x := by
        have hp := layW_rise (e := e) h.rise
        generalize layW ws e = l at hx hp
        clear h1 hat hae hb
        induction l with
        | nil => cases hx
        | cons y l ih =>
          rw [List.pairwise_cons] at hp
          rw [look_cons]
          rcases List.mem_cons.1 hx with rfl | hx
          · rw [if_pos rfl]
          · rw [if_neg (fun h2 => by have := hp.1 x hx; rw [h2] at this; exact List.lt_irrefl _ this)]
            exact ih hx hp.2
      rw [h2] at h1
      exact .inl (Option.some.inj h1)
    · exact .inr ⟨(layW_mem hx).resolve_left (fun h' => hk (by rw [h'])), hk⟩
  refine ⟨hb, hm, fun key zd hk => ?_, fun x hx => ?_, fun x hx => ?_, layW_rise h.rise, fun x hx => ?_, ?_, h.pm, fun k hk => ⟨Nat.lt_of_lt_of_le (h.ult k hk).1 ho.size, (h.ult k hk).2⟩⟩
  · rw [look_lay e _ h.rise]
    by_cases hke : e.key = key.data.toList
    · rw [if_pos hke, hke, Go.Maps.atKey_put_same h.map.isMap (show WideAt.IsKeyLit (.string _) from trivial)]
      simp only [hae, ← hke]
    · rw [if_neg hke, Go.Maps.atKey_put_other (fun h2 => hke (by injection h2 with h2; exact h2.symm)), h.keys key zd hk]
      cases hl : look ws key.data.toList with
      | none => rfl
      | some x =>
        obtain ⟨hx, hxk⟩ := look_mem hl
        simp only
        rw [hat x hx (fun h2 => hke (by rw [← h2, hxk]))]
  · rcases huniq x hx with rfl | ⟨hx, hne⟩
    · rw [hae]; exact hby
    · rw [hat x hx hne]
      exact (h.vals x hx).turn ho (fun hn g off hA hs => by
        have h3 := h.apart x hx hn g off hA
        rcases hs with rfl | rfl
        · exact h3.1 rfl
        · exact h3.2.1 rfl)
  · rcases huniq x hx with rfl | ⟨hx, hne⟩
    · rw [hae]; exact hap
    · rw [hat x hx hne]; exact h.apart x hx
  · rcases huniq x hx with rfl | ⟨hx, hne⟩
    · exact hg
    · exact h.good x hx
  · have := lay_length ws e
    have := h.few
    omega

def LayPost (p m n : Nat) (D : MW) (at' : List UInt8 → Option Addr × Nat) (ws : List We) (U : Nat → Prop) (e : We) (A : Option Addr) (c : Nat) (w : World) (en : Ending) (w' : World) : Prop :=
  en = .returned (.int .i64 0) ∧ SetIs w' p m (n + 1) (D.put (.string e.key) (.held (.agg (weC A e.bs.length c e.dead)))) (updA at' e.key (A, c)) (layW ws e) U ∧ Only (fun k => k = p ∨ k = m) w w'

end Go.Proofs.YtbhihbhjmmeibaaGreat

/-
  Layer 16: a set of writes: lay where nothing is wrong; Put, Delete, Get.
-/
namespace Go.Proofs.YtbhihbhjmmeibaaGreat
open Go.RowKit

theorem SetB.putBytes {w : World} {p m n : Nat} {D : MW} {at' : List UInt8 → Option Addr × Nat} {ws : List We} {U : Nat → Prop} {by' : Int} (h : SetB w p m n D at' ws U by') (b2 : Int) : SetB (w.setCell ⟨p, 1, none⟩ (.int .i64 b2)) p m n D at' ws U b2 := by
  have ho : Only (· = p) w (w.setCell ⟨p, 1, none⟩ (.int .i64 b2)) := (Only.refl (· = p) w).put (.inl rfl) _
  refine ⟨h.blk.put 1 _, mapw_only h.map ho (fun e => h.pm e.symm), h.keys, fun e he => (h.vals e he).turn ho (fun hn g off hA => (h.apart e he hn g off hA).1), h.apart, h.rise, h.good, h.few, h.pm, fun k hk => ⟨Nat.lt_of_lt_of_le (h.ult k hk).1 ho.size, (h.ult k hk).2⟩⟩

theorem weight_at {w : World} {p m n : Nat} {D : MW} {at' : List UInt8 → Option Addr × Nat} {ws : List We} {U : Nat → Prop} {by' : Int} (h : SetB w p m n D at' ws U by') {key : ByteArray} (hl : key.size ≤ maxLen) {Wt : Nat} (hw : weightW ws key.data.toList = Wt) :
    Calls Tryz.prog 89 #[.pointer (some ⟨p, 0, none⟩), .string key] w fun e w' => e = .returned (.int .i64 (Wt : Nat)) ∧ Only NoneOf w w' := by
  subst hw
  exact weight_is' w p m n D at' ws U h key hl

set_option maxRecDepth 100000 in
set_option maxHeartbeats 4000000 in
theorem lay_ok (w : World) (p m n : Nat) (D : MW) (at' : List UInt8 → Option Addr × Nat) (ws : List We) (U : Nat → Prop) (h : SetIs w p m n D at' ws U) (key : ByteArray) (A : Option Addr) (nb c : Nat) (dead : Bool) (bs : List UInt8) (hnb : bs.length = nb) (hm : mayW key nb = 0)
    (hby : BytesAt w A bs) (hap : bs ≠ [] → ∀ g off, A = some ⟨g, off, none⟩ → g ≠ p ∧ g ≠ m ∧ ¬ U g) (hd : dead = true → bs = []) (hn : n < 1048577) :
    Calls Tryz.prog 90 #[.pointer (some ⟨p, 0, none⟩), .string key, .agg (weC A nb c dead)] w (LayPost p m n D at' ws U ⟨key.data.toList, bs, dead⟩ A c w) := by
  obtain ⟨hk1, hk2, hk3⟩ : 1 ≤ key.size ∧ key.size ≤ 255 ∧ nb ≤ 4096 := by
    unfold mayW at hm
    split at hm
    · cases hm
    · split at hm
      · cases hm
      · omega
  have hks : key.data.toList.length = key.size := by rw [Array.length_toList]; rfl
  have hbl := bytes_le h.good
  have hfew := h.few
  have hwl := weight_le_bytes ws key.data.toList
  have hbe := bytes_lay (⟨key.data.toList, bs, dead⟩ : We) h.rise
  simp only [hks, hnb] at hbe
  have hO1 : Only NoneOf w (w.alloc (.cells (weC A nb c dead) 160)) := (Only.refl _ _).alloc _
  have hB := Blk.new w 160 (weC A nb c dead)
  have c0 := hB.cellv 0 rfl
  have h1 := h.keep hO1
  have HBY1 := Lib.hid (hby.keep hO1)
  have hmn := fun u => (run_eql_map_nil (P := Tryz.prog) u 141 9 160 (some m) Tryz.underlying141)
  have d0 := h1.blk.cellv 0 rfl
  have HNB := Lib.hid hnb
  have HAP := Lib.hid hap
  have HB := Lib.hid hB
  have hpl := Lib.hid h1.blk.lt
  have hml := Lib.hid h1.map.lt
  have HO1 := Lib.hid hO1
  have hpb : p < w.heap.size := h.blk.lt
  have hmb : m < w.heap.size := h.map.lt
  obtain ⟨Wt, hWt⟩ : ∃ Wt, weightW ws key.data.toList = Wt := ⟨_, rfl⟩
  obtain ⟨B, hBB⟩ : ∃ B, bytesW ws = B := ⟨_, rfl⟩
  obtain ⟨B2, hB2⟩ : ∃ B2, bytesW (layW ws ⟨key.data.toList, bs, dead⟩) = B2 := ⟨_, rfl⟩
  rw [hWt, hBB] at hwl
  rw [hWt, hBB, hB2] at hbe
  rw [hBB] at h1 hbl
  have HWT := Lib.hid hWt
  have HB2E := Lib.hid hB2
  have H1 := Lib.hid h1
  have HD := Lib.hid hd
  have HKS := Lib.hid hks
  clear h hby hap hB h1 hO1 hm hWt hBB hB2 hd hnb hks
  obtain ⟨nk, hnk⟩ : ∃ nk, key.size = nk := ⟨_, rfl⟩
  have HNK := Lib.hid hnk
  have hk1' : 1 ≤ nk := by omega
  have hk2' : nk ≤ 255 := by omega
  have hbe' : B2 + Wt = B + (nk + nb) := by omega
  clear hk1 hk2 hbe
  go_enter Tryz.func90, Tryz.ntmps90
  go_upto_region 9 with (fail)
  clear hnk
  have hq : IntKind.i64.wrap ((B : Int) - (Wt : Int)) = (B : Int) - Wt := by rw [IntKind.wrap_i64]; omega
  refine wp_region_head 10 59 (ConstT fun i => match i with | 0 => .pointer (some ⟨p, 0, none⟩) | 1 => .pointer (some ⟨p, 0, none⟩) | 2 => .pointer (some ⟨p, 1, none⟩) | 3 => .int .i64 (B : Int) | 4 => .pointer (some ⟨p, 0, none⟩) | 5 => .string key | 6 => .int .i64 (Wt : Int) | 7 => .int .i64 ((B : Int) - Wt) | 8 => .pointer (some ⟨p, 0, none⟩) | _ => .pointer (some ⟨p, 1, none⟩)) (fun _ => false) rfl (by kernel_rfl) (by kernel_rfl) (fun _ _ _ _ h _ => h) (fun _ _ _ h => by cases h) ?_ ?_
  · intro i o hi ho a u hu hs ht
    have e0 : a.tmps.getD 0 undef = .pointer (some ⟨p, 0, none⟩) := hs 0 (of_decide_eq_true (by kernel_rfl))
    have e1 : a.tmps.getD 1 undef = .string key := hs 1 (of_decide_eq_true (by kernel_rfl))
    have G := H1.out.keep hu
    have d1 := G.blk.cellv 1 rfl
    have : i = 0 ∨ i = 1 ∨ i = 2 ∨ i = 3 ∨ i = 4 ∨ i = 5 ∨ i = 6 ∨ i = 7 ∨ i = 8 ∨ i = 9 := by omega
    rcases this with rfl | rfl | rfl | rfl | rfl | rfl | rfl | rfl | rfl | rfl
    · obtain rfl := Option.some.inj (ho : some _ = some o)
      exact left_value (.pointer (some ⟨p, 0, none⟩)) (by simp [go_sem, e0]) rfl rfl
    · obtain rfl := Option.some.inj (ho : some _ = some o)
      have s0 : a.tmps.getD 33 undef = .pointer (some ⟨p, 0, none⟩) := ht 0 (by omega) (by kernel_rfl)
      exact left_value (.pointer (some ⟨p, 0, none⟩)) (by simp [go_sem, s0]) rfl rfl
    · obtain rfl := Option.some.inj (ho : some _ = some o)
      have s1 : a.tmps.getD 34 undef = .pointer (some ⟨p, 0, none⟩) := ht 1 (by omega) (by kernel_rfl)
      exact left_value (.pointer (some ⟨p, 1, none⟩)) (by simp [go_sem, s1]) rfl rfl
    · obtain rfl := Option.some.inj (ho : some _ = some o)
      have s2 : a.tmps.getD 35 undef = .pointer (some ⟨p, 1, none⟩) := ht 2 (by omega) (by kernel_rfl)
      exact left_value (.int .i64 (B : Int)) (by simp [go_sem, s2, d1]) rfl rfl
    · obtain rfl := Option.some.inj (ho : some _ = some o)
      exact left_value (.pointer (some ⟨p, 0, none⟩)) (by simp [go_sem, e0]) rfl rfl
    · obtain rfl := Option.some.inj (ho : some _ = some o)
      exact left_value (.string key) (by simp [go_sem, e1]) rfl rfl
    · obtain rfl := Option.some.inj (ho : some _ = some o)
      have s4 : a.tmps.getD 37 undef = .pointer (some ⟨p, 0, none⟩) := ht 4 (by omega) (by kernel_rfl)
      have s5 : a.tmps.getD 38 undef = .string key := ht 5 (by omega) (by kernel_rfl)
      refine left_calls 89 #[.pointer (some ⟨p, 0, none⟩), .string key] (by simp [go_sem, s4, s5]) ((weight_at G (by unfold maxLen; have := HNK.out; omega) HWT.out).mono ?_) rfl
      rintro e u' ⟨rfl, ho'⟩
      exact ⟨_, rfl, rfl, ho'⟩
    · obtain rfl := Option.some.inj (ho : some _ = some o)
      have s3 : a.tmps.getD 36 undef = .int .i64 (B : Int) := ht 3 (by omega) (by kernel_rfl)
      have s6 : a.tmps.getD 39 undef = .int .i64 (Wt : Int) := ht 6 (by omega) (by kernel_rfl)
      exact left_value (.int .i64 ((B : Int) - Wt)) (by simp [go_sem, s3, s6]; exact hq) rfl rfl
    · obtain rfl := Option.some.inj (ho : some _ = some o)
      have s0 : a.tmps.getD 33 undef = .pointer (some ⟨p, 0, none⟩) := ht 0 (by omega) (by kernel_rfl)
      exact left_value (.pointer (some ⟨p, 0, none⟩)) (by simp [go_sem, s0]) rfl rfl
    · obtain rfl := Option.some.inj (ho : some _ = some o)
      have s8 : a.tmps.getD 41 undef = .pointer (some ⟨p, 0, none⟩) := ht 8 (by omega) (by kernel_rfl)
      exact left_value (.pointer (some ⟨p, 1, none⟩)) (by simp [go_sem, s8]) rfl rfl
  · intro V' u hu hV' _
    have v0 : V' 0 = .pointer (some ⟨p, 0, none⟩) := hV' 0 (by omega)
    have v1 : V' 1 = .pointer (some ⟨p, 0, none⟩) := hV' 1 (by omega)
    have v2 : V' 2 = .pointer (some ⟨p, 1, none⟩) := hV' 2 (by omega)
    have v3 : V' 3 = .int .i64 (B : Int) := hV' 3 (by omega)
    have v4 : V' 4 = .pointer (some ⟨p, 0, none⟩) := hV' 4 (by omega)
    have v5 : V' 5 = .string key := hV' 5 (by omega)
    have v6 : V' 6 = .int .i64 (Wt : Int) := hV' 6 (by omega)
    have v7 : V' 7 = .int .i64 ((B : Int) - Wt) := hV' 7 (by omega)
    have v8 : V' 8 = .pointer (some ⟨p, 0, none⟩) := hV' 8 (by omega)
    have v9 : V' 9 = .pointer (some ⟨p, 1, none⟩) := hV' 9 (by omega)
    change wpList _ _ _ _ (Act.put (Act.put (Act.put (Act.put (Act.put (Act.put (Act.put (Act.put (Act.put (Act.put _ (some 33) (V' 0)) (some 34) (V' 1)) (some 35) (V' 2)) (some 36) (V' 3)) (some 37) (V' 4)) (some 38) (V' 5)) (some 39) (V' 6)) (some 40) (V' 7)) (some 41) (V' 8)) (some 42) (V' 9)) _
    rw [v0, v1, v2, v3, v4, v5, v6, v7, v8, v9]
    simp only [Act.put, List.setIfInBounds_toArray, List.set_cons_zero, List.set_cons_succ]
    simp only [List.drop_succ_cons, List.drop_zero]
    clear hV' v0 v1 v2 v3 v4 v5 v6 v7 v8 v9
    have HS2 := Lib.hid ((H1.out.keep hu).putBytes ((B : Int) - Wt))
    have HB2 := Lib.hid ((HB.out.only hu (fun h => h)).far (p := ⟨p, 1, none⟩) (by show w.heap.size ≠ p; omega) (.int .i64 ((B : Int) - Wt)))
    have HO2 := Lib.hid (((HO1.out.trans hu).mono (S' := fun k => k = p ∨ k = m) fun _ _ h => h.elim).put (p := ⟨p, 1, none⟩) (.inl (.inl rfl)) (.int .i64 ((B : Int) - Wt)))
    have HBY2 := Lib.hid ((HBY1.out.keep hu).turn ((Only.refl (· = p) u).put (p := ⟨p, 1, none⟩) (.inl rfl) (.int .i64 ((B : Int) - Wt))) (fun hn g off hA => (HAP.out hn g off hA).1))
    have q1 := (H1.out.keep hu).blk.cellv 1 rfl
    have q2 := (H1.out.keep hu).blk.free 1
    clear hu hq
    go_upto_region 10 with (fail)
    clear q1 q2
    obtain ⟨w2, hw2⟩ : ∃ w2, u.setCell ⟨p, 1, none⟩ (.int .i64 ((B : Int) - Wt)) = w2 := ⟨_, rfl⟩
    rw [hw2] at HS2 HB2 HO2 HBY2 ⊢
    clear hw2
    refine wp_region_head 6 59 (ConstT fun i => match i with | 0 => .pointer (some ⟨p, 0, none⟩) | 1 => .pointer (some ⟨p, 0, none⟩) | 2 => .pointer (some ⟨p, 0, none⟩) | 3 => .map (some m) | 4 => .string key | _ => .agg (weC A nb c dead)) (fun _ => false) rfl (by kernel_rfl) (by kernel_rfl) (fun _ _ _ _ h _ => h) (fun _ _ _ h => by cases h) ?_ ?_
    · intro i o hi ho a u hu hs ht
      have e0 : a.tmps.getD 0 undef = .pointer (some ⟨p, 0, none⟩) := hs 0 (of_decide_eq_true (by kernel_rfl))
      have e1 : a.tmps.getD 1 undef = .string key := hs 1 (of_decide_eq_true (by kernel_rfl))
      have e5 : a.tmps.getD 5 undef = .pointer (some ⟨w.heap.size, 0, none⟩) := hs 5 (of_decide_eq_true (by kernel_rfl))
      have G := HS2.out.keep hu
      have FB := HB2.out.only hu (fun h => h)
      have d0 := G.blk.cellv 0 rfl
      have : i = 0 ∨ i = 1 ∨ i = 2 ∨ i = 3 ∨ i = 4 ∨ i = 5 := by omega
      rcases this with rfl | rfl | rfl | rfl | rfl | rfl
      · obtain rfl := Option.some.inj (ho : some _ = some o)
        exact left_value (.pointer (some ⟨p, 0, none⟩)) (by simp [go_sem, e0]) rfl rfl
      · obtain rfl := Option.some.inj (ho : some _ = some o)
        have s0 : a.tmps.getD 43 undef = .pointer (some ⟨p, 0, none⟩) := ht 0 (by omega) (by kernel_rfl)
        exact left_value (.pointer (some ⟨p, 0, none⟩)) (by simp [go_sem, s0]) rfl rfl
      · obtain rfl := Option.some.inj (ho : some _ = some o)
        have s1 : a.tmps.getD 44 undef = .pointer (some ⟨p, 0, none⟩) := ht 1 (by omega) (by kernel_rfl)
        exact left_value (.pointer (some ⟨p, 0, none⟩)) (by simp [go_sem, s1]) rfl rfl
      · obtain rfl := Option.some.inj (ho : some _ = some o)
        have s2 : a.tmps.getD 45 undef = .pointer (some ⟨p, 0, none⟩) := ht 2 (by omega) (by kernel_rfl)
        exact left_value (.map (some m)) (by simp [go_sem, s2, d0]) rfl rfl
      · obtain rfl := Option.some.inj (ho : some _ = some o)
        exact left_value (.string key) (by simp [go_sem, e1]) rfl rfl
      · obtain rfl := Option.some.inj (ho : some _ = some o)
        exact left_load 160 (.tmp 5) w.heap.size 160 _ _ rfl e5 FB Tryz.underlying160 rfl infoW rfl rfl
    · intro V' u2 hu hV' _
      have v0 : V' 0 = .pointer (some ⟨p, 0, none⟩) := hV' 0 (by omega)
      have v1 : V' 1 = .pointer (some ⟨p, 0, none⟩) := hV' 1 (by omega)
      have v2 : V' 2 = .pointer (some ⟨p, 0, none⟩) := hV' 2 (by omega)
      have v3 : V' 3 = .map (some m) := hV' 3 (by omega)
      have v4 : V' 4 = .string key := hV' 4 (by omega)
      have v5 : V' 5 = .agg (weC A nb c dead) := hV' 5 (by omega)
      change wpList _ _ _ _ (Act.put (Act.put (Act.put (Act.put (Act.put (Act.put _ (some 43) (V' 0)) (some 44) (V' 1)) (some 45) (V' 2)) (some 46) (V' 3)) (some 47) (V' 4)) (some 48) (V' 5)) _
      rw [v0, v1, v2, v3, v4, v5]
      simp only [Act.put, List.setIfInBounds_toArray, List.set_cons_zero, List.set_cons_succ]
      simp only [List.drop_succ_cons, List.drop_zero]
      clear hV' v0 v1 v2 v3 v4 v5
      have hS3 := HS2.out.keep hu
      have hB3 := HB2.out.only hu (fun h => h)
      have HO3 := Lib.hid (HO2.out.trans (hu.mono fun _ _ h => h.elim))
      have HBY3 := Lib.hid (HBY2.out.keep hu)
      have HS3 := Lib.hid hS3
      have HB3 := Lib.hid hB3
      clear hu hS3 hB3
      refine wpList_mapUpdate_own u2 rfl (.tmp 46) (.tmp 47) (.tmp 48) 141 rfl 9 160 law9 Tryz.underlying141 RW m n D rfl HS3.out.map (by unfold maxLen; omega) (.string key) (.agg (weC A nb c dead)) (.string key.data.toList) rfl rfl (Go.WideMaps.keyOf_string_mk Tryz.underlying9 (by unfold maxLen; have := HNK.out; omega)) (.held (.agg (weC A nb c dead))) [] rfl ?_
      intro w3 hown hgr
      have ho3 : Only (fun k => k = p ∨ k = m) u2 w3 := (only_grown hgr).mono (fun k _ e => .inr (by injection e with e; exact e.symm))
      have hm3 : w3.ownsMap Tryz.prog 9 RW m (n + 1) (D.put (.string key.data.toList) (.held (.agg (weC A bs.length c dead)))) := by rw [HNB.out]; exact hown
      have hpm := HS3.out.pm
      have hby3 : BytesAt w3 A bs := HBY3.out.turn (only_grown hgr) (fun hn g off hA e => (HAP.out hn g off hA).2.1 (by injection e with e; exact e.symm))
      have HS4 := Lib.hid (HS3.out.laid (e := ⟨key.data.toList, bs, dead⟩) (HS3.out.blk.only (only_grown hgr) (fun e => hpm (by injection e with e; exact e.symm))) hm3 ho3 hby3 HAP.out (by simp only; rw [HKS.out, HNB.out, HNK.out]; exact ⟨hk1', hk2', hk3, HD.out⟩))
      have HB4 := Lib.hid (HB3.out.only (only_grown hgr) (fun e => by injection e with e; omega))
      have HO4 := Lib.hid (HO3.out.trans ho3)
      clear hown hgr ho3 hm3 hby3
      go_upto_region 11 with (fail)
      obtain ⟨D', hD'⟩ : ∃ D', D.put (.string key.data.toList) (.held (.agg (weC A bs.length c dead))) = D' := ⟨_, rfl⟩
      have HWT2 := Lib.hid (show weightW (layW ws ⟨key.data.toList, bs, dead⟩) key.data.toList = nk + nb by
        unfold weightW
        rw [look_lay _ _ H1.out.rise, if_pos rfl]
        simp only
        rw [HKS.out, HNB.out, HNK.out])
      have hq : IntKind.i64.wrap ((B : Int) - Wt + ((nk + nb : Nat) : Int)) = (B2 : Int) := by rw [IntKind.wrap_i64]; omega
      refine wp_region_head 10 59 (ConstT fun i => match i with | 0 => .pointer (some ⟨p, 0, none⟩) | 1 => .pointer (some ⟨p, 0, none⟩) | 2 => .pointer (some ⟨p, 1, none⟩) | 3 => .int .i64 ((B : Int) - Wt) | 4 => .pointer (some ⟨p, 0, none⟩) | 5 => .string key | 6 => .int .i64 ((nk + nb : Nat) : Int) | 7 => .int .i64 (B2 : Int) | 8 => .pointer (some ⟨p, 0, none⟩) | _ => .pointer (some ⟨p, 1, none⟩)) (fun _ => false) rfl (by kernel_rfl) (by kernel_rfl) (fun _ _ _ _ h _ => h) (fun _ _ _ h => by cases h) ?_ ?_
      · intro i o hi ho a u hu hs ht
        have e0 : a.tmps.getD 0 undef = .pointer (some ⟨p, 0, none⟩) := hs 0 (of_decide_eq_true (by kernel_rfl))
        have e1 : a.tmps.getD 1 undef = .string key := hs 1 (of_decide_eq_true (by kernel_rfl))
        have G := HS4.out.keep hu
        have d1 := G.blk.cellv 1 rfl
        have : i = 0 ∨ i = 1 ∨ i = 2 ∨ i = 3 ∨ i = 4 ∨ i = 5 ∨ i = 6 ∨ i = 7 ∨ i = 8 ∨ i = 9 := by omega
        rcases this with rfl | rfl | rfl | rfl | rfl | rfl | rfl | rfl | rfl | rfl
        · obtain rfl := Option.some.inj (ho : some _ = some o)
          exact left_value (.pointer (some ⟨p, 0, none⟩)) (by simp [go_sem, e0]) rfl rfl
        · obtain rfl := Option.some.inj (ho : some _ = some o)
          have s0 : a.tmps.getD 49 undef = .pointer (some ⟨p, 0, none⟩) := ht 0 (by omega) (by kernel_rfl)
          exact left_value (.pointer (some ⟨p, 0, none⟩)) (by simp [go_sem, s0]) rfl rfl
        · obtain rfl := Option.some.inj (ho : some _ = some o)
          have s1 : a.tmps.getD 50 undef = .pointer (some ⟨p, 0, none⟩) := ht 1 (by omega) (by kernel_rfl)
          exact left_value (.pointer (some ⟨p, 1, none⟩)) (by simp [go_sem, s1]) rfl rfl
        · obtain rfl := Option.some.inj (ho : some _ = some o)
          have s2 : a.tmps.getD 51 undef = .pointer (some ⟨p, 1, none⟩) := ht 2 (by omega) (by kernel_rfl)
          exact left_value (.int .i64 ((B : Int) - Wt)) (by simp [go_sem, s2, d1]) rfl rfl
        · obtain rfl := Option.some.inj (ho : some _ = some o)
          exact left_value (.pointer (some ⟨p, 0, none⟩)) (by simp [go_sem, e0]) rfl rfl
        · obtain rfl := Option.some.inj (ho : some _ = some o)
          exact left_value (.string key) (by simp [go_sem, e1]) rfl rfl
        · obtain rfl := Option.some.inj (ho : some _ = some o)
          have s4 : a.tmps.getD 53 undef = .pointer (some ⟨p, 0, none⟩) := ht 4 (by omega) (by kernel_rfl)
          have s5 : a.tmps.getD 54 undef = .string key := ht 5 (by omega) (by kernel_rfl)
          refine left_calls 89 #[.pointer (some ⟨p, 0, none⟩), .string key] (by simp [go_sem, s4, s5]) ((weight_at G (by unfold maxLen; have := HNK.out; omega) HWT2.out).mono ?_) rfl
          rintro e u' ⟨rfl, ho'⟩
          exact ⟨_, rfl, rfl, ho'⟩
        · obtain rfl := Option.some.inj (ho : some _ = some o)
          have s3 : a.tmps.getD 52 undef = .int .i64 ((B : Int) - Wt) := ht 3 (by omega) (by kernel_rfl)
          have s6 : a.tmps.getD 55 undef = .int .i64 ((nk + nb : Nat) : Int) := ht 6 (by omega) (by kernel_rfl)
          exact left_value (.int .i64 (B2 : Int)) (by simp [go_sem, s3, s6]; exact hq) rfl rfl
        · obtain rfl := Option.some.inj (ho : some _ = some o)
          have s0 : a.tmps.getD 49 undef = .pointer (some ⟨p, 0, none⟩) := ht 0 (by omega) (by kernel_rfl)
          exact left_value (.pointer (some ⟨p, 0, none⟩)) (by simp [go_sem, s0]) rfl rfl
        · obtain rfl := Option.some.inj (ho : some _ = some o)
          have s8 : a.tmps.getD 57 undef = .pointer (some ⟨p, 0, none⟩) := ht 8 (by omega) (by kernel_rfl)
          exact left_value (.pointer (some ⟨p, 1, none⟩)) (by simp [go_sem, s8]) rfl rfl
      · intro V' u3 hu hV' _
        have v0 : V' 0 = .pointer (some ⟨p, 0, none⟩) := hV' 0 (by omega)
        have v1 : V' 1 = .pointer (some ⟨p, 0, none⟩) := hV' 1 (by omega)
        have v2 : V' 2 = .pointer (some ⟨p, 1, none⟩) := hV' 2 (by omega)
        have v3 : V' 3 = .int .i64 ((B : Int) - Wt) := hV' 3 (by omega)
        have v4 : V' 4 = .pointer (some ⟨p, 0, none⟩) := hV' 4 (by omega)
        have v5 : V' 5 = .string key := hV' 5 (by omega)
        have v6 : V' 6 = .int .i64 ((nk + nb : Nat) : Int) := hV' 6 (by omega)
        have v7 : V' 7 = .int .i64 (B2 : Int) := hV' 7 (by omega)
        have v8 : V' 8 = .pointer (some ⟨p, 0, none⟩) := hV' 8 (by omega)
        have v9 : V' 9 = .pointer (some ⟨p, 1, none⟩) := hV' 9 (by omega)
        change wpList _ _ _ _ (Act.put (Act.put (Act.put (Act.put (Act.put (Act.put (Act.put (Act.put (Act.put (Act.put _ (some 49) (V' 0)) (some 50) (V' 1)) (some 51) (V' 2)) (some 52) (V' 3)) (some 53) (V' 4)) (some 54) (V' 5)) (some 55) (V' 6)) (some 56) (V' 7)) (some 57) (V' 8)) (some 58) (V' 9)) _
        rw [v0, v1, v2, v3, v4, v5, v6, v7, v8, v9]
        simp only [Act.put, List.setIfInBounds_toArray, List.set_cons_zero, List.set_cons_succ]
        simp only [List.drop_succ_cons, List.drop_zero]
        clear hV' v0 v1 v2 v3 v4 v5 v6 v7 v8 v9
        have HS5 := Lib.hid ((HS4.out.keep hu).putBytes (B2 : Int))
        have HO5 := Lib.hid ((HO4.out.trans (hu.mono fun _ _ h => h.elim)).put (p := ⟨p, 1, none⟩) (.inl (.inl rfl)) (.int .i64 (B2 : Int)))
        have q1 := (HS4.out.keep hu).blk.cellv 1 rfl
        have q2 := (HS4.out.keep hu).blk.free 1
        clear hu hq
        go_wp2_with fail
        go_ret
        refine ⟨rfl, ?_, HO5.out⟩
        show SetB _ p m (n + 1) _ _ _ U ((bytesW (layW ws ⟨key.data.toList, bs, dead⟩) : Nat) : Int)
        rw [HB2E.out]
        exact HS5.out

end Go.Proofs.YtbhihbhjmmeibaaGreat

/-
  Layer 16: a set of writes, by what it holds: New, Put, Delete, Get, Weight, Bytes.
-/
namespace Go.Proofs.YtbhihbhjmmeibaaGreat
open Go.RowKit

/-- the set p (its map m) holds the writes ws; U are blocks that others turn; N bounds the calls that came -/
def SetR (w : World) (p m : Nat) (U : Nat → Prop) (ws : List We) (N : Nat) : Prop := ∃ n D at', SetIs w p m n D at' ws U ∧ n ≤ N

theorem SetR.other {w w' : World} {p m N : Nat} {ws : List We} {U U' S : Nat → Prop} (h : SetR w p m U ws N) (ho : Only S w w') (hS : ∀ k, S k → U k) (hU : ∀ k, U' k → k < w'.heap.size ∧ (U k ∨ w.heap.size ≤ k)) : SetR w' p m U' ws N := by
  obtain ⟨n, D, at', h1, h2⟩ := h
  exact ⟨n, D, at', h1.other ho hS hU, h2⟩
theorem SetR.keep {w w' : World} {p m N : Nat} {ws : List We} {U : Nat → Prop} (h : SetR w p m U ws N) (ho : Only NoneOf w w') : SetR w' p m U ws N := by
  obtain ⟨n, D, at', h1, h2⟩ := h
  exact ⟨n, D, at', h1.keep ho, h2⟩
theorem SetR.more {w : World} {p m N N' : Nat} {ws : List We} {U : Nat → Prop} (h : SetR w p m U ws N) (hN : N ≤ N') : SetR w p m U ws N' := by
  obtain ⟨n, D, at', h1, h2⟩ := h
  exact ⟨n, D, at', h1, Nat.le_trans h2 hN⟩
theorem SetR.good {w : World} {p m N : Nat} {ws : List We} {U : Nat → Prop} (h : SetR w p m U ws N) : ∀ e ∈ ws, 1 ≤ e.key.length ∧ e.key.length ≤ 255 ∧ e.bs.length ≤ 4096 ∧ (e.dead = true → e.bs = []) := by
  obtain ⟨n, D, at', h1, h2⟩ := h
  exact h1.good
theorem SetR.rise {w : World} {p m N : Nat} {ws : List We} {U : Nat → Prop} (h : SetR w p m U ws N) : ws.Pairwise fun a b => a.key < b.key := by
  obtain ⟨n, D, at', h1, h2⟩ := h
  exact h1.rise
theorem SetR.few {w : World} {p m N : Nat} {ws : List We} {U : Nat → Prop} (h : SetR w p m U ws N) : ws.length ≤ N := by
  obtain ⟨n, D, at', h1, h2⟩ := h
  exact Nat.le_trans h1.few h2
theorem SetR.lts {w : World} {p m N : Nat} {ws : List We} {U : Nat → Prop} (h : SetR w p m U ws N) : p < w.heap.size ∧ m < w.heap.size := by
  obtain ⟨n, D, at', h1, h2⟩ := h
  exact ⟨h1.blk.lt, h1.map.lt⟩
theorem SetR.ult {w : World} {p m N : Nat} {ws : List We} {U : Nat → Prop} (h : SetR w p m U ws N) {k : Nat} (hk : U k) : k < w.heap.size ∧ k ≠ p ∧ k ≠ m := by
  obtain ⟨n, D, at', h1, h2⟩ := h
  exact h1.ult k hk

theorem setNewR (w : World) (U : Nat → Prop) (hU : ∀ k, U k → k < w.heap.size) : Calls Tryz.prog 36 #[] w fun e w' => e = .returned (.pointer (some ⟨w.heap.size + 1, 0, none⟩)) ∧ SetR w' (w.heap.size + 1) w.heap.size U [] 0 ∧ Only NoneOf w w' :=
  (setNew w).mono fun _ w' ⟨he, hs, ho⟩ => ⟨he, ⟨0, .map [], fun _ => (none, 0), ⟨hs.blk, hs.map, hs.keys, hs.vals, fun _ he => (by cases he), hs.rise, hs.good, hs.few, hs.pm, fun k hk => ⟨Nat.lt_of_lt_of_le (hU k hk) ho.size, by have := hU k hk; omega, by have := hU k hk; omega⟩⟩, Nat.le_refl _⟩, ho⟩

/-- what a write leaves -/
def afterW (ws : List We) (key : ByteArray) (bs : List UInt8) (dead : Bool) : List We := if mayW key bs.length = 0 then layW ws ⟨key.data.toList, bs, dead⟩ else ws
def SetPost (p m : Nat) (U : Nat → Prop) (ws : List We) (N : Nat) (key : ByteArray) (bs : List UInt8) (dead : Bool) (w : World) (e : Ending) (w' : World) : Prop :=
  e = .returned (.int .i64 (mayW key bs.length)) ∧ SetR w' p m U (afterW ws key bs dead) (N + 1) ∧ Only (fun k => k = p ∨ k = m) w w'

theorem layR (w : World) (p m N : Nat) (U : Nat → Prop) (ws : List We) (h : SetR w p m U ws N) (hN : N < 1048577) (key : ByteArray) (A : Option Addr) (nb c : Nat) (dead : Bool) (bs : List UInt8) (hnb : bs.length = nb)
    (hby : BytesAt w A bs) (hap : bs ≠ [] → ∀ g off, A = some ⟨g, off, none⟩ → g ≠ p ∧ g ≠ m ∧ ¬ U g) (hd : dead = true → bs = []) :
    Calls Tryz.prog 90 #[.pointer (some ⟨p, 0, none⟩), .string key, .agg (weC A nb c dead)] w (SetPost p m U ws N key bs dead w) := by
  subst hnb
  by_cases hm : mayW key bs.length = 0
  · obtain ⟨n, D, at', h1, h2⟩ := h
    refine (lay_ok w p m n D at' ws U h1 key A _ c dead bs rfl hm hby hap hd (by omega)).mono ?_
    rintro e w' ⟨rfl, hs, ho⟩
    have hs' : SetR w' p m U (layW ws ⟨key.data.toList, bs, dead⟩) (N + 1) := ⟨n + 1, _, _, hs, by omega⟩
    refine ⟨by rw [hm], ?_, ho⟩
    unfold afterW
    rw [if_pos hm]
    exact hs'
  · refine (lay_bad w p key A _ c dead hm).mono ?_
    rintro e w' ⟨rfl, ho⟩
    refine ⟨rfl, ?_, ho.mono fun _ _ h => h.elim⟩
    unfold afterW
    rw [if_neg hm]
    exact (h.keep ho).more (by omega)

set_option maxHeartbeats 1000000 in
theorem putR (w : World) (p m N : Nat) (U : Nat → Prop) (ws : List We) (h : SetR w p m U ws N) (hN : N < 1048577) (key : ByteArray) (A : Option Addr) (nb c : Nat) (bs : List UInt8) (hnb : bs.length = nb) (hl : nb ≤ 35184372088832) (hby : BytesAt w A bs) :
    Calls Tryz.prog 69 #[.pointer (some ⟨p, 0, none⟩), .string key, .slice A nb c] w (SetPost p m U ws N key bs false w) := by
  have HOW := Lib.hid (own_isw A nb c bs w hnb hby hl)
  have HS := Lib.hid h
  have HN := Lib.hid hnb
  have HLT := Lib.hid h.lts
  clear h hby hnb
  go_enter Tryz.func69, Tryz.ntmps69
  go_wp2_with fail
  refine HOW.out.mono ?_; rintro e w1 ⟨v, rfl, hr, ho⟩
  obtain ⟨A', c', rfl, hb⟩ := hr.at
  have hpl := hr.place.2
  rw [HN.out]
  have HL := Lib.hid (layR w1 p m N U ws (HS.out.keep ho) hN key A' nb c' false bs HN.out hb (fun _ g off hA => by
    have h1 := hpl g off hA
    have h2 := HLT.out
    exact ⟨by omega, by omega, fun hu => by have := (HS.out.ult hu).1; omega⟩) (fun h => by cases h))
  have HO := Lib.hid ho
  clear hr hb hpl ho
  go_wp2_with fail
  refine HL.out.mono ?_; rintro e w2 ⟨rfl, hs, ho2⟩
  have HS2 := Lib.hid hs
  have HO2 := Lib.hid ((HO.out.mono (S' := fun k => k = p ∨ k = m) fun _ _ h => h.elim).trans ho2)
  clear hs ho2
  go_wp2_with fail
  go_ret
  exact ⟨rfl, HS2.out, HO2.out⟩

set_option maxHeartbeats 1000000 in
theorem delR (w : World) (p m N : Nat) (U : Nat → Prop) (ws : List We) (h : SetR w p m U ws N) (hN : N < 1048577) (key : ByteArray) :
    Calls Tryz.prog 76 #[.pointer (some ⟨p, 0, none⟩), .string key] w (SetPost p m U ws N key [] true w) := by
  have HL := Lib.hid (layR w p m N U ws h hN key none 0 0 true [] rfl (fun i c hc => by simp at hc) (fun hn => absurd rfl hn) (fun _ => rfl))
  clear h
  go_enter Tryz.func76, Tryz.ntmps76
  go_wp2_with fail
  refine HL.out.mono ?_; rintro e w2 ⟨rfl, hs, ho2⟩
  have HS2 := Lib.hid hs
  have HO2 := Lib.hid ho2
  clear hs ho2
  go_wp2_with fail
  go_ret
  exact ⟨rfl, HS2.out, HO2.out⟩

theorem weightR (w : World) (p m N : Nat) (U : Nat → Prop) (ws : List We) (h : SetR w p m U ws N) (key : ByteArray) (hl : key.size ≤ maxLen) :
    Calls Tryz.prog 89 #[.pointer (some ⟨p, 0, none⟩), .string key] w fun e w' => e = .returned (.int .i64 (weightW ws key.data.toList : Nat)) ∧ Only NoneOf w w' := by
  obtain ⟨n, D, at', h1, h2⟩ := h
  exact weight_is' w p m n D at' ws U h1 key hl
theorem bytesR (w : World) (p m N : Nat) (U : Nat → Prop) (ws : List We) (h : SetR w p m U ws N) : Calls Tryz.prog 71 #[.pointer (some ⟨p, 0, none⟩)] w fun e w' => e = .returned (.int .i64 (bytesW ws : Nat)) ∧ w = w' := by
  obtain ⟨n, D, at', h1, h2⟩ := h
  exact bytes_is' w p m n D at' ws U h1

/-- What Get answers. -/
def WGet (ws : List We) (key : ByteArray) (w : World) (e : Ending) (w' : World) : Prop :=
  (match look ws key.data.toList with
    | none => e = .returned (.tuple #[.agg zeroVer, .bool false])
    | some x => ∃ v, e = .returned (.tuple #[.agg (verC key 0 v x.dead), .bool true]) ∧ RowB w' w.heap.size v x.bs) ∧ Only NoneOf w w'

set_option maxRecDepth 100000 in
set_option maxHeartbeats 2000000 in
theorem wgetR (w : World) (p m N : Nat) (U : Nat → Prop) (ws : List We) (h : SetR w p m U ws N) (key : ByteArray) (hl : key.size ≤ maxLen) :
    Calls Tryz.prog 65 #[.pointer (some ⟨p, 0, none⟩), .string key] w (WGet ws key w) := by
  obtain ⟨n, D, at', h, _⟩ := h
  have hB1 := Blk.new w 47 zeroVer
  have hO1 : Only NoneOf w (w.alloc (.cells zeroVer 47)) := (Only.refl _ _).alloc _
  have HF := Lib.hid (find_is _ p m n D at' ws U (h.keep hO1) key hl)
  obtain ⟨W1, hW1⟩ : ∃ W1, w.alloc (.cells zeroVer 47) = W1 := ⟨_, rfl⟩
  have HW1 := Lib.hid hW1
  have hz1 : W1.heap.size = w.heap.size + 1 := by rw [← hW1]; simp
  rw [hW1] at hB1 hO1 HF
  have HZ1 := Lib.hid hz1
  have HB1 := Lib.hid hB1
  have HO1 := Lib.hid hO1
  clear hW1 hB1 hO1 hz1
  unfold WGet
  cases hlk : look ws key.data.toList with
  | none =>
    have hwv : writeV at' ws key.data.toList = zeroW := by unfold writeV; rw [hlk]
    rw [hwv, hlk] at HF
    clear h hlk hwv
    go_enter Tryz.func65, Tryz.ntmps65
    go_wp2_with fail
    rw [HW1.out]
    refine HF.out.mono ?_; rintro e w1 ⟨rfl, ho⟩
    have hB := Lib.hid (Blk.new w1 160 zeroW)
    have hB3 := Lib.hid (((HB1.out.only ho (fun h => h)).alloc (.cells zeroW 160)).row_far (g := w1.heap.size) (by have := ho.size; have := HZ1.out; omega) zeroW)
    have HO := Lib.hid (((HO1.out.trans ho).alloc (.cells zeroW 160)).row (b := w1.heap.size) (.inr (HO1.out.trans ho).size) zeroW)
    have HR := Lib.hid (hB3.out.row zeroVer)
    have HOR := Lib.hid (HO.out.row (b := w.heap.size) (.inr (Nat.le_refl _)) zeroVer)
    clear ho
    go_wp2_with (first | (refine wpList_store_row rfl 160 (.tmp 6) (.tmp 12) rfl w1.heap.size zeroW rfl rfl 160 zeroW hB.out infoW rfl (by simp [Value.oneCell']) ?_) | (refine wpList_store_row rfl 47 (.tmp 4) (.tmp 16) rfl w.heap.size zeroVer rfl rfl 47 zeroVer hB3.out infoV rfl (by simp [Value.oneCell']) ?_) | fail)
    exact bodyPost_ret (v := .tuple #[.agg zeroVer, .bool false]) (results_row_tmp rfl _ _ w.heap.size 47 _ (0, 0) _ rfl HR.out Tryz.underlying47 rfl infoV _ rfl) rfl ⟨rfl, HOR.out⟩
  | some x =>
    obtain ⟨hx, hxk⟩ := look_mem hlk
    obtain ⟨A, c, hat⟩ : ∃ A c, at' x.key = (A, c) := ⟨_, _, rfl⟩
    have hwv : writeV at' ws key.data.toList = weC A x.bs.length c x.dead := by unfold writeV; rw [hlk]; simp only [hat]
    have hgx := h.good x hx
    have HBY := Lib.hid (by have := h.vals x hx; rw [hat] at this; exact this : BytesAt w A x.bs)
    rw [hwv, hlk] at HF
    have hnb1 : x.bs.length ≤ 4096 := by omega
    obtain ⟨xk, xb, xd⟩ := x
    simp only at hnb1 HF HBY ⊢
    obtain ⟨nb, hnb⟩ : ∃ nb, xb.length = nb := ⟨_, rfl⟩
    rw [hnb] at HF hnb1
    have HVV := fun u (hu : Only NoneOf w u) => Lib.hid (version_is u key A nb c xd xb hnb (HBY.out.keep hu) hnb1)
    clear h hlk hwv hgx hx hxk hat hnb
    go_enter Tryz.func65, Tryz.ntmps65
    go_wp2_with fail
    rw [HW1.out]
    refine HF.out.mono ?_; rintro e w1 ⟨rfl, ho⟩
    have hB := Lib.hid (Blk.new w1 160 zeroW)
    have HE := Lib.hid (hB.out.row (weC A nb c xd))
    have hB3 := Lib.hid (((HB1.out.only ho (fun h => h)).alloc (.cells zeroW 160)).row_far (g := w1.heap.size) (by have := ho.size; have := HZ1.out; omega) (weC A nb c xd))
    have HO := Lib.hid (((HO1.out.trans ho).alloc (.cells zeroW 160)).row (b := w1.heap.size) (.inr (HO1.out.trans ho).size) (weC A nb c xd))
    clear ho
    go_wp2_with (first | (refine wpList_store_row rfl 160 (.tmp 6) (.tmp 12) rfl w1.heap.size (weC A nb c xd) rfl rfl 160 zeroW hB.out infoW rfl (by simp [Value.oneCell']) ?_) | (refine wpList_load_row rfl 160 (.tmp 6) rfl w1.heap.size rfl 160 _ (0, 0) _ HE.out Tryz.underlying160 rfl infoW ?_) | fail)
    refine (HVV _ HO.out).out.mono ?_
    rintro e w2 ⟨v, rfl, hr, ho2⟩
    obtain ⟨Av, cv, rfl⟩ := ownsRow_slice hr
    have hzlt := hB3.out.lt
    have hB4 := Lib.hid (hB3.out.only ho2 (fun h => h))
    have HR := Lib.hid (hB4.out.row (verC key 0 (.slice Av xb.length cv) xd))
    have HOR := Lib.hid ((HO.out.trans ho2).row (b := w.heap.size) (.inr (Nat.le_refl _)) (verC key 0 (.slice Av xb.length cv) xd))
    have hzz := HO.out.size
    have HFR := Lib.hid (hr.only ((Only.refl (· = w.heap.size) w2).row (.inl rfl) (verC key 0 (.slice Av xb.length cv) xd)) (fun g hg e => by have := (ownsRow_lt hr hg).1; omega))
    clear ho2 hr
    go_wp2_with (first | (refine wpList_store_row rfl 47 (.tmp 4) (.tmp 19) rfl w.heap.size (verC key 0 (.slice Av xb.length cv) xd) rfl rfl 47 zeroVer hB4.out infoV rfl (by simp [Value.oneCell']) ?_) | fail)
    exact bodyPost_ret (v := .tuple #[.agg (verC key 0 (.slice Av xb.length cv) xd), .bool true]) (results_row_tmp rfl _ _ w.heap.size 47 _ (0, 0) _ rfl HR.out Tryz.underlying47 rfl infoV _ rfl) rfl ⟨⟨_, rfl, HFR.out.base hzz⟩, HOR.out⟩

end Go.Proofs.YtbhihbhjmmeibaaGreat

/-
  append to a slice that is its own, whatever comes.
-/
namespace Go.Proofs.YtbhihbhjmmeibaaGreat
open Go.RowKit
theorem run_append_owned_zero {P : Program} {w : World} (base : Nat) (t ty e : TypeId) (i : TypeInfo) (size : Nat) (ht : P.underlying t = some (.slice e)) (hi : P.info? e = some i)
    (v : Value) (n : Nat) (xs : List Value) (hown : w.ownsRow base e size v n xs) (A : Option Addr) (c : Nat) :
    (Builtin.append_ #[t, t] ty #[v, .slice A 0 c]).run P w = .ok v w := by
  cases A with
  | none =>
    rcases hown.2 with ⟨rfl, rfl⟩ | ⟨g, cap, cur, rfl, _, _, hnc, _⟩
    · simp [Builtin.append_, run_underlying ht, sizeOf, typeInfo, hi, Builtin.lenOf, Builtin.firstCells]
    · simp [Builtin.append_, run_underlying ht, sizeOf, typeInfo, hi, Builtin.lenOf, Builtin.firstCells, hnc, storeCells]
  | some ad =>
    rcases hown.2 with ⟨rfl, rfl⟩ | ⟨g, cap, cur, rfl, _, _, hnc, _⟩
    · simp [Builtin.append_, run_underlying ht, sizeOf, typeInfo, hi, Builtin.lenOf, Builtin.firstCells, loadCells, loadCellsFrom]
    · simp [Builtin.append_, run_underlying ht, sizeOf, typeInfo, hi, Builtin.lenOf, Builtin.firstCells, loadCells, loadCellsFrom, hnc, storeCells]

theorem wpList_append_any {P : Program} {w : World} {ops : Array Oper} {rest : List Oper} {o : Oper} {a : Act} {Q : Exit → Act → World → Prop} (hgd : o.guard = none) (s x : Operand) (t : TypeId)
    (ho : o.op = .call { callee := .builtin .append, args := #[s, x], argTypes := #[t, t] })
    (base : Nat) (e : TypeId) (i : TypeInfo) (z : Value) (size bytes : Nat) (ht : P.underlying t = some (.slice e)) (hi : P.info? e = some i) (hz : i.zero = some z)
    (hsize : i.size = size) (hby : i.bytes = bytes) (hzs : z.cells.size = size) (hsz : 0 < size)
    (v : Value) (n : Nat) (xs : List Value) (hs : a.eval s = v) (hown : w.ownsRow base e size v n xs)
    (A : Option Addr) (m c : Nat) (news : List Value) (hx : a.eval x = .slice A m c) (hl : news.length = m * size) (hnews : ∀ j u, news[j]? = some u → ∃ g off, A = some ⟨g, off, none⟩ ∧ w.cell? ⟨g, off + j, none⟩ = some u) (h1 : ∀ u ∈ news, u.oneCell' = true)
    (h63 : n + m ≤ maxLen) (hbytes : (n + m) * bytes ≤ 140737488355328) (hbase : base ≤ w.heap.size)
    (h : ∀ v' w', w'.ownsRow base e size v' (n + m) (xs ++ news) → Only (fun k => v.ownBlock = some k) w w' → (v'.ownBlock = v.ownBlock ∨ v'.ownBlock = some w.heap.size) → wpList P ops Q rest (a.put o.dst v') w') : wpList P ops Q (o :: rest) a w := by
  rcases Nat.eq_zero_or_pos m with h0 | h0
  · subst h0
    obtain rfl : news = [] := List.eq_nil_of_length_eq_zero (by omega)
    refine wpList_plain hgd fun K hK => ?_
    have hrun := run_append_owned_zero (P := P) (w := w) base t o.type e i size ht hi v n xs hown A c
    unfold Oper.wp
    simp [execOp, ho, resolve, invoke, builtin, hs, hx, hrun, Result.andThen]
    exact hK _ _ (h v w (by rw [List.append_nil]; exact hown) (Only.refl _ _) (.inl rfl))
  · have hlt : 0 < news.length := by rw [hl]; exact Nat.mul_pos h0 hsz
    obtain ⟨g, off, rfl, _⟩ := hnews 0 news[0] (List.getElem?_eq_getElem hlt)
    refine wpList_append_lies w hgd s x t ho base e i z size bytes ht hi hz hsize hby hzs hsz v n xs hs hown ⟨g, off, none⟩ m c news hx hl (fun j u hj => ?_) h1 h0 h63 hbytes hbase w.heap.size rfl fun g' cap w' h2 h3 h4 _ => ?_
    · obtain ⟨g1, o1, he, hc⟩ := hnews j u hj
      injection he with he
      injection he with e1 e2 _
      subst e1; subst e2
      have hadd : (⟨g, off, none⟩ : Addr).add j = ⟨g, off + j, none⟩ := by unfold Addr.add; split <;> simp_all
      rw [hadd]
      exact hc
    · refine h _ w' h2 (only_grown h3) ?_
      rcases h4 with h4 | rfl
      · exact .inl h4.symm
      · exact .inr rfl

theorem BytesAt.news {w : World} {A : Option Addr} {bs : List UInt8} (h : BytesAt w A bs) (j : Nat) (u : Value) (hj : (bs.map byteV)[j]? = some u) : ∃ g off, A = some ⟨g, off, none⟩ ∧ w.cell? ⟨g, off + j, none⟩ = some u := by
  rw [List.getElem?_map] at hj
  obtain ⟨b, hb, rfl⟩ := Option.map_eq_some_iff.1 hj
  obtain ⟨g, off, he, _, h1⟩ := h j b hb
  exact ⟨g, off, he, h1⟩
theorem one_bytes (bs : List UInt8) (u : Value) (hu : u ∈ bs.map byteV) : u.oneCell' = true := by
  obtain ⟨b, _, rfl⟩ := List.mem_map.1 hu
  rfl
theorem own_empty {w : World} {B g sz : Nat} {t : TypeId} (h : Blk w g t #[]) (hB : B ≤ g) : w.ownsRow B t sz (.slice (some ⟨g, 0, none⟩) 0 0) 0 [] :=
  ⟨by simp, .inr ⟨g, 0, #[], rfl, hB, h, Nat.le_refl _, Nat.zero_le _, by simp, by simp⟩⟩


end Go.Proofs.YtbhihbhjmmeibaaGreat

/-
  Layer 16: a set of writes: its keys, sorted; Writes.
-/
namespace Go.Proofs.YtbhihbhjmmeibaaGreat
open Go.RowKit Go.Shelf

theorem mapw_keys {w : World} {m n : Nat} {D : MW} (h : w.ownsMap Tryz.prog 9 RW m n D) : ∃ es, D = .map es ∧ es.Pairwise (fun p q => p.1 ≠ q.1) ∧ ∀ p ∈ es, ∃ bs : List UInt8, p.1 = .string bs ∧ bs.length ≤ maxLen := by
  obtain ⟨es, hD, hpw, _⟩ := h.entries law9
  obtain ⟨es0, clock, _, F, _, hD2⟩ := h
  refine ⟨es, hD, hpw, fun p hp => ?_⟩
  rw [hD] at hD2
  injection hD2 with hD2
  rw [hD2] at hp
  obtain ⟨key, hk⟩ := Go.Maps.fit_keys F p (mem_sorted.1 hp)
  obtain ⟨x, rfl⟩ := key_inv key p.1 hk
  obtain ⟨h1, h2⟩ := key_lit x p.1 hk
  exact ⟨_, h1, by rw [Array.length_toList]; exact h2⟩

theorem look_self {ws : List We} (hr : ws.Pairwise fun a b => a.key < b.key) {e : We} (he : e ∈ ws) : look ws e.key = some e := by
  induction ws with
  | nil => cases he
  | cons y ws ih =>
    rw [List.pairwise_cons] at hr
    rw [look_cons]
    rcases List.mem_cons.1 he with rfl | he
    · rw [if_pos rfl]
    · rw [if_neg (fun h2 => by have := hr.1 e he; rw [h2] at this; exact List.lt_irrefl _ this)]
      exact ih hr.2 he

theorem rise_keys {ws : List We} (hr : ws.Pairwise fun a b => a.key < b.key) : (ws.map (·.key)).Pairwise (· < ·) := by
  rw [List.pairwise_map]
  exact hr
theorem SetB.keysPerm {w : World} {p m n : Nat} {D : MW} {at' : List UInt8 → Option Addr × Nat} {ws : List We} {U : Nat → Prop} {by' : Int} (h : SetB w p m n D at' ws U by') : (ws.map (·.key)).Perm (strKeys D) := by
  obtain ⟨es, rfl, hpw, hkl⟩ := mapw_keys h.map
  have hnd : (ws.map (·.key)).Nodup := (rise_keys h.rise).imp fun {a b} hab e => by rw [e] at hab; exact List.lt_irrefl _ hab
  refine perm_strKeys hpw (fun p hp => (hkl p hp).imp fun _ hh => hh.1) hnd fun x => ?_
  constructor
  · intro hx
    obtain ⟨e, he, rfl⟩ := List.mem_map.1 hx
    have h1 := h.has (key := ⟨e.key.toArray⟩) (by show e.key.toArray.size ≤ maxLen; rw [List.size_toArray]; have := (h.good e he).2.1; unfold maxLen; omega)
    rw [show (ByteArray.mk e.key.toArray).data.toList = e.key from rfl, look_self h.rise he] at h1
    exact h1
  · intro hx
    obtain ⟨q, hq, hk⟩ := List.any_eq_true.1 (show es.any (fun p => p.1.sameKey (.string x)) = true from hx)
    obtain ⟨bs, hb1, hb2⟩ := hkl q hq
    have hbx : bs = x := by
      have := WideAt.sameKey_eq hk
      rw [hb1] at this
      injection this
    subst hbx
    have h1 := h.has (key := ⟨bs.toArray⟩) (by show bs.toArray.size ≤ maxLen; rw [List.size_toArray]; exact hb2)
    rw [show (ByteArray.mk bs.toArray).data.toList = bs from rfl, show Go.Maps.has (.map es : MW) (.string bs) = true from hx] at h1
    cases hl : look ws bs with
    | none => rw [hl] at h1; cases h1
    | some e =>
      obtain ⟨he, hek⟩ := look_mem hl
      exact List.mem_map.2 ⟨e, he, hek⟩

theorem sorted_self : ∀ {l : List (List UInt8)}, l.Pairwise (· < ·) → l.mergeSort leB = l := fun {l} h => by
  refine sorted_unique _ _ ?_ h fun k => List.mem_mergeSort
  have h1 := List.pairwise_mergeSort leB_trans leB_total l
  have h2 : (l.mergeSort leB).Nodup := (List.mergeSort_perm _ _).nodup_iff.2 (h.imp fun {a b} hab e => by rw [e] at hab; exact List.lt_irrefl _ hab)
  refine (h1.and h2).imp fun {a b} ⟨ha, hb⟩ => ?_
  simp only [leB, decide_eq_true_eq] at ha
  exact (List.le_iff_lt_or_eq.1 ha).resolve_right hb

/-- a write as it is told -/
def verW (e : We) : ByteArray × Ver := (⟨e.key.toArray⟩, ⟨0, e.bs, e.dead⟩)

def WRel (W : World) (ws : List We) (v vi : Value) (wr : World) : Prop :=
  ∃ (i : Nat) (rs : List VRow), i ≤ ws.length ∧ vi = .int .i64 i ∧ Only NoneOf W wr ∧ VRows wr W.heap.size v rs ∧ rs.length = i ∧ rs.map VRow.plain = (ws.take i).map verW

set_option maxRecDepth 100000 in
set_option maxHeartbeats 4000000 in
theorem writes_is (w : World) (p m n : Nat) (D : MW) (at' : List UInt8 → Option Addr × Nat) (ws : List We) (U : Nat → Prop) (h : SetIs w p m n D at' ws U) (hfew : n ≤ 1048576) :
    Calls Tryz.prog 42 #[.pointer (some ⟨p, 0, none⟩)] w (VersPost (ws.map verW) w) := by
  have c0 := h.blk.cellv 0 rfl
  have HS := Lib.hid h
  have hsz := h.map.size_le
  have HK := Lib.hid (fun u => callsIn_wide.1 (Tryz.maps_Keys_W (some m) u))
  have HSK := Lib.hid (callsIn_wide.1 (Tryz.slices_Sorted_keys_66_W m n D RW w h.map (by unfold maxLen; omega) (by omega)))
  have HP := Lib.hid h.keysPerm
  have HRI := Lib.hid (rise_keys h.rise)
  have hlen := h.few
  clear h
  obtain ⟨i0, hi0, hz0, hz1, hz3⟩ := info_parts info27'
  go_enter Tryz.func42, Tryz.ntmps42
  go_wp2_with fail
  refine (HK.out w).mono ?_; rintro e w1 ⟨rfl, rfl⟩
  go_wp2_with fail
  refine HSK.out.mono ?_; rintro e w1 ⟨v, ss, rfl, hp, hrow, _, hb⟩
  have ho1 : Only NoneOf w w1 := (Only.refl NoneOf w).alloc (.cells #[.map (some m)] 141) |>.trans (Only.of_below hb NoneOf)
  have hss : ss.mergeSort leB = ws.map (·.key) := by
    rw [← sorted_self HRI.out]
    exact mergeSort_of_perm (hp.trans HP.out.symm)
  have hrs : RowS w1 w.heap.size v (ws.map (·.key)) := by
    unfold RowS
    rw [← hss, List.length_mergeSort]
    exact ownsRow_base hrow (by simp)
  obtain ⟨Ak, ck, rfl, hka⟩ := RowS.at hrs
  have HKA := Lib.hid hka
  have HO1 := Lib.hid ho1
  have hs1 := ho1.size
  obtain ⟨nk, hnk⟩ : ∃ nk, ws.length = nk := ⟨_, rfl⟩
  have HNK := Lib.hid hnk
  rw [hnk] at hlen
  simp only [List.length_map, hnk]
  clear hrow hp hss hrs hka hb hnk ho1 HSK
  go_wp2_with fail
  go_loopw [3, 15] (fun v vi wr => WRel w1 ws v vi wr) (fun _ vi _ => nk - (intOf vi).toNat)
  case atStart => exact ⟨0, [], by omega, rfl, Only.refl _ _, VRows.nil _ _, rfl, rfl⟩
  case round =>
    obtain ⟨i, rs, hi, rfl, hO, hR, hrl, hpl⟩ := hrel
    have HO := Lib.hid hO
    have HR := Lib.hid hR
    have HPL := Lib.hid hpl
    have HRL := Lib.hid hrl
    obtain ⟨Aq, cq, rfl⟩ := ownsRow_slice hR.own
    rw [hrl]
    clear hO hR hpl hrl
    by_cases hlt : i < nk
    · have hwi : ws[i]? = some (ws[i]'(by rw [HNK.out]; exact hlt)) := List.getElem?_eq_getElem _
      generalize ws[i]'(by rw [HNK.out]; exact hlt) = x at hwi
      have hxm := List.mem_of_getElem? hwi
      have hki : (ws.map (·.key))[i]? = some x.key := by rw [List.getElem?_map, hwi]; rfl
      obtain ⟨gk, rfl, hgl, hgk, hkc⟩ := HKA.out.keep HO.out i _ hki
      have hSr := HS.out.keep (HO1.out.trans HO.out)
      have q0 := hSr.blk.cellv 0 rfl
      have hgx := hSr.good x hxm
      have hlk := look_self hSr.rise hxm
      have HBY := Lib.hid (hSr.vals x hxm)
      obtain ⟨A, c, hat⟩ : ∃ A c, at' x.key = (A, c) := ⟨_, _, rfl⟩
      rw [hat] at HBY
      have hwv : writeV at' ws x.key = weC A x.bs.length c x.dead := by unfold writeV; rw [hlk]; simp only [hat]
      have HWV := Lib.hid hwv
      have HSR := Lib.hid hSr
      have HTK := Lib.hid (show (ws.take (i + 1)).map verW = (ws.take i).map verW ++ [verW x] by rw [List.take_add_one, hwi]; simp)
      have hkl : x.key.length ≤ maxLen := by unfold maxLen; omega
      clear hwi hxm hki hSr hlk hat hwv
      obtain ⟨xk, xb, xd⟩ := x
      simp only at hgx HWV HBY hkl HTK hkc
      obtain ⟨nb, hnb⟩ : ∃ nb, xb.length = nb := ⟨_, rfl⟩
      have HNB := Lib.hid hnb
      rw [hnb] at HWV
      have HVV := fun u (hu : Only NoneOf wr u) => Lib.hid (version_is u ⟨xk.toArray⟩ A nb c xd xb hnb (HBY.out.keep hu) (by omega))
      have hnb4 : nb ≤ 4096 := by omega
      clear hgx hnb
      go_wp2_with (at_lookup; refine wpList_get_w rfl (.tmp 24) (.tmp 25) rfl p m n D at' ws U rfl HSR.out ⟨xk.toArray⟩ rfl (by show xk.toArray.size ≤ maxLen; rw [List.size_toArray]; exact hkl) ?_; rw [show (ByteArray.mk xk.toArray).data.toList = xk from rfl, HWV.out])
      refine (HVV _ (Only.refl _ _)).out.mono ?_
      rintro e w2 ⟨vb, rfl, hvb, ho2⟩
      obtain ⟨Ab, cb, rfl⟩ := ownsRow_slice hvb
      have HO2 := Lib.hid ho2
      have hvb' := hvb.keep ((Only.refl NoneOf w2).alloc (.cells (verC ⟨xk.toArray⟩ 0 (.slice Ab xb.length cb) xd) 47))
      have HVB := Lib.hid hvb
      have HVA := Lib.hid hvb'
      have HRA := Lib.hid ((HR.out.only ho2 (fun _ _ h => h)).only ((Only.refl NoneOf w2).alloc (.cells (verC ⟨xk.toArray⟩ 0 (.slice Ab xb.length cb) xd) 47)) (fun _ _ h => h))
      have HN := Lib.hid (Blk.new w2 47 (verC ⟨xk.toArray⟩ 0 (.slice Ab xb.length cb) xd))
      have hw1r := HO.out.size
      have hwr2 := ho2.size
      have HOWN := Lib.hid (show (w2.alloc (.cells (verC ⟨xk.toArray⟩ 0 (.slice Ab xb.length cb) xd) 47)).ownsRow w1.heap.size 47 4 (.slice Aq i cq) i (vflat rs) by have := HRA.out.own; rw [HRL.out] at this; exact this)
      clear ho2 hvb hvb'
      go_wp2_with (at_builtin; refine wpList_append_any rfl (.tmp 19) (.tmp 28) 23 rfl w1.heap.size 47 i0 _ 4 56 Tryz.underlying23 hi0 hz0 hz1 hz3 rfl (by decide) (.slice Aq i cq) i (vflat rs) rfl HOWN.out (some ⟨w2.heap.size, 0, none⟩) 1 1 [.string ⟨xk.toArray⟩, .int .i64 0, .slice Ab xb.length cb, .bool xd] rfl rfl (fun j' u hj => ⟨w2.heap.size, 0, rfl, by rw [Nat.zero_add, HN.out.cell]; simpa using hj⟩) (by simp [Value.oneCell']) (by unfold maxLen; omega) (by omega) (by simp; omega) ?_; intro v' w3 hown' ho3 hat; have HOWN2 := Lib.hid hown'; have HO3 := Lib.hid ho3; have HAT := Lib.hid hat; obtain ⟨Av', cv', rfl⟩ := ownsRow_slice hown'; clear hown' ho3 hat)
      have hsn := VRows.snoc (r := (⟨⟨xk.toArray⟩, 0, .slice Ab xb.length cb, xb, xd⟩ : VRow)) HRA.out (by rw [HRL.out]; exact HO3.out) (by rw [HRL.out]; exact HOWN2.out) (by
        rw [HRL.out]
        rcases HAT.out with h | h
        · exact .inl h
        · exact .inr ⟨_, h, Nat.le_refl _⟩) (HVA.out.base (by omega)) (fun g hg hb' => by
          have := (ownsRow_lt HVB.out hg).1
          have := (HR.out.lt hb').2
          omega)
      refine ⟨⟨i + 1, _, by have := HNK.out; omega, by rw [show ((i + 1 : Nat) : Int) = (i : Int) + 1 by omega], ?_, hsn, by simp [HRL.out], ?_⟩, by simp [intOf]; omega⟩
      · exact (HO.out.trans (HO2.out.alloc _)).step HO3.out (fun k' hk' e => by have := (HRA.out.lt (.inl (by rw [HRL.out]; exact e))).1; omega)
      · rw [List.map_append, HPL.out, HTK.out]
        rfl
    · obtain rfl : i = nk := by have := HNK.out; omega
      have hpl' := HPL.out
      rw [← HNK.out, List.take_length] at hpl'
      have HPL' := Lib.hid hpl'
      clear hpl' hlt
      go_wp2_with fail
      go_ret
      exact ⟨_, rs, rfl, by have := (HR.out); rw [HRL.out] at this; exact ⟨ownsRow_base this.own hs1, fun r hr => (this.val r hr).base hs1, this.apart, this.dist⟩, HPL'.out, HO1.out.trans HO.out⟩

theorem writesR (w : World) (p m N : Nat) (U : Nat → Prop) (ws : List We) (h : SetR w p m U ws N) (hN : N ≤ 1048576) : Calls Tryz.prog 42 #[.pointer (some ⟨p, 0, none⟩)] w (VersPost (ws.map verW) w) := by
  obtain ⟨n, D, at', h1, h2⟩ := h
  exact writes_is w p m n D at' ws U h1 (by omega)

end Go.Proofs.YtbhihbhjmmeibaaGreat

/-
  A list of versions in memory, row by row.
-/
namespace Go.Proofs.YtbhihbhjmmeibaaGreat
open Go.RowKit
/-- a list of versions in memory, row by row, each with the value that stands in it -/
def RAt (w : World) (A : Option Addr) (rs : List VRow) : Prop := ∀ i r, rs[i]? = some r → ∃ g off Ab cb, A = some ⟨g, off, none⟩ ∧ g < w.heap.size ∧ w.cell? ⟨g, off + i * 4, none⟩ = some (.string r.key) ∧ w.cell? ⟨g, off + i * 4 + 1, none⟩ = some (.int .i64 r.st) ∧
  w.cell? ⟨g, off + i * 4 + 2, none⟩ = some (.slice Ab r.bs.length cb) ∧ w.cell? ⟨g, off + i * 4 + 3, none⟩ = some (.bool r.dead) ∧ r.val = .slice Ab r.bs.length cb ∧ BytesAt w Ab r.bs ∧ r.key.size ≤ maxLen
theorem RAt.keep {w w' : World} {A : Option Addr} {rs : List VRow} (h : RAt w A rs) (ho : Only NoneOf w w') : RAt w' A rs := fun i r hi => by
  obtain ⟨g, off, Ab, cb, h1, h2, d0, d1, d2, d3, h4, h5, h6⟩ := h i r hi
  have hc : ∀ o v, w.cell? ⟨g, o, none⟩ = some v → w'.cell? ⟨g, o, none⟩ = some v := fun o v hv => (ho.cell (p := ⟨g, o, none⟩) h2 (fun h => h)).trans hv
  exact ⟨g, off, Ab, cb, h1, Nat.lt_of_lt_of_le h2 ho.size, hc _ _ d0, hc _ _ d1, hc _ _ d2, hc _ _ d3, h4, h5.keep ho, h6⟩

/-- a list of rows of its own, read -/
theorem rat_own {w : World} {B : Nat} {v : Value} {rs : List VRow} (h : w.ownsRow B 47 4 v rs.length (vflat rs)) (hr : ∀ r ∈ rs, ∃ Ab cb, r.val = .slice Ab r.bs.length cb ∧ BytesAt w Ab r.bs ∧ r.key.size ≤ maxLen) : ∃ A cap, v = .slice A rs.length cap ∧ RAt w A rs := by
  obtain ⟨A, c, rfl⟩ := ownsRow_slice h
  refine ⟨A, c, rfl, fun i r hi => ?_⟩
  obtain ⟨Ab, cb, hv, hb, hk⟩ := hr r (List.mem_of_getElem? hi)
  rcases h.2 with ⟨h0, h1⟩ | ⟨g, cap, cur, hv', _, hb', hle, _, hs, hcur⟩
  · rw [List.eq_nil_of_length_eq_zero h1] at hi; cases hi
  · injection hv' with e1 e2 e3
    subst e1
    have hil : i < rs.length := (List.getElem?_eq_some_iff.1 hi).1
    have hcur' : cur.toList.take (rs.length * 4) = rs.flatMap VRow.cells := hcur
    have hc : ∀ j, j < 4 → w.cell? ⟨g, i * 4 + j, none⟩ = r.cells[j]? := fun j hj => by
      rw [Blk.cell (t := 47) (cs := cur) hb', ← flatMap_get VRow.cells 4 (fun _ => rfl) rs i j r hi hj, ← hcur', List.getElem?_take_of_lt (by omega), Array.getElem?_toList]
    exact ⟨g, 0, Ab, cb, rfl, (ownsRow_lt h (g := g) rfl).2, by rw [Nat.zero_add]; exact hc 0 (by omega), by rw [Nat.zero_add]; exact hc 1 (by omega), by rw [Nat.zero_add, hc 2 (by omega), ← hv]; rfl, by rw [Nat.zero_add]; exact hc 3 (by omega), hv, hb, hk⟩

/-- a list of pairs in memory, row by row -/
def PAt (w : World) (A : Option Addr) (rs : List PRow) : Prop := ∀ i r, rs[i]? = some r → ∃ g off Ab cb, A = some ⟨g, off, none⟩ ∧ g < w.heap.size ∧ w.cell? ⟨g, off + i * 2, none⟩ = some (.string r.key) ∧ w.cell? ⟨g, off + i * 2 + 1, none⟩ = some (.slice Ab r.bs.length cb) ∧ r.val = .slice Ab r.bs.length cb

def PairsPost (L : List (ByteArray × List UInt8)) (w : World) (e : Ending) (w' : World) : Prop := ∃ v rs, e = .returned v ∧ PRows w' w.heap.size v rs ∧ rs.map PRow.plain = L ∧ Only NoneOf w w'

/-- a cell of an own row -/
theorem own_cell {w : World} {B g n cap sz : Nat} {e : TypeId} {xs : List Value} (h : w.ownsRow B e sz (.slice (some ⟨g, 0, none⟩) n cap) n xs) {i : Nat} (hi : i < n * sz) (u : Value) :
    (∃ x, xs[i]? = some x ∧ w.cell? ⟨g, i, none⟩ = some x) ∧ w.frozen? ⟨g, i, none⟩ = false ∧ (w.setCell ⟨g, i, none⟩ u).ownsRow B e sz (.slice (some ⟨g, 0, none⟩) n cap) n (xs.set i u) := by
  obtain ⟨hl, h⟩ := h
  rcases h with ⟨h0, _⟩ | ⟨g', cap', cur, hv, hb, hh, hle, hcm, hsz, hcur⟩
  · simp at h0
  · simp only [Value.slice.injEq, Option.some.injEq, Addr.mk.injEq, and_true] at hv
    obtain ⟨rfl, _, rfl⟩ := hv
    have hblk : Blk w g e cur := hh
    refine ⟨⟨xs[i]'(by omega), List.getElem?_eq_getElem _, ?_⟩, hblk.free i, by rw [List.length_set]; exact hl, .inr ⟨g, cap, cur.setIfInBounds i u, rfl, hb, hblk.put i u, hle, hcm, by simpa using hsz, ?_⟩⟩
    · rw [hblk.cell, ← List.getElem?_eq_getElem, ← hcur, List.getElem?_take_of_lt (by omega), Array.getElem?_toList]
    · rw [Array.toList_setIfInBounds, List.take_set, hcur]
theorem own_at {w : World} {B n sz : Nat} {v : Value} {e : TypeId} {xs : List Value} (h : w.ownsRow B e sz v n xs) (hn : 0 < n) : ∃ g cap, v = .slice (some ⟨g, 0, none⟩) n cap ∧ B ≤ g ∧ g < w.heap.size ∧ n ≤ cap := by
  rcases h.2 with ⟨_, h0⟩ | ⟨g, cap, cur, hv, hb, _, hle, _⟩
  · omega
  · exact ⟨g, cap, hv, hb, (ownsRow_lt h (by rw [hv]; rfl)).2, hle⟩
/-- versions told, read -/
theorem VRows.rat {w : World} {B : Nat} {v : Value} {rs : List VRow} (h : VRows w B v rs) (hk : ∀ r ∈ rs, r.key.size ≤ maxLen) : ∃ A cap, v = .slice A rs.length cap ∧ RAt w A rs :=
  rat_own h.own (fun r hr => by
    obtain ⟨A, c, e, hb⟩ := (h.val r hr).at
    exact ⟨A, c, e, hb, hk r hr⟩)
/-- pairs told, read -/
theorem prows_pat {w : World} {B : Nat} {v : Value} {rs : List PRow} (h : PRows w B v rs) : ∃ A cap, v = .slice A rs.length cap ∧ PAt w A rs := by
  obtain ⟨A, c, hv⟩ := ownsRow_slice h.own
  refine ⟨A, c, hv, fun i r hi => ?_⟩
  have hil : i < rs.length := (List.getElem?_eq_some_iff.1 hi).1
  obtain ⟨g, cap, hv2, _, hlt, _⟩ := own_at h.own (by omega)
  have ho := h.own
  rw [hv2] at ho
  obtain ⟨Ab, cb, hvr⟩ := ownsRow_slice (h.vals r (List.mem_of_getElem? hi))
  have hc : ∀ j, j < 2 → w.cell? ⟨g, i * 2 + j, none⟩ = r.cells[j]? := fun j hj => by
    obtain ⟨⟨x, hx, hxc⟩, _⟩ := own_cell ho (i := i * 2 + j) (by omega) (.bool true)
    rw [hxc, ← hx]
    exact flatMap_get PRow.cells 2 (fun _ => rfl) rs i j r hi hj
  rw [hv] at hv2
  injection hv2 with e1 _ _
  refine ⟨g, 0, Ab, cb, e1, hlt, by rw [Nat.zero_add]; exact hc 0 (by omega), by rw [Nat.zero_add, hc 1 (by omega), ← hvr]; rfl, hvr⟩

end Go.Proofs.YtbhihbhjmmeibaaGreat

/-
  Layer 16: a set of writes: keys (which keys are written).
-/
namespace Go.Proofs.YtbhihbhjmmeibaaGreat
open Go.RowKit Go.Shelf

theorem zero3 (w : World) : (zeroValue 3).run Tryz.prog w = .ok (.int .i64 0) w := by kernel_rfl

/-- a map that tells which keys are written -/
def Written (w : World) (b n : Nat) (D : MW) (ws : List We) : Prop := w.ownsMap Tryz.prog 9 RW b n D ∧ ∀ k : List UInt8, Go.Maps.has D (.string k) = (look ws k).isSome
theorem Written.only {w w' : World} {b n : Nat} {D : MW} {ws : List We} {S : Nat → Prop} (h : Written w b n D ws) (ho : Only S w w') (hS : ¬ S b) : Written w' b n D ws := ⟨mapw_only h.1 ho hS, h.2⟩

theorem has_put {D : MW} (hD : Go.Maps.IsMap D) (a k : List UInt8) (d : MW) : Go.Maps.has (D.put (.string a) d) (.string k) = (decide (a = k) || Go.Maps.has D (.string k)) := by
  by_cases h : a = k
  · subst h
    rw [Go.Maps.has_put_same hD (show WideAt.IsKeyLit (.string _) from trivial)]
    simp
  · rw [Go.Maps.has_put_other (fun e => h (by injection e with e; exact e.symm))]
    simp [h]
theorem look_take {ws : List We} {i : Nat} {x : We} (h : ws[i]? = some x) (k : List UInt8) : (look (ws.take (i + 1)) k).isSome = (decide (x.key = k) || (look (ws.take i) k).isSome) := by
  unfold look
  rw [List.take_add_one, h]
  simp only [Option.toList_some, List.find?_append, List.find?_cons, List.find?_nil]
  cases h1 : (ws.take i).find? (fun e => decide (e.key = k)) <;> by_cases h2 : x.key = k <;> simp [h2]

def KRel (b : Nat) (w : World) (ws : List We) (vi : Value) (wr : World) : Prop :=
  ∃ (i : Nat) (D : MW), i ≤ ws.length ∧ vi = .int .i64 i ∧ Only (· = b) w wr ∧ Written wr b i D (ws.take i)

def KeysPostW (ws : List We) (w : World) (e : Ending) (w' : World) : Prop := ∃ n D, e = .returned (.map (some w.heap.size)) ∧ Written w' w.heap.size n D ws ∧ Only NoneOf w w'

set_option maxRecDepth 100000 in
set_option maxHeartbeats 4000000 in
theorem keysW_is (w : World) (p m N : Nat) (U : Nat → Prop) (ws : List We) (h : SetR w p m U ws N) (hN : N ≤ 1048576) :
    Calls Tryz.prog 94 #[.pointer (some ⟨p, 0, none⟩)] w (KeysPostW ws w) := by
  have hmm := @run_makeMap Tryz.prog
  have hO1 : Only NoneOf w (w.alloc (.map #[] 0)) := (Only.refl _ _).alloc _
  have HW := Lib.hid (writesR _ p m N U ws (h.keep hO1) hN)
  have HO1 := Lib.hid hO1
  have HM := Lib.hid (World.ownsMap_made w Tryz.prog 9 RW)
  have hgood := Lib.hid h.good
  have hfew := h.few
  obtain ⟨W1, hW1⟩ : ∃ W1, w.alloc (.map #[] 0) = W1 := ⟨_, rfl⟩
  have HW1 := Lib.hid hW1
  have hz1 : W1.heap.size = w.heap.size + 1 := by rw [← hW1]; simp
  have HZ1 := Lib.hid hz1
  rw [hW1] at HW HO1 HM
  clear h hO1 hz1 hW1
  go_enter Tryz.func94, Tryz.ntmps94
  go_wp2_with fail
  rw [HW1.out]
  refine HW.out.mono ?_; rintro e w2 ⟨v, rs, rfl, hR, hpl, ho2⟩
  obtain ⟨nk, hnk⟩ : ∃ nk, ws.length = nk := ⟨_, rfl⟩
  have hrl : rs.length = nk := by
    have := congrArg List.length hpl
    rw [List.length_map, List.length_map] at this
    omega
  have hkey : ∀ r ∈ rs, r.key.size ≤ maxLen := fun r hr => by
    have h1 : r.plain ∈ ws.map verW := by rw [← hpl]; exact List.mem_map.2 ⟨r, hr, rfl⟩
    obtain ⟨e, he, h2⟩ := List.mem_map.1 h1
    have h3 : r.key = ⟨e.key.toArray⟩ := by
      have := congrArg Prod.fst h2
      exact this.symm
    rw [h3]
    show e.key.toArray.size ≤ maxLen
    rw [List.size_toArray]
    have := (hgood.out e he).2.1
    unfold maxLen
    omega
  obtain ⟨A, cap, rfl, _⟩ := hR.rat hkey
  have HR := Lib.hid hR
  have HKEY := Lib.hid hkey
  have HPL := Lib.hid hpl
  have HNK := Lib.hid hnk
  have HRL := Lib.hid hrl
  have HO2 := Lib.hid (HO1.out.trans ho2)
  have HWR := Lib.hid (show Written w2 w.heap.size 0 (.map []) [] from ⟨mapw_only HM.out ho2 (fun h => h), fun k => rfl⟩)
  rw [hnk] at hfew
  rw [hrl]
  clear hR hpl hkey hnk hrl ho2 HW
  go_wp2_with fail
  go_loopw [10] (fun vi wr => KRel w.heap.size w2 ws vi wr) (fun vi _ => nk - (intOf vi).toNat)
  case atStart => exact ⟨0, .map [], by omega, rfl, Only.refl _ _, HWR.out⟩
  case round =>
    obtain ⟨i, D, hi, rfl, hO, hWr⟩ := hrel
    have HO := Lib.hid hO
    have HWr := Lib.hid hWr
    rw [HNK.out] at hi
    clear hO hWr
    by_cases hlt : i < nk
    · have hwi : ws[i]? = some (ws[i]'(by rw [HNK.out]; exact hlt)) := List.getElem?_eq_getElem _
      generalize ws[i]'(by rw [HNK.out]; exact hlt) = x at hwi
      have hri : rs[i]? = some (rs[i]'(by rw [HRL.out]; exact hlt)) := List.getElem?_eq_getElem _
      generalize rs[i]'(by rw [HRL.out]; exact hlt) = r at hri
      have hrk : r.key = ⟨x.key.toArray⟩ := by
        have h1 : (rs.map VRow.plain)[i]? = (ws.map verW)[i]? := by rw [HPL.out]
        rw [List.getElem?_map, List.getElem?_map, hri, hwi] at h1
        have := congrArg Prod.fst (Option.some.inj h1)
        exact this
      have HTK := Lib.hid (look_take hwi)
      have HHP := Lib.hid (fun k d => has_put HWr.out.1.isMap r.key.data.toList k d)
      have HRK := Lib.hid (show r.key.data.toList = x.key by rw [hrk])
      have hRr := HR.out.only HO.out (fun k hk e => by have := (HR.out.lt hk).1; have := HZ1.out; omega)
      obtain ⟨A', cap', hAA, hAt⟩ := hRr.rat HKEY.out
      injection hAA with q1 q2 q3
      subst q1
      obtain ⟨g, off, Ab, cb, rfl, hg, d0, d1, d2, d3, hval, _, hks⟩ := hAt i r hri
      have hgs := Lib.hid hg
      have hmb : w.heap.size < wr.heap.size := HWr.out.1.lt
      have HWa := Lib.hid (HWr.out.only ((Only.refl NoneOf wr).alloc (.cells #[.string r.key, .int .i64 r.st, .slice Ab r.bs.length cb, .bool r.dead] 47)) (fun h => h))
      have HOa := Lib.hid (HO.out.alloc (.cells #[.string r.key, .int .i64 r.st, .slice Ab r.bs.length cb, .bool r.dead] 47))
      clear hwi hri hRr hAt q2 q3 hrk hval
      go_wp2_with (at_mapUpdate; refine wpList_mapUpdate_own _ rfl (.tmp 15) (.tmp 17) (.tmp 18) 177 rfl 9 3 law9 Tryz.underlying177 RW w.heap.size i D rfl HWa.out.1 (by unfold maxLen; omega) (.string r.key) (.int .i64 i) (.string r.key.data.toList) rfl rfl (Go.WideMaps.keyOf_string_mk Tryz.underlying9 hks) (.held (.int .i64 i)) [] rfl ?_; intro w3 hown3 hgr3)
      refine ⟨⟨i + 1, _, by rw [HNK.out]; omega, by rw [show ((i + 1 : Nat) : Int) = (i : Int) + 1 by omega], HOa.out.step (only_grown hgr3) (fun k hk e => by injection e with e; exact e.symm), hown3, fun k => ?_⟩, by simp [intOf]; omega⟩
      rw [HHP.out, HTK.out, HWr.out.2, HRK.out]
    · obtain rfl : i = nk := by omega
      have hWn : Written wr w.heap.size i D ws := by have := HWr.out; rw [← HNK.out, List.take_length] at this; rw [← HNK.out]; exact this
      have HWn := Lib.hid hWn
      clear hlt hWn
      go_wp2_with fail
      go_ret
      exact ⟨i, D, rfl, HWn.out, HO2.out.step HO.out (fun k hk e => by omega)⟩

end Go.Proofs.YtbhihbhjmmeibaaGreat

/-
  Layer 16: a set of writes: puts (the pairs that were put into a range).
-/
namespace Go.Proofs.YtbhihbhjmmeibaaGreat
open Go.RowKit Go.Shelf

/-- a write as a pair of a range -/
def putKey (fr tt : ByteArray) (e : We) : Option (ByteArray × List UInt8) :=
  if e.dead = true ∨ Op.bytesLess e.key fr.toList = true ∨ (tt.toList ≠ [] ∧ Op.bytesLess e.key tt.toList = false) then none else some (⟨e.key.toArray⟩, e.bs)
def putsW (ws : List We) (fr tt : ByteArray) : List (ByteArray × List UInt8) := ws.filterMap (putKey fr tt)

/-- the rows that are told -/
def PFrom (rs : List VRow) (i : Nat) (ps : List PRow) : Prop := ∃ q : List VRow, q.Sublist (rs.take i) ∧ ps = q.map fun r => ⟨r.key, r.val, r.bs⟩

def PuRel (b : Nat) (w2 : World) (rs : List VRow) (ws : List We) (fr tt : ByteArray) (v vi : Value) (wr : World) : Prop :=
  ∃ (i : Nat) (ps : List PRow), i ≤ ws.length ∧ vi = .int .i64 i ∧ Only NoneOf w2 wr ∧ PRows wr b v ps ∧ (∀ g, v.ownBlock = some g → w2.heap.size ≤ g) ∧ PFrom rs i ps ∧ ps.length ≤ i ∧ ps.map PRow.plain = (ws.take i).filterMap (putKey fr tt)

theorem PFrom.skip {rs : List VRow} {i : Nat} {ps : List PRow} (h : PFrom rs i ps) : PFrom rs (i + 1) ps := by
  obtain ⟨q, h1, h2⟩ := h
  exact ⟨q, h1.trans ((List.take_prefix_take_left (l := rs) (Nat.le_succ i)).sublist), h2⟩
theorem PFrom.take {rs : List VRow} {i : Nat} {ps : List PRow} {r : VRow} (h : PFrom rs i ps) (hr : rs[i]? = some r) : PFrom rs (i + 1) (ps ++ [⟨r.key, r.val, r.bs⟩]) := by
  obtain ⟨q, h1, h2⟩ := h
  refine ⟨q ++ [r], ?_, by rw [h2]; simp⟩
  rw [List.take_add_one, hr]
  exact h1.append (List.Sublist.refl _)
theorem PFrom.far {w : World} {base : Nat} {v : Value} {rs : List VRow} (hv : VRows w base v rs) {i : Nat} {ps : List PRow} {r : VRow} (h : PFrom rs i ps) (hr : rs[i]? = some r) : ∀ p ∈ ps, ∀ g, r.val.ownBlock = some g → p.val.ownBlock ≠ some g := fun p hp g hg e => by
  obtain ⟨q, h1, rfl⟩ := h
  obtain ⟨r', hr', rfl⟩ := List.mem_map.1 hp
  have hm := h1.subset hr'
  have hd := hv.dist
  have hlt : i < rs.length := (List.getElem?_eq_some_iff.1 hr).1
  rw [← List.take_append_drop i rs, List.pairwise_append] at hd
  refine hd.2.2 r' hm r ?_ g e hg
  rw [List.drop_eq_getElem_cons hlt, (List.getElem?_eq_some_iff.1 hr).2]
  exact List.mem_cons_self

set_option maxRecDepth 100000 in
set_option maxHeartbeats 8000000 in
theorem puts_is (w : World) (p m N : Nat) (U : Nat → Prop) (ws : List We) (h : SetR w p m U ws N) (hN : N ≤ 1048576) (fr tt : ByteArray) :
    Calls Tryz.prog 93 #[.pointer (some ⟨p, 0, none⟩), .string fr, .string tt] w (PairsPost (putsW ws fr tt) w) := by
  have HW := Lib.hid (writesR _ p m N U ws h hN)
  have hgood := Lib.hid h.good
  have hfew := h.few
  clear h
  obtain ⟨i0, hi0, hz0, hz1, hz3⟩ := info_parts info48
  go_enter Tryz.func93, Tryz.ntmps93
  go_wp2_with fail
  refine HW.out.mono ?_; rintro e w2 ⟨v, rs, rfl, hR, hpl, ho2⟩
  obtain ⟨nk, hnk⟩ : ∃ nk, ws.length = nk := ⟨_, rfl⟩
  have hrl : rs.length = nk := by
    have := congrArg List.length hpl
    rw [List.length_map, List.length_map] at this
    omega
  have hkey : ∀ r ∈ rs, r.key.size ≤ maxLen := fun r hr => by
    have h1 : r.plain ∈ ws.map verW := by rw [← hpl]; exact List.mem_map.2 ⟨r, hr, rfl⟩
    obtain ⟨e, he, h2⟩ := List.mem_map.1 h1
    have h3 : r.key = ⟨e.key.toArray⟩ := (congrArg Prod.fst h2).symm
    rw [h3]
    show e.key.toArray.size ≤ maxLen
    rw [List.size_toArray]
    have := (hgood.out e he).2.1
    unfold maxLen
    omega
  obtain ⟨A, cap, rfl, hRA⟩ := hR.rat hkey
  have HRA := Lib.hid hRA
  have HR := Lib.hid hR
  have HPL := Lib.hid hpl
  have HNK := Lib.hid hnk
  have HRL := Lib.hid hrl
  have HO2 := Lib.hid ho2
  have hs2 := ho2.size
  rw [hnk] at hfew
  rw [hrl]
  clear hR hpl hkey hnk hrl ho2 HW hRA
  go_wp2_with fail
  go_loopw [7, 13] (fun v vi wr => PuRel w.heap.size w2 rs ws fr tt v vi wr) (fun _ vi _ => nk - (intOf vi).toNat)
  case atStart => exact ⟨0, [], by omega, rfl, Only.refl _ _, BRows.nil _ _, fun g hg => by simp [Value.ownBlock] at hg, ⟨[], List.nil_sublist _, rfl⟩, by simp, rfl⟩
  case round =>
    obtain ⟨i, ps, hi, rfl, hO, hP, hg2, hF, hll, hpl⟩ := hrel
    have HO := Lib.hid hO
    have HP := Lib.hid hP
    have HG2 := Lib.hid hg2
    have HF := Lib.hid hF
    have HPP := Lib.hid hpl
    obtain ⟨Aq, cq, rfl⟩ := ownsRow_slice hP.own
    rw [HNK.out] at hi
    clear hO hP hg2 hF hpl
    by_cases hlt : i < nk
    · have hwi : ws[i]? = some (ws[i]'(by rw [HNK.out]; exact hlt)) := List.getElem?_eq_getElem _
      generalize ws[i]'(by rw [HNK.out]; exact hlt) = x at hwi
      have hri : rs[i]? = some (rs[i]'(by rw [HRL.out]; exact hlt)) := List.getElem?_eq_getElem _
      generalize rs[i]'(by rw [HRL.out]; exact hlt) = r at hri
      have hrp : r.plain = verW x := by
        have h1 : (rs.map VRow.plain)[i]? = (ws.map verW)[i]? := by rw [HPL.out]
        rw [List.getElem?_map, List.getElem?_map, hri, hwi] at h1
        exact Option.some.inj h1
      obtain ⟨g, off, Ab, cb, rfl, hg, d0, d1, d2, d3, hval, _, hks⟩ := (HRA.out.keep HO.out) i r hri
      have HTK := Lib.hid (filterMap_take_succ (putKey fr tt) ws i x hwi)
      have HFAR := Lib.hid (HF.out.far HR.out hri)
      have HTAKE := Lib.hid (HF.out.take hri)
      have HRV := Lib.hid ((HR.out.val r (List.mem_of_getElem? hri)))
      have hgx := (hgood.out x (List.mem_of_getElem? hwi))
      clear hwi hri
      obtain ⟨rk, rst, rv, rb, rd⟩ := r
      obtain ⟨xk, xb, xd⟩ := x
      simp only at hval hgx d0 d1 d2 d3 HRV HFAR HTAKE hks
      have e1 : rk = ⟨xk.toArray⟩ ∧ rst = 0 ∧ rb = xb ∧ rd = xd := by
        unfold VRow.plain verW at hrp
        simp only [Prod.mk.injEq, Ver.mk.injEq] at hrp
        exact ⟨hrp.1, hrp.2.1, hrp.2.2.1, hrp.2.2.2⟩
      obtain ⟨rfl, rfl, rfl, rfl⟩ := e1
      subst hval
      clear hrp
      obtain ⟨nb, hnb⟩ : ∃ nb, rb.length = nb := ⟨_, rfl⟩
      have HNB := Lib.hid hnb
      have HNXT := Lib.hid (show ∀ u, Only NoneOf wr u → putKey fr tt ⟨xk, rb, rd⟩ = none → PuRel w.heap.size w2 rs ws fr tt (Value.slice Aq ps.length cq) (.int .i64 ((i : Int) + 1)) u from fun u hu hn =>
        ⟨i + 1, ps, by rw [HNK.out]; omega, by rw [show ((i + 1 : Nat) : Int) = (i : Int) + 1 by omega], HO.out.trans hu, HP.out.keep hu, HG2.out, HF.out.skip, by omega, by rw [HPP.out, HTK.out, hn]; simp⟩)
      rw [hnb] at d2
      have hO1 := Lib.hid ((Only.refl NoneOf wr).alloc (.cells #[.string ⟨xk.toArray⟩, .int .i64 0, .slice Ab nb cb, .bool rd] 47))
      have HB := Lib.hid (Blk.new wr 47 #[.string ⟨xk.toArray⟩, .int .i64 0, .slice Ab nb cb, .bool rd])
      have hzz := HO.out.size
      have skip : putKey fr tt ⟨xk, rb, rd⟩ = none → Hid (PuRel w.heap.size w2 rs ws fr tt (Value.slice Aq ps.length cq) (.int .i64 ((i : Int) + 1)) (wr.alloc (.cells #[.string ⟨xk.toArray⟩, .int .i64 0, .slice Ab nb cb, .bool rd] 47)) ∧ nk - (intOf (.int .i64 ((i : Int) + 1))).toNat < nk - (intOf (.int .i64 (i : Int))).toNat) := fun hn => Lib.hid ⟨HNXT.out _ hO1.out hn, by simp [intOf]; omega⟩
      clear hnb
      cases rd with
      | true =>
        have HSK := skip (by simp [putKey])
        clear skip
        go_wp2_with fail
        exact HSK.out
      | false =>
        cases h1 : Op.bytesLess xk fr.toList with
        | true =>
          have HSK := skip (by simp [putKey, h1])
          clear skip
          go_wp2_with fail
          exact HSK.out
        | false =>
          have hcase : (tt.toList ≠ [] ∧ tt.toList.isEmpty = false ∧ Op.bytesLess xk tt.toList = false) ∨ ((tt.toList = [] ∧ tt.toList.isEmpty = true) ∨ (tt.toList ≠ [] ∧ tt.toList.isEmpty = false ∧ Op.bytesLess xk tt.toList = true)) := by
            by_cases ht : tt.toList = []
            · exact .inr (.inl ⟨ht, by rw [ht]; rfl⟩)
            · cases h2 : Op.bytesLess xk tt.toList
              · exact .inl ⟨ht, List.isEmpty_eq_false_iff.2 ht, rfl⟩
              · exact .inr (.inr ⟨ht, List.isEmpty_eq_false_iff.2 ht, rfl⟩)
          rcases hcase with ⟨h2, h3, h4⟩ | hc'
          · have HSK := skip (by simp [putKey, h1, h2, h4])
            clear skip
            go_wp2_with fail
            exact HSK.out
          · have HPK := Lib.hid (show putKey fr tt ⟨xk, rb, false⟩ = some (⟨xk.toArray⟩, rb) by
              unfold putKey
              rw [if_neg]
              rintro (h | h | ⟨h5, h6⟩)
              · cases h
              · rw [h1] at h; cases h
              · rcases hc' with ⟨h2, _⟩ | ⟨_, _, h4⟩
                · exact h5 h2
                · rw [h6] at h4; cases h4)
            clear skip
            have HPa := Lib.hid ((HP.out.keep hO1.out).keep ((Only.refl NoneOf _).alloc (.cells #[.string ⟨xk.toArray⟩, .slice Ab nb cb] 98)))
            have HVa := Lib.hid (((HRV.out.only HO.out (fun _ _ h => h)).only hO1.out (fun _ _ h => h)).only ((Only.refl NoneOf _).alloc (.cells #[.string ⟨xk.toArray⟩, .slice Ab nb cb] 98)) (fun _ _ h => h))
            have HN := Lib.hid (Blk.new (wr.alloc (.cells #[.string ⟨xk.toArray⟩, .int .i64 0, .slice Ab nb cb, .bool false] 47)) 98 #[.string ⟨xk.toArray⟩, .slice Ab nb cb])
            rcases hc' with ⟨h2, h3⟩ | ⟨h2, h3, h4⟩
            all_goals
              go_wp2_with (at_builtin; refine wpList_append_any rfl (.tmp 36) (.tmp 42) 54 rfl w.heap.size 98 i0 _ 2 40 Tryz.underlying54 hi0 hz0 hz1 hz3 rfl (by decide) (.slice Aq ps.length cq) ps.length (ps.flatMap PRow.cells) rfl HPa.out.own (some ⟨wr.heap.size + 1, 0, none⟩) 1 1 [.string ⟨xk.toArray⟩, .slice Ab nb cb] rfl rfl (fun j' u hj => ⟨wr.heap.size + 1, 0, rfl, by rw [Nat.zero_add]; have := HN.out.cell j'; rw [show (wr.alloc (.cells #[.string ⟨xk.toArray⟩, .int .i64 0, .slice Ab nb cb, .bool false] 47)).heap.size = wr.heap.size + 1 by simp] at this; rw [this]; simpa using hj⟩) (by simp [Value.oneCell']) (by unfold maxLen; omega) (by omega) (by simp; omega) ?_; intro v' w3 hown' ho3 hat; have HOWN := Lib.hid hown'; have HO3 := Lib.hid ho3; have HAT := Lib.hid hat; obtain ⟨Av', cv', rfl⟩ := ownsRow_slice hown'; clear hown' ho3 hat)
              have hsn := BRows.snoc (r := (⟨⟨xk.toArray⟩, .slice Ab rb.length cb, rb⟩ : PRow)) HPa.out HO3.out (by show World.ownsRow w3 w.heap.size 98 2 _ _ (_ ++ [.string ⟨xk.toArray⟩, .slice Ab rb.length cb]); rw [HNB.out]; exact HOWN.out) HAT.out (HVa.out) (fun g hg hb' => by
                rcases hb' with hb' | ⟨q, hq, hb'⟩
                · have := HG2.out g hb'
                  have := (ownsRow_lt HRV.out hg).2
                  omega
                · exact HFAR.out q hq g hg hb')
              refine ⟨⟨i + 1, _, by rw [HNK.out]; omega, by rw [show ((i + 1 : Nat) : Int) = (i : Int) + 1 by omega], ?_, hsn, ?_, HTAKE.out, by simp; omega, ?_⟩, by simp [intOf]; omega⟩
              · exact ((HO.out.trans hO1.out).alloc _).step HO3.out (fun k' hk' e => by have := HG2.out k' e; omega)
              · intro g' hg'
                rcases HAT.out with e | e
                · rw [e] at hg'; exact HG2.out g' hg'
                · rw [e] at hg'; injection hg' with hg'; rw [← hg']; simp; omega
              · rw [List.map_append, HPP.out, HTK.out, HPK.out]
                rfl
    · obtain rfl : i = nk := by omega
      have hpl' := HPP.out
      rw [← HNK.out, List.take_length] at hpl'
      have HPL' := Lib.hid hpl'
      clear hpl' hlt
      go_wp2_with fail
      go_ret
      exact ⟨_, ps, rfl, HP.out, HPL'.out, HO2.out.trans HO.out⟩

end Go.Proofs.YtbhihbhjmmeibaaGreat

/-
  A range over a function whose elements are memory made in each round, where the iterator's own blocks are told by a set that may grow: a contract of iterators, and the caller's law. (As in Iter, IterM.)
-/
namespace Go.Proofs.YtbhihbhjmmeibaaGreat
open Go.RowKit

/-- What an iterator with the blocks Z lets its caller turn. -/
abbrev Rest (Z Kp : Nat → Prop) : Nat → Prop := fun k => ¬ Z k ∧ ¬ Kp k

/-- In the world W a call of the function gf with a loop's round tells elements, one behind the other, till a round says 'no more'. The iterator's own blocks: a set that may grow by new blocks between two rounds. -/
def IterZ {α : Type} (P : Program) (gf : Nat) (lb : Array Value) (Enc : Nat → α → Array Value → World → Prop) (xs : List α) (Kp : Nat → Prop) (W : World) : Prop :=
  ∀ (l : Nat) (J Jx : (Nat → Prop) → List α → World → Prop),
    (∀ Z pre A B, J Z pre A → Only Z A B → J Z pre B) →
    (∀ Z pre A B, Jx Z pre A → Only Z A B → Jx Z pre B) →
    (∀ (Z Z' : Nat → Prop) pre A0 A, J Z pre A0 → Only Z A0 A → (∀ k, Z k → Z' k) → (∀ k, Z' k → Z k ∨ A0.heap.size ≤ k ∧ k < A.heap.size) → J Z' pre A) →
    (∀ (Z : Nat → Prop) B, (∀ k, Z k → W.heap.size ≤ k ∧ k < B.heap.size) → Only NoneOf W B → J Z [] B) →
    (∀ (Z : Nat → Prop) pre x args A0 A, (∀ k, Z k → W.heap.size ≤ k ∧ k < A0.heap.size) → J Z pre A0 → Only NoneOf A0 A → Enc A0.heap.size x args A → pre ++ [x] <+: xs →
      YieldAt Fence.wide 1 P l args A fun e B => (e = .returned (.bool true) ∧ J Z (pre ++ [x]) B ∧ Only (Rest Z Kp) A B) ∨ (e = .returned (.bool false) ∧ Jx Z (pre ++ [x]) B ∧ Only (Rest Z Kp) A B)) →
    CallsIn Fence.wide 1 P gf (#[.func (.yield l) #[] #[]] ++ lb) W fun e B => (∃ v, e = .returned v) ∧ ∃ Z : Nat → Prop, (∀ k, Z k → W.heap.size ≤ k) ∧ (J Z xs B ∨ ∃ pre, pre <+: xs ∧ Jx Z pre B)

theorem IterM.z {α : Type} {P : Program} {gf : Nat} {lb : Array Value} {Enc : Nat → α → Array Value → World → Prop} {xs : List α} {W : World} (h : IterM P gf lb Enc xs NoneOf W) : IterZ P gf lb Enc xs NoneOf W := by
  intro l J Jx hJ hJx hE h0 hY
  have hth : ∀ {E : Nat} {A B : World}, Only (Rest (Ours W.heap.size E) NoneOf) A B → Only (Theirs W.heap.size E NoneOf) A B := fun h => h.mono fun k _ hk => by
    by_cases hlt : k < W.heap.size
    · exact .inl ⟨hlt, fun h => h⟩
    · refine .inr (Nat.le_of_not_lt fun hlt2 => hk.1 ⟨by omega, hlt2⟩)
  refine (h l (fun E pre A => J (Ours W.heap.size E) pre A) (fun E pre A => Jx (Ours W.heap.size E) pre A) (fun E pre A B => hJ _ pre A B) (fun E pre A B => hJx _ pre A B)
    (fun E B _ hEB ho => h0 _ B (fun k hk => ⟨hk.1, by have := hk.2; omega⟩) ho) (fun E pre x args A0 A hE hEA hj ho henc hpre =>
      (hY _ pre x args A0 A (fun k hk => ⟨hk.1, by have := hk.2; omega⟩) hj ho henc hpre).mono ?_)).mono ?_
  · rintro e B (⟨he, h1, h2⟩ | ⟨he, h1, h2⟩)
    · exact .inl ⟨he, h1, hth h2⟩
    · exact .inr ⟨he, h1, hth h2⟩
  · rintro e B ⟨hv, E, hE, h1⟩
    exact ⟨hv, _, fun k hk => hk.1, h1⟩

/-- The iterator's blocks and the loop's own two. -/
abbrev Zw (Z : Nat → Prop) (B : Nat) : Nat → Prop := fun k => Z k ∨ k = B ∨ k = B + 1
/-- How a round may be left. -/
def roundEndsZ {α : Type} (B : Nat) (Z Kp : Nat → Prop) (I : (Nat → Prop) → List α → World → Prop) (Ix : Code → (Nat → Prop) → List α → World → Prop) (xs : List α) (W : World) : Exit → Act → World → Prop
  | .normal, _, W' => Only (Rest (Zw Z B) Kp) W W' ∧ I Z xs W'
  | .ret, _, W' => Only (Rest (Zw Z B) Kp) W W' ∧ Ix .ret Z xs W'
  | .exit id, _, W' => Only (Rest (Zw Z B) Kp) W W' ∧ Ix (.exit id) Z xs W'
  | .goto t, _, W' => Only (Rest (Zw Z B) Kp) W W' ∧ Ix (.goto t) Z xs W'
  | .panic _, _, _ => False
  | .outgrown, _, _ => False

theorem range_ownZ {n : Nat} {P : Program} {α : Type} {g : Operand} {ps : Array Tmp} {assign body : Code} {Q : Exit → Act → World → Prop} {a : Act} {w : World}
    (h1 : 1 ≤ n) {gf : Nat} {lb : Array Value} (hg : a.eval g = .func (.func gf) #[] lb) (eg : ∀ args w, (callFunc gf args).run P w = .ok (.enter gf args) w)
    {Enc : Nat → α → Array Value → World → Prop} {xs : List α} {Kp : Nat → Prop} (hit : ∀ W, Only NoneOf w W → W.heap.size = w.heap.size + 2 → IterZ P gf lb Enc xs Kp W) (hps : ∀ n x args A, Enc n x args A → args.size = ps.size) (hKp : ∀ {k}, w.heap.size ≤ k → ¬ Kp k)
    (I : (Nat → Prop) → List α → World → Prop) (Ix : Code → (Nat → Prop) → List α → World → Prop)
    (hI : ∀ Z pre A B, I Z pre A → Only (Zw Z w.heap.size) A B → I Z pre B) (hIx : ∀ c Z pre A B, Ix c Z pre A → Only (Zw Z w.heap.size) A B → Ix c Z pre B)
    (hE : ∀ (Z Z' : Nat → Prop) pre A0 A, (∀ k, Z k → w.heap.size + 2 ≤ k ∧ k < A0.heap.size) → w.heap.size + 2 ≤ A0.heap.size → I Z pre A0 → Only Z A0 A → (∀ k, Z k → Z' k) → (∀ k, Z' k → Z k ∨ A0.heap.size ≤ k ∧ k < A.heap.size) → I Z' pre A)
    (h0 : ∀ (Z : Nat → Prop) B, (∀ k, Z k → w.heap.size + 2 ≤ k ∧ k < B.heap.size) → w.heap.size + 2 ≤ B.heap.size → Only NoneOf w B → I Z [] B)
    (Ax : Nat → α → Act → World → Prop) (hAx : ∀ n x a' A B, Ax n x a' A → Only (· = w.heap.size + 1) A B → Ax n x a' B)
    (hassign : ∀ (x : α) (args : Array Value) (A0 W : World) (K : Act → World → Prop), x ∈ xs → w.heap.size + 2 ≤ A0.heap.size → (∃ r, W.heap[w.heap.size + 1]? = some (.loop r)) → Only NoneOf A0 W → Enc A0.heap.size x args W → (∀ a' W', Only NoneOf W W' → Ax A0.heap.size x a' W' → K a' W') →
      assign.wpIn (Fence.wide.inRound (w.heap.size + 1)) (n - 1 - 1) P (Exit.then K (fun _ _ _ => False)) { tmps := (ps.zip args).foldl (fun t (p, v) => t.setIfInBounds p v) a.tmps, defers := [] } W)
    (hbody : ∀ (Z : Nat → Prop) (pre : List α) (x : α) (a' : Act) (A0 W : World), (∃ r, W.heap[w.heap.size + 1]? = some (.loop r)) → w.heap.size + 2 ≤ A0.heap.size → (∀ k, Z k → w.heap.size + 2 ≤ k ∧ k < A0.heap.size) → pre ++ [x] <+: xs → I Z pre A0 → Only (Zw Z w.heap.size) A0 W → Ax A0.heap.size x a' W →
      body.wpIn (Fence.wide.inRound (w.heap.size + 1)) (n - 1 - 1) P (roundEndsZ w.heap.size Z Kp I Ix (pre ++ [x]) W) a' W)
    (hdone : ∀ (Z : Nat → Prop) (W : World), (∀ k, Z k → w.heap.size + 2 ≤ k ∧ k < W.heap.size) → w.heap.size + 2 ≤ W.heap.size → I Z xs W → W.heap[w.heap.size]? = some (.deferred (some [])) → Q .normal { a with defers := { target := .collected w.heap.size, args := #[] } :: a.defers } W)
    (hstop : ∀ (Z : Nat → Prop) (c : Code) (pre : List α) (W : World), (∀ k, Z k → w.heap.size + 2 ≤ k) → pre <+: xs → Ix c Z pre W → W.heap[w.heap.size]? = some (.deferred (some [])) →
      c.wpIn Fence.wide n P Q { a with defers := { target := .collected w.heap.size, args := #[] } :: a.defers } W) :
    (Code.rangeFunc g ps assign body).wpIn Fence.wide n P Q a w := by
  refine wpIn_rangeFunc ?_
  intro fn hfn
  rw [show Fence.wide.round = none from rfl]
  obtain ⟨rec, hrec⟩ : ∃ rec : LoopState → Option Code → Loop, rec = fun st pe => { state := st, pending := pe, fn, tmps := a.tmps, params := ps, assign, body, defers := w.heap.size } := ⟨_, rfl⟩
  obtain ⟨W1, hW1⟩ : ∃ W1, (w.alloc (.deferred (some []))).alloc (.loop (rec .ready none)) = W1 := ⟨_, rfl⟩
  have hz : W1.heap.size = w.heap.size + 2 := by rw [← hW1]; simp
  have hO1 : Only NoneOf w W1 := by rw [← hW1]; exact ((Only.refl _ _).alloc _).alloc _
  have hL1 : W1.heap[w.heap.size + 1]? = some (.loop (rec .ready none)) := by
    rw [← hW1]; have := World.alloc_heap_new (w.alloc (.deferred (some []))) (.loop (rec .ready none)); rwa [World.size_alloc] at this
  have hK1 : W1.heap[w.heap.size]? = some (.deferred (some [])) := by
    rw [← hW1]; exact (Below.heap_alloc _ _ _ (by simp)).trans (World.alloc_heap_new w _)
  refine ⟨w.heap.size + 1, [{ target := .collected w.heap.size, args := #[] }], W1, { target := .fn (.func gf) lb, args := #[.func (.yield (w.heap.size + 1)) #[] #[]] }, W1, gf,
    #[.func (.yield (w.heap.size + 1)) #[] #[]] ++ lb, W1, ?_, ?_, ?_, ?_, fun _ => h1, ?_⟩
  · rw [← hW1, hrec]; exact run_enterLoop_outer _ _ _ _ _
  · simp only [resolve, hg]
    simp [go_sem]
  · intro f' hf'; simp [Target.leads] at hf'; subst hf'; exact trivial
  · simp [invoke, go_sem, eg]
  · have own : ∀ {Z : Nat → Prop} {l : Nat} {A : World} (o : Obj), l = w.heap.size ∨ l = w.heap.size + 1 → Only (Zw Z w.heap.size) A (A.putObj l o) := fun o hl => (Only.refl _ _).putObj (.inl (.inr hl)) o
    have rec_keeps : ∀ {Z : Nat → Prop} {A B : World} {k : Nat} {o : Obj}, (∀ k, Z k → W1.heap.size ≤ k) → k < W1.heap.size → A.heap[k]? = some o → Only Z A B → B.heap[k]? = some o := fun hZ hk ho h => by
      have hlt := (Array.getElem?_eq_some_iff.1 ho).1
      exact (h.block _ hlt (fun hh => by have := hZ _ hh; omega)).trans ho
    refine CallsIn.deep (n - 1) ((hit W1 hO1 hz (w.heap.size + 1)
      (fun Z pre W => (∀ k, Z k → W1.heap.size ≤ k ∧ k < W.heap.size) ∧ I Z pre W ∧ W.heap[w.heap.size + 1]? = some (.loop (rec .ready none)) ∧ W.heap[w.heap.size]? = some (.deferred (some [])))
      (fun Z pre W => (∀ k, Z k → W1.heap.size ≤ k) ∧ ∃ c, Ix c Z pre W ∧ W.heap[w.heap.size + 1]? = some (.loop (rec .done (some c))) ∧ W.heap[w.heap.size]? = some (.deferred (some [])))
      (fun Z pre A B hs h => ⟨fun k hk => ⟨(hs.1 k hk).1, Nat.lt_of_lt_of_le (hs.1 k hk).2 h.size⟩, hI Z pre A B hs.2.1 (h.mono fun _ _ hk => .inl hk), rec_keeps (fun k hk => (hs.1 k hk).1) (by omega) hs.2.2.1 h, rec_keeps (fun k hk => (hs.1 k hk).1) (by omega) hs.2.2.2 h⟩)
      (fun Z pre A B hs h => by
        obtain ⟨hE, c, hc, hl, hk⟩ := hs
        exact ⟨hE, c, hIx c Z pre A B hc (h.mono fun _ _ hk => .inl hk), rec_keeps hE (by omega) hl h, rec_keeps hE (by omega) hk h⟩)
      (fun Z Z' pre A0 A hs hO hz1 hz2 => by
        have hlt := (Array.getElem?_eq_some_iff.1 hs.2.2.1).1
        have hZ1 : ∀ k, Z k → W1.heap.size ≤ k := fun k hk => (hs.1 k hk).1
        exact ⟨fun k hk => (hz2 k hk).elim (fun h => ⟨(hs.1 k h).1, Nat.lt_of_lt_of_le (hs.1 k h).2 hO.size⟩) (fun h => ⟨by omega, h.2⟩), hE Z Z' pre A0 A (fun k hk => ⟨by have := (hs.1 k hk).1; omega, (hs.1 k hk).2⟩) (by omega) hs.2.1 hO hz1 hz2, rec_keeps hZ1 (by omega) hs.2.2.1 hO, rec_keeps hZ1 (by omega) hs.2.2.2 hO⟩)
      (fun Z B hZ h => ⟨hZ, h0 Z B (fun k hk => ⟨by have := (hZ k hk).1; omega, (hZ k hk).2⟩) (by have := h.size; omega) (hO1.trans h), (h.block _ (by omega) (fun x => x)).trans hL1, (h.block _ (by omega) (fun x => x)).trans hK1⟩)
      ?_).mono ?_)
    · rintro Z pre x args A0 W hZ ⟨_, hi0, hl0, hk0⟩ hA0 henc hpre
      have hl := (hA0.block _ (Array.getElem?_eq_some_iff.1 hl0).1 (fun x => x)).trans hl0
      have hk := (hA0.block _ (Array.getElem?_eq_some_iff.1 hk0).1 (fun x => x)).trans hk0
      have hi := hI Z pre A0 W hi0 (hA0.mono fun _ _ h => h.elim)
      have hzA := hA0.size
      have hlt0 : w.heap.size + 1 < A0.heap.size := (Array.getElem?_eq_some_iff.1 hl0).1
      have hlt : w.heap.size + 1 < W.heap.size := (Array.getElem?_eq_some_iff.1 hl).1
      have hy := run_yield (P := P) (args := args) hl (by rw [hrec]; exact hps _ x _ _ henc)
      rw [hrec] at hy
      refine YieldAt.deep (m := n - 1 - 1) 1 ⟨fn, _, assign, body, hy, roundIn_of_wpIn hfn (hassign x args A0 W _ (hpre.subset (by simp)) (by omega) ⟨_, hl⟩ hA0 henc ?_)⟩
      clear hy
      intro a' Wa hoa hax
      have hla := (hoa.block _ hlt (fun x => x)).trans hl
      have hka := (hoa.block _ (by omega) (fun x => x)).trans hk
      have hlta : w.heap.size + 1 < Wa.heap.size := (Array.getElem?_eq_some_iff.1 hla).1
      refine ⟨_, run_beginRound hla (by rw [hrec]), ?_⟩
      have hl2 : (Wa.putObj (w.heap.size + 1) (.loop { rec .ready none with state := .busy })).heap[w.heap.size + 1]? = some (.loop { rec .ready none with state := .busy }) := World.putObj_heap_same hlta
      have hk2 : (Wa.putObj (w.heap.size + 1) (.loop { rec .ready none with state := .busy })).heap[w.heap.size]? = some (.deferred (some [])) := (World.putObj_heap_other (by omega)).trans hka
      have hz2 : (Wa.putObj (w.heap.size + 1) (.loop { rec .ready none with state := .busy })).heap.size = Wa.heap.size := by simp
      have hsz := hoa.size
      refine wpIn_mono (hbody Z pre x a' A0 _ ⟨_, hl2⟩ (by omega) (fun k hk => ⟨by have := (hZ k hk).1; omega, (hZ k hk).2⟩) hpre hi0 (Only.putObj ((hA0.trans hoa).mono fun _ _ h => h.elim) (.inl (.inr (.inr rfl))) _) (hAx _ x a' _ _ hax (Only.putObj (S := (· = w.heap.size + 1)) (Only.refl _ _) (.inl rfl) _))) ?_
      have nz0 : ¬ Z w.heap.size := fun h => by have := (hZ _ h).1; omega
      have nz1 : ¬ Z (w.heap.size + 1) := fun h => by have := (hZ _ h).1; omega
      have fin : ∀ (jump : Option Code) (W3 : World), Only (Rest (Zw Z w.heap.size) Kp) (Wa.putObj (w.heap.size + 1) (.loop { rec .ready none with state := .busy })) W3 →
          (Instr.endRound (w.heap.size + 1) jump).run P W3 = .ok (.bool jump.isNone) (W3.putObj (w.heap.size + 1) (.loop (rec (if jump.isNone then .ready else .done) jump))) ∧
          (W3.putObj (w.heap.size + 1) (.loop (rec (if jump.isNone then .ready else .done) jump))).heap[w.heap.size + 1]? = some (.loop (rec (if jump.isNone then .ready else .done) jump)) ∧
          (W3.putObj (w.heap.size + 1) (.loop (rec (if jump.isNone then .ready else .done) jump))).heap[w.heap.size]? = some (.deferred (some [])) ∧
          Only (Rest Z Kp) W (W3.putObj (w.heap.size + 1) (.loop (rec (if jump.isNone then .ready else .done) jump))) := fun jump W3 hk3 => by
        have hl3 := (hk3.block (w.heap.size + 1) (by rw [World.putObj_size]; omega) (fun h => h.1 (.inr (.inr rfl)))).trans hl2
        have hd3 := (hk3.block w.heap.size (by rw [World.putObj_size]; omega) (fun h => h.1 (.inr (.inl rfl)))).trans hk2
        have hr := run_endRound (P := P) jump hl3
        refine ⟨by rw [hrec] at hr ⊢; exact hr, World.putObj_heap_same (Array.getElem?_eq_some_iff.1 hl3).1, (World.putObj_heap_other (by omega)).trans hd3, ?_⟩
        refine Only.putObj ?_ (.inl ⟨nz1, hKp (by omega)⟩) _
        exact Only.step (S' := Rest (Zw Z w.heap.size) Kp) (Only.putObj (hoa.mono fun _ _ h => h.elim) (.inl ⟨nz1, hKp (by omega)⟩) _) hk3 (fun k _ h => ⟨fun hz => h.1 (.inl hz), h.2⟩)
      rintro e a3 W3 hp
      cases e with
      | normal =>
        obtain ⟨hk3, hi3⟩ := hp
        obtain ⟨hr, hl4, hk4, ho4⟩ := fin none W3 hk3
        exact ⟨_, _, hr, .inl ⟨rfl, ⟨fun k hk => ⟨(hZ k hk).1, by have h1 := hk3.size; have h2 := (hZ k hk).2; simp at h1 ⊢; omega⟩, hI Z _ _ _ hi3 (own _ (.inr rfl)), hl4, hk4⟩, ho4⟩⟩
      | ret =>
        obtain ⟨hk3, hi3⟩ := hp
        obtain ⟨hr, hl4, hk4, ho4⟩ := fin (some .ret) W3 hk3
        exact ⟨_, _, hr, .inr ⟨rfl, ⟨fun k hk => (hZ k hk).1, .ret, hIx _ Z _ _ _ hi3 (own _ (.inr rfl)), hl4, hk4⟩, ho4⟩⟩
      | exit id =>
        obtain ⟨hk3, hi3⟩ := hp
        obtain ⟨hr, hl4, hk4, ho4⟩ := fin (some (.exit id)) W3 hk3
        exact ⟨_, _, hr, .inr ⟨rfl, ⟨fun k hk => (hZ k hk).1, .exit id, hIx _ Z _ _ _ hi3 (own _ (.inr rfl)), hl4, hk4⟩, ho4⟩⟩
      | goto t =>
        obtain ⟨hk3, hi3⟩ := hp
        obtain ⟨hr, hl4, hk4, ho4⟩ := fin (some (.goto t)) W3 hk3
        exact ⟨_, _, hr, .inr ⟨rfl, ⟨fun k hk => (hZ k hk).1, .goto t, hIx _ Z _ _ _ hi3 (own _ (.inr rfl)), hl4, hk4⟩, ho4⟩⟩
      | panic ch => exact hp.elim
      | outgrown => exact hp.elim
    · rintro e W2 ⟨⟨v, rfl⟩, Z, hZ, (⟨hb, hi, hl, hk⟩ | ⟨pre, hpre, _, c, hi, hl, hk⟩)⟩
      · exact ⟨none, _, by have := run_endLoop (P := P) hl (by rw [hrec]; simp); rw [hrec] at this; exact this, hdone Z _ (fun k hk => ⟨by have := hZ k hk; omega, by simp; exact (hb k hk).2⟩) (by simp; have := (Array.getElem?_eq_some_iff.1 hl).1; omega) (hI Z _ _ _ hi (own _ (.inr rfl))) ((World.putObj_heap_other (by omega)).trans hk)⟩
      · exact ⟨some c, _, by have := run_endLoop (P := P) hl (by rw [hrec]; simp); rw [hrec] at this; exact this, hstop Z c pre _ (fun k hk => by have := hZ k hk; omega) hpre (hIx c Z _ _ _ hi (own _ (.inr rfl))) ((World.putObj_heap_other (by omega)).trans hk)⟩

end Go.Proofs.YtbhihbhjmmeibaaGreat

/-
  Layer 16: Over's closure that tells the puts below a key.
-/
namespace Go.Proofs.YtbhihbhjmmeibaaGreat
open Go.RowKit Go.Shelf
attribute [local go_sem] Oper.semAt_some

/-- how a pair is told: its value lies in memory -/
def PairE (_ : Nat) (x : ByteArray × List UInt8) (args : Array Value) (w : World) : Prop := ∃ A c, args = #[.agg #[.string x.1, .slice A x.2.length c]] ∧ BytesAt w A x.2

/-- the puts behind the first k of them, in memory: the box bp; the round's box y0 -/
structure AhSt (B E0 l y0 bp : Nat) (ps : List PRow) (v : Value) (g k : Nat) (w : World) : Prop where
  yb : Blk w y0 175 #[.func (.yield l) #[] #[]]
  pb : ∃ A' c', Blk w bp 54 #[.slice A' (ps.length - k) c'] ∧ ps.length - k ≤ c' ∧ (k < ps.length → A' = some ⟨g, k * 2, none⟩)
  rows : PRows w B v ps
  vg : ps ≠ [] → ∃ cap, v = .slice (some ⟨g, 0, none⟩) ps.length cap
  y1 : B ≤ y0 ∧ y0 < E0
  p1 : B ≤ bp ∧ bp < E0
  ne : y0 ≠ bp
  rb : ∀ j, PBlocks v ps j → j < E0 ∧ j ≠ bp
theorem AhSt.only {B E0 l y0 bp : Nat} {ps : List PRow} {v : Value} {g k : Nat} {w w' : World} {S : Nat → Prop} (h : AhSt B E0 l y0 bp ps v g k w) (ho : Only S w w') (hS : ∀ j, B ≤ j → j < E0 → ¬ S j) : AhSt B E0 l y0 bp ps v g k w' := by
  obtain ⟨A', c', h1, h2, h3⟩ := h.pb
  exact ⟨h.yb.only ho (hS _ h.y1.1 h.y1.2), ⟨A', c', h1.only ho (hS _ h.p1.1 h.p1.2), h2, h3⟩, h.rows.only ho (fun j hj => hS j (h.rows.lt hj).1 (h.rb j hj).1), h.vg, h.y1, h.p1, h.ne, h.rb⟩

/-- how long the slice in a box is -/
def lenAt (w : World) (b : Nat) : Nat := match w.cell? ⟨b, 0, none⟩ with
  | some (.slice _ n _) => n
  | _ => 0

theorem lenAt_blk {w : World} {b n c : Nat} {t : TypeId} {A : Option Addr} (h : Blk w b t #[.slice A n c]) : lenAt w b = n := by
  have h0 : w.cell? ⟨b, 0, none⟩ = some (.slice A n c) := h.cellv 0 rfl
  unfold lenAt
  rw [h0]

/-- the puts that a key tells -/
def ahN (c : ByteArray → Bool) (ps : List PRow) (k : Nat) : Nat := ((ps.drop k).takeWhile fun r => c r.key).length

theorem ahN_hit {c : ByteArray → Bool} {ps : List PRow} {k : Nat} {t : Nat} (h : t < ahN c ps k) : ∃ r, ps[k + t]? = some r ∧ c r.key = true := by
  unfold ahN at h
  have h1 : ((ps.drop k).takeWhile fun r => c r.key)[t]? = some (((ps.drop k).takeWhile fun r => c r.key)[t]'h) := List.getElem?_eq_getElem _
  have hp : ((ps.drop k).takeWhile fun r => c r.key) <+: ps.drop k := List.takeWhile_prefix _
  obtain ⟨q, hq⟩ := hp
  have hm := List.getElem_mem h
  refine ⟨((ps.drop k).takeWhile fun r => c r.key)[t]'h, ?_, ?_⟩
  · rw [← List.getElem?_drop]
    have h3 := congrArg (·[t]?) hq
    simp only [List.getElem?_append_left h] at h3
    exact h3.symm.trans h1
  · have h2 := List.all_takeWhile (l := ps.drop k) (p := fun r => c r.key)
    exact List.all_eq_true.1 h2 _ hm
theorem ahN_miss {c : ByteArray → Bool} {ps : List PRow} {k : Nat} {r : PRow} (h : ps[k + ahN c ps k]? = some r) : c r.key = false := by
  unfold ahN at h
  rw [← List.getElem?_drop] at h
  generalize ps.drop k = l at h
  induction l with
  | nil => simp at h
  | cons a l ih =>
    rw [List.takeWhile_cons] at h
    split at h
    · rw [List.length_cons, List.getElem?_cons_succ] at h
      exact ih h
    · rename_i hc
      simp at h
      subst h
      simpa using hc
theorem ahN_le (c : ByteArray → Bool) (ps : List PRow) (k : Nat) : k ≤ ps.length → k + ahN c ps k ≤ ps.length := fun hk => by
  have := (List.takeWhile_prefix (l := ps.drop k) fun r => c r.key).length_le
  unfold ahN
  rw [List.length_drop] at this
  omega

/-- 'key < p.Key' -/
theorem below_is (u : World) (b : Nat) (key pk : ByteArray) (v : Value) (hB : Blk u b 98 #[.string pk, v]) : Calls Tryz.prog 96 #[.string key, .pointer (some ⟨b, 0, none⟩)] u fun e w' => e = .returned (.bool (Op.bytesLess key.toList pk.toList)) ∧ u = w' := by
  have c0 := hB.cellv 0 rfl
  clear hB
  go_enter Tryz.func96, Tryz.ntmps96
  go_wp2_with fail
  go_ret
  exact ⟨rfl, rfl⟩
theorem always_is (u : World) (key : ByteArray) : Calls Tryz.prog 97 #[.string key] u fun e w' => e = .returned (.bool true) ∧ u = w' := by
  go_enter Tryz.func97, Tryz.ntmps97
  go_wp2_with fail
  go_ret
  exact ⟨rfl, rfl⟩

/-- what a call of yield asks, while the iterator's blocks are Z -/
def YieldsZ (Kp : Nat → Prop) (l : Nat) (B : Nat) (L : List (ByteArray × List UInt8)) (J Jx : (Nat → Prop) → List (ByteArray × List UInt8) → World → Prop) : Prop :=
  ∀ (Z : Nat → Prop) pre x args A0 A, (∀ k, Z k → B ≤ k ∧ k < A0.heap.size) → J Z pre A0 → Only NoneOf A0 A → PairE A0.heap.size x args A → pre ++ [x] <+: L →
      YieldAt Fence.wide 1 Tryz.prog l args A fun e B' => (e = .returned (.bool true) ∧ J Z (pre ++ [x]) B' ∧ Only (Rest Z Kp) A B') ∨ (e = .returned (.bool false) ∧ Jx Z (pre ++ [x]) B' ∧ Only (Rest Z Kp) A B')

def AhPost (Kp : Nat → Prop) (B E0 l y0 bp : Nat) (ps : List PRow) (v : Value) (g k n : Nat) (L told : List (ByteArray × List UInt8)) (J Jx : (Nat → Prop) → List (ByteArray × List UInt8) → World → Prop) (Z : Nat → Prop) (w : World) (e : Ending) (w' : World) : Prop :=
  Only (fun j => j = bp ∨ Rest Z Kp j) w w' ∧ ((e = .returned (.bool true) ∧ AhSt B E0 l y0 bp ps v g (k + n) w' ∧ J Z (told ++ ((ps.drop k).take n).map PRow.plain) w') ∨ (e = .returned (.bool false) ∧ ∃ pre, pre <+: L ∧ Jx Z pre w'))

def AhRel (Kp : Nat → Prop) (B E0 l y0 bp : Nat) (ps : List PRow) (v : Value) (g k n : Nat) (told : List (ByteArray × List UInt8)) (J : (Nat → Prop) → List (ByteArray × List UInt8) → World → Prop) (Z : Nat → Prop) (w wr : World) : Prop :=
  ∃ t, t ≤ n ∧ AhSt B E0 l y0 bp ps v g (k + t) wr ∧ J Z (told ++ ((ps.drop k).take t).map PRow.plain) wr ∧ Only (fun j => j = bp ∨ Rest Z Kp j) w wr

set_option maxRecDepth 100000 in
set_option maxHeartbeats 4000000 in
theorem ahead_is {Kp : Nat → Prop} (B E0 l y0 bp : Nat) (ps : List PRow) (v : Value) (g : Nat) (L : List (ByteArray × List UInt8)) (J Jx : (Nat → Prop) → List (ByteArray × List UInt8) → World → Prop)
    (hJ : ∀ Z pre A B, J Z pre A → Only Z A B → J Z pre B) (hY : YieldsZ Kp l B L J Jx)
    (f : Nat) (caps : Array Value) (eg : ∀ args w, (callFunc f args).run Tryz.prog w = .ok (.enter f args) w) (c : ByteArray → Bool) (Hold : World → Prop) (Z : Nat → Prop)
    (hf : ∀ u key, Hold u → Calls Tryz.prog f (#[.string key] ++ caps) u fun e w' => e = .returned (.bool (c key)) ∧ u = w') (hHold : ∀ u u', Hold u → Only (fun j => j = bp ∨ Rest Z Kp j) u u' → Hold u')
    (hZ : ∀ j, B ≤ j → j < E0 → Z j) (hZB : ∀ j, Z j → B ≤ j) (k : Nat) (told : List (ByteArray × List UInt8)) (w : World) (hZw : ∀ j, Z j → j < w.heap.size) (hk : k ≤ ps.length)
    (hS : AhSt B E0 l y0 bp ps v g k w) (hJ0 : J Z told w) (hH0 : Hold w) (hL : told ++ ((ps.drop k).take (ahN c ps k)).map PRow.plain <+: L) :
    CallsIn Fence.wide 1 Tryz.prog 95 #[.func (.func f) #[] caps, .pointer (some ⟨bp, 0, none⟩), .pointer (some ⟨y0, 0, none⟩)] w (AhPost Kp B E0 l y0 bp ps v g k (ahN c ps k) L told J Jx Z w) := by
  obtain ⟨n, hn⟩ : ∃ n, ahN c ps k = n := ⟨_, rfl⟩
  have hle := ahN_le c ps k hk
  have HHIT := Lib.hid (fun t => @ahN_hit c ps k t)
  have HMISS := Lib.hid (fun r => @ahN_miss c ps k r)
  rw [hn] at hle hL HHIT HMISS ⊢
  have HJ := Lib.hid hJ
  have HY := Lib.hid hY
  have HF := Lib.hid hf
  have HH := Lib.hid hHold
  have HZ := Lib.hid hZ
  have HZB := Lib.hid hZB
  have HZW := Lib.hid hZw
  have HS := Lib.hid hS
  have HJ0 := Lib.hid hJ0
  have HH0 := Lib.hid hH0
  have HL := Lib.hid hL
  clear hJ hY hf hHold hZ hZB hZw hS hJ0 hH0 hL hn
  refine callsIn_of_wp Tryz.func95 rfl trivial ?_ rfl
  simp only [Tryz.ntmps95, List.size_toArray, List.length_cons, List.length_nil, Nat.reduceAdd, Nat.reduceSub, Array.replicate_succ, Array.replicate_zero, List.push_toArray, List.append_toArray, List.nil_append, List.cons_append]
  gi_wp2_with fail
  gi_loopw [] (fun wr => AhRel Kp B E0 l y0 bp ps v g k n told J Z w wr) (fun wr => lenAt wr bp)
  case atStart => exact ⟨0, by omega, HS.out, by simpa using HJ0.out, Only.refl _ _⟩
  case round =>
    obtain ⟨t, ht, hS, hJt, hO⟩ := hrel
    obtain ⟨A', c', hbx, hcc, hadd⟩ := hS.pb
    have x0 := hbx.cellv 0 rfl
    have x1 := hbx.free 0
    have y0c := hS.yb.cellv 0 rfl
    have HS := Lib.hid hS
    have HJt := Lib.hid hJt
    have HO := Lib.hid hO
    have HBX := Lib.hid hbx
    have hbl := hbx.lt
    have hlen0 := lenAt_blk hbx
    by_cases hlt : k + t < ps.length
    · obtain rfl := hadd hlt
      have hr : ps[k + t]? = some (ps[k + t]'hlt) := List.getElem?_eq_getElem _
      generalize ps[k + t]'hlt = r at hr
      obtain ⟨capv, hvv⟩ := hS.vg (fun e => by rw [e] at hlt; simp at hlt)
      obtain ⟨A2, cap2, hv2, hat⟩ := prows_pat hS.rows
      rw [hvv] at hv2
      injection hv2 with q1 _ _
      obtain ⟨g', off', Ab, cb, hA2, hgw, d0, d1, hval⟩ := hat (k + t) r hr
      rw [← q1] at hA2
      injection hA2 with hA2
      injection hA2 with q2 q3 _
      subst q2; subst q3
      have hrm := List.mem_of_getElem? hr
      have hrow := hS.rows.vals r hrm
      have hrb := fun gg hg => (hS.rb gg (.inr ⟨r, hrm, hg⟩)).2
      obtain ⟨rk, rv, rb⟩ := r
      simp only at d0 d1 hval hrow hrb
      subst hval
      rw [Nat.zero_add] at d0 d1
      have HBY := Lib.hid hrow.place.1
      have HPLC := Lib.hid hrow.place.2
      obtain ⟨nl, hnl⟩ : ∃ nl, ps.length - (k + t) = nl + 1 := ⟨ps.length - (k + t) - 1, by omega⟩
      rw [hnl] at x0 hbx hcc HBX hlen0
      have hgne : g ≠ bp := by
        have := (hS.rb g (.inl (by rw [hvv]; rfl))).2
        exact this
      have HNL := Lib.hid hnl
      obtain ⟨o, ho⟩ : ∃ o, (k + t) * 2 = o := ⟨_, rfl⟩
      rw [ho] at x0 d0 d1 hbx HBX
      have HOO := Lib.hid ho
      obtain ⟨nb, hnb⟩ : ∃ nb, rb.length = nb := ⟨_, rfl⟩
      have HNB := Lib.hid hnb
      rw [hnb] at d1
      have HR := Lib.hid hr
      have hpos : decide (0 < (nl : Int) + 1) = true := decide_eq_true (by omega)
      have HHf := Lib.hid (HH.out w wr HH0.out hO)
      have HFr := Lib.hid (HF.out wr rk HHf.out)
      clear hS hJt hO hat hadd q1 hvv hr hrow hbx hrm
      by_cases htn : t < n
      · have hc : c rk = true := by
          obtain ⟨r2, h1, h2⟩ := HHIT.out t htn
          rw [HR.out] at h1
          injection h1 with h1
          subst h1
          exact h2
        rw [hc] at HFr
        clear hc
        gi_wp2_with fail
        refine ⟨trivial, (callsIn_wide.2 HFr.out).mono ?_⟩
        rintro e u1 ⟨rfl, rfl⟩
        have HTL := Lib.hid (show (ps.drop k).take (t + 1) = (ps.drop k).take t ++ [⟨rk, .slice Ab rb.length cb, rb⟩] by
          rw [List.take_add_one, List.getElem?_drop, HR.out]
          rfl)
        have hpre : (told ++ ((ps.drop k).take t).map PRow.plain) ++ [(rk, rb)] <+: L := by
          refine List.IsPrefix.trans ?_ HL.out
          have h1 : (ps.drop k).take (t + 1) <+: (ps.drop k).take n := List.take_prefix_take_left (by omega)
          have h2 := h1.map PRow.plain
          rw [HTL.out, List.map_append] at h2
          rw [List.append_assoc]
          exact (List.prefix_append_right_inj _).2 h2
        have HPRE := Lib.hid hpre
        obtain ⟨A3, hA3⟩ : ∃ A3 : Option Addr, (if c' = 1 then some ⟨g, o, none⟩ else some ⟨g, o + 2, none⟩) = A3 := ⟨_, rfl⟩
        have HA3 := Lib.hid hA3
        have hzA : ∀ j, Z j → B ≤ j ∧ j < wr.heap.size := fun j hj => ⟨HZB.out j hj, Nat.lt_of_lt_of_le (HZW.out j hj) HO.out.size⟩
        have hzbp : Z bp := HZ.out bp HS.out.p1.1 HS.out.p1.2
        -- the world at the call of yield
        obtain ⟨W3, hW3⟩ : ∃ W3, (wr.setCell ⟨bp, 0, none⟩ (.slice A3 nl (c' - 1))).alloc (.cells #[.string rk, .slice Ab nb cb] 98) = W3 := ⟨_, rfl⟩
        have hO3 : Only (· = bp) wr W3 := by rw [← hW3]; exact ((Only.refl (· = bp) wr).put (.inl rfl) _).alloc _
        have hs3 := hO3.size
        have hY3 := YieldAt.deep (1 - 1) (HY.out Z (told ++ ((ps.drop k).take t).map PRow.plain) (rk, rb) #[.agg #[.string rk, .slice Ab rb.length cb]] W3 W3 (fun j hj => ⟨(hzA j hj).1, Nat.lt_of_lt_of_le (hzA j hj).2 hs3⟩) (HJ.out Z _ wr W3 HJt.out (hO3.mono fun j _ hj => by rw [hj]; exact hzbp)) (Only.refl _ _) ⟨Ab, cb, rfl, HBY.out.turn hO3 (fun _ gg off hA e => by
          have := hrb gg (by rw [hA]; rfl)
          exact this e)⟩ hpre)
        obtain ⟨fn, tmps, assign, body, hy, hYR⟩ := hY3
        rw [HNB.out] at hy
        have HRR := Lib.hid hYR
        have HW3 := Lib.hid hW3
        have HO3 := Lib.hid hO3
        clear hYR hpre hA3 hzA hO3
        rw [← hW3] at hy
        clear hW3
        have hq1 : (1 : Int) ≤ (nl : Int) + 1 := by omega
        have hne1 : ¬ y0 = bp := HS.out.ne
        have hne2 : ¬ bp = y0 := fun e => HS.out.ne e.symm
        have hyl := HS.out.yb.lt
        have HST := Lib.hid (show AhSt B E0 l y0 bp ps v g (k + (t + 1)) W3 by
          have hS := HS.out
          refine ⟨hS.yb.only HO3.out hS.ne, ⟨A3, c' - 1, ?_, ?_, ?_⟩, hS.rows.only HO3.out (fun j hj => (hS.rb j hj).2), hS.vg, hS.y1, hS.p1, hS.ne, hS.rb⟩
          · rw [← HW3.out, show ps.length - (k + (t + 1)) = nl by omega]
            exact (HBX.out.put 0 _).alloc _
          · omega
          · intro h2
            have : c' ≠ 1 := by omega
            rw [← HA3.out, if_neg this, ← HOO.out, show (k + (t + 1)) * 2 = (k + t) * 2 + 2 by omega])
        have HTT := Lib.hid (show told ++ ((ps.drop k).take (t + 1)).map PRow.plain = (told ++ ((ps.drop k).take t).map PRow.plain) ++ [(rk, rb)] by
          rw [HTL.out, List.map_append, List.append_assoc]
          rfl)
        have hrest : ∀ {X Y : World}, Only (Rest Z Kp) X Y → Only (fun j => j = bp ∨ Rest Z Kp j) X Y := fun h => h.mono fun j _ hj => .inr hj
        have HOT := Lib.hid (fun (B' : World) (h : Only (Rest Z Kp) W3 B') => (HO.out.trans (HO3.out.mono fun j _ hj => .inl hj)).trans (hrest h))
        have HSB := Lib.hid (fun (B' : World) (h : Only (Rest Z Kp) W3 B') => HST.out.only h (fun j h1 h2 hj => hj.1 (HZ.out j h1 h2)))
        have FIN1 := Lib.hid (show ∀ B', J Z ((told ++ ((ps.drop k).take t).map PRow.plain) ++ [(rk, rb)]) B' → Only (Rest Z Kp) W3 B' → AhRel Kp B E0 l y0 bp ps v g k n told J Z w B' ∧ lenAt B' bp < lenAt wr bp from fun B' h1 h2 => by
          refine ⟨⟨t + 1, by omega, HSB.out B' h2, by rw [HTT.out]; exact h1, HOT.out B' h2⟩, ?_⟩
          obtain ⟨A4, c4, hb4, _⟩ := (HSB.out B' h2).pb
          rw [lenAt_blk hb4, hlen0]
          omega)
        have FIN2 := Lib.hid (show ∀ B', Jx Z ((told ++ ((ps.drop k).take t).map PRow.plain) ++ [(rk, rb)]) B' → Only (Rest Z Kp) W3 B' → AhPost Kp B E0 l y0 bp ps v g k n L told J Jx Z w (.returned (.bool false)) B' from fun B' h1 h2 =>
          ⟨HOT.out B' h2, .inr ⟨rfl, _, HPRE.out, h1⟩⟩)
        clear hrest hlen0 hcc
        by_cases hc1 : c' = 1
        · rw [if_pos hc1] at HA3
          obtain rfl := HA3.out
          subst hc1
          rw [show (1 : Nat) - 1 = 0 from rfl] at hy HW3
          gi_wp2
          rw [HW3.out]
          refine HRR.out.mono ?_
          rintro e B' (⟨rfl, hJ3, ho3⟩ | ⟨rfl, hJx3, ho3⟩)
          · have HE := Lib.hid (FIN1.out B' hJ3 ho3)
            clear hJ3 ho3 hy
            gi_wp2
            go_roundw
            case rel => exact HE.out.1
            case measure => exact HE.out.2
          · have HE := Lib.hid (FIN2.out B' hJx3 ho3)
            clear hJx3 ho3 hy
            gi_wp2
            refine bodyPost_ret (results_tmp rfl _ _ _) rfl ?_
            exact HE.out
        · rw [if_neg hc1] at HA3
          obtain rfl := HA3.out
          gi_wp2
          rw [HW3.out]
          refine HRR.out.mono ?_
          rintro e B' (⟨rfl, hJ3, ho3⟩ | ⟨rfl, hJx3, ho3⟩)
          · have HE := Lib.hid (FIN1.out B' hJ3 ho3)
            clear hJ3 ho3 hy
            gi_wp2
            go_roundw
            case rel => exact HE.out.1
            case measure => exact HE.out.2
          · have HE := Lib.hid (FIN2.out B' hJx3 ho3)
            clear hJx3 ho3 hy
            gi_wp2
            refine bodyPost_ret (results_tmp rfl _ _ _) rfl ?_
            exact HE.out
      · obtain rfl : t = n := by omega
        have hc : c rk = false := HMISS.out _ HR.out
        rw [hc] at HFr
        have HE := Lib.hid (show AhPost Kp B E0 l y0 bp ps v g k t L told J Jx Z w (.returned (.bool true)) wr from ⟨HO.out, .inl ⟨rfl, HS.out, HJt.out⟩⟩)
        clear hc
        gi_wp2_with fail
        refine ⟨trivial, (callsIn_wide.2 HFr.out).mono ?_⟩
        rintro e u1 ⟨rfl, rfl⟩
        gi_wp2_with fail
        go_ret
        exact HE.out
    · obtain rfl : t = n := by omega
      have HE := Lib.hid (show AhPost Kp B E0 l y0 bp ps v g k t L told J Jx Z w (.returned (.bool true)) wr from ⟨HO.out, .inl ⟨rfl, HS.out, HJt.out⟩⟩)
      rw [show ps.length - (k + t) = 0 by omega] at x0
      clear hS hJt hO hbx hadd
      gi_wp2_with fail
      refine ⟨fun _ h => (by cases h), ?_⟩
      gi_wp2_with fail
      go_ret
      exact HE.out

end Go.Proofs.YtbhihbhjmmeibaaGreat

