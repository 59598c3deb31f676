/-
  Texts of this proof, laid together: SL, S12, Iter, InRound, S14, S15, HeadIn, IterM, S16, S17, S18, S19, S20, SLW, S3o.
-/
import Derived.Shelf.SlIter.Nil
import Derived.Shelf.SortM.Plain
import Derived.Shelf.SortM.SortNone
import Derived.Ground.GgzProg
import Derived.Ground.SlgmProg
import Derived.Test.YtbhihbhjmmeibaaGreatM1
import Derived.RangeFuncNested
import Derived.RangeFuncBound
import Derived.RangeFuncCalls
import Derived.RangeFuncLeaves
import Derived.TacticsInMore
import Derived.OrdersIn
import Derived.Sort.LoopGhostIn
import Derived.Maps.AppendAt
import Derived.Maps.OwnIn
import Derived.Sort.KeysCollected
/-
  Layer 14: slices.Sorted(maps.Keys(m)) at the seat's numbers: the library's contracts, laid.
-/
namespace Go.Proofs
open Go.Shelf
def Tryz.keys67_ren : Go.Shelf.Ren := ⟨fun | 7 => 158 | 10 => 161 | n => n, fun | 23 => 126 | 26 => 9 | 3 => 131 | 28 => 157 | 0 => 0 | 27 => 156 | 33 => 144 | 4 => 4 | n => n, fun | n => n⟩
theorem Tryz.keys67 : Go.Proofs.SlLaysZ.n7 Tryz.prog Tryz.keys67_ren := {
  mixed := by kernel_rfl
  f7 := ⟨Tryz.f158.name, by decide, Tryz.func158.trans (congrArg some (by kernel_rfl))⟩
  f10 := ⟨Tryz.f161.name, by decide, Tryz.func161.trans (congrArg some (by kernel_rfl))⟩
  t0 := Tryz.underlying0
  a0 := Tryz.isAgg0
  z0 := Tryz.sizeOf0
  v0 := Tryz.zeroValue0
  t4 := Tryz.underlying4
  a4 := Tryz.isAgg4
  z4 := Tryz.sizeOf4
  v4 := Tryz.zeroValue4
  t23 := Tryz.underlying126
  a23 := Tryz.isAgg126
  z23 := Tryz.sizeOf126
  v23 := Tryz.zeroValue126
  t26 := Tryz.underlying9
  a26 := Tryz.isAgg9
  z26 := Tryz.sizeOf9
  v26 := Tryz.zeroValue9
  t27 := Tryz.underlying156
  a27 := Tryz.isAgg156
  z27 := Tryz.sizeOf156
  v27 := Tryz.zeroValue156
  t28 := Tryz.underlying157
  a28 := Tryz.isAgg157
  z28 := Tryz.sizeOf157
  v28 := Tryz.zeroValue157
  t33 := Tryz.underlying144
  a33 := Tryz.isAgg144
  z33 := Tryz.sizeOf144
  v33 := Tryz.zeroValue144 }
def Tryz.sorted66_ren : Go.Shelf.Ren := ⟨fun | 6 => 72 | 8 => 98 | 9 => 99 | 11 => 110 | 13 => 112 | 12 => 111 | 23 => 124 | 24 => 125 | 14 => 115 | 15 => 116 | 16 => 117 | 17 => 118 | 18 => 119 | 19 => 120 | 20 => 121 | 21 => 122 | 22 => 123 | 25 => 126 | 26 => 127 | 27 => 128 | 28 => 129 | 29 => 130 | 30 => 131 | 31 => 132 | n => n, fun | 26 => 9 | 28 => 157 | 24 => 154 | 0 => 0 | 3 => 3 | 37 => 191 | 48 => 202 | 50 => 204 | 4 => 4 | 40 => 195 | 39 => 194 | 45 => 180 | 5 => 5 | 9 => 9 | 51 => 205 | 55 => 209 | 57 => 211 | 58 => 212 | 33 => 144 | n => n, fun | n => n⟩
theorem Tryz.sorted66 : Go.Proofs.SlLaysZ.n6 Tryz.prog Tryz.sorted66_ren := {
  mixed := by kernel_rfl
  f6 := ⟨Tryz.f72.name, by decide, Tryz.func72.trans (congrArg some (by kernel_rfl))⟩
  f8 := ⟨Tryz.f98.name, by decide, Tryz.func98.trans (congrArg some (by kernel_rfl))⟩
  f11 := ⟨Tryz.f110.name, by decide, Tryz.func110.trans (congrArg some (by kernel_rfl))⟩
  t0 := Tryz.underlying0
  a0 := Tryz.isAgg0
  z0 := Tryz.sizeOf0
  v0 := Tryz.zeroValue0
  t24 := Tryz.underlying154
  a24 := Tryz.isAgg154
  z24 := Tryz.sizeOf154
  v24 := Tryz.zeroValue154
  t26 := Tryz.underlying9
  a26 := Tryz.isAgg9
  z26 := Tryz.sizeOf9
  v26 := Tryz.zeroValue9
  t28 := Tryz.underlying157
  a28 := Tryz.isAgg157
  z28 := Tryz.sizeOf157
  v28 := Tryz.zeroValue157
  i26 := by kernel_rfl }
def Tryz.sort27_ren : Go.Shelf.Ren := ⟨fun | 6 => 99 | 8 => 112 | 9 => 111 | 19 => 124 | 20 => 125 | 21 => 115 | 22 => 116 | 23 => 117 | 24 => 118 | 25 => 119 | 26 => 120 | 27 => 121 | 28 => 122 | 29 => 123 | 36 => 126 | 31 => 127 | 32 => 128 | 37 => 129 | 38 => 130 | 39 => 131 | 41 => 132 | n => n, fun | 27 => 154 | 29 => 9 | 3 => 3 | 32 => 191 | 26 => 154 | 0 => 0 | 44 => 202 | 46 => 204 | 4 => 4 | 36 => 195 | 35 => 194 | 41 => 180 | 5 => 5 | 9 => 9 | 53 => 205 | 57 => 209 | 63 => 211 | 64 => 212 | n => n, fun | n => n⟩
theorem Tryz.sort27 : Go.Proofs.SlLaysM.n6 Tryz.prog Tryz.sort27_ren := {
  mixed := by kernel_rfl
  f6 := ⟨Tryz.f99.name, by decide, Tryz.func99.trans (congrArg some (by kernel_rfl))⟩
  f8 := Tryz.func112.trans (congrArg some (by kernel_rfl))
  f9 := ⟨Tryz.f111.name, by decide, Tryz.func111.trans (congrArg some (by kernel_rfl))⟩
  f19 := Tryz.func124.trans (congrArg some (by kernel_rfl))
  f20 := Tryz.func125.trans (congrArg some (by kernel_rfl))
  f21 := ⟨Tryz.f115.name, by decide, Tryz.func115.trans (congrArg some (by kernel_rfl))⟩
  f22 := ⟨Tryz.f116.name, by decide, Tryz.func116.trans (congrArg some (by kernel_rfl))⟩
  f23 := ⟨Tryz.f117.name, by decide, Tryz.func117.trans (congrArg some (by kernel_rfl))⟩
  f24 := ⟨Tryz.f118.name, by decide, Tryz.func118.trans (congrArg some (by kernel_rfl))⟩
  f25 := ⟨Tryz.f119.name, by decide, Tryz.func119.trans (congrArg some (by kernel_rfl))⟩
  f26 := ⟨Tryz.f120.name, by decide, Tryz.func120.trans (congrArg some (by kernel_rfl))⟩
  f27 := ⟨Tryz.f121.name, by decide, Tryz.func121.trans (congrArg some (by kernel_rfl))⟩
  f28 := ⟨Tryz.f122.name, by decide, Tryz.func122.trans (congrArg some (by kernel_rfl))⟩
  f29 := ⟨Tryz.f123.name, by decide, Tryz.func123.trans (congrArg some (by kernel_rfl))⟩
  f31 := Tryz.func127.trans (congrArg some (by kernel_rfl))
  f32 := Tryz.func128.trans (congrArg some (by kernel_rfl))
  f36 := ⟨Tryz.f126.name, by decide, Tryz.func126.trans (congrArg some (by kernel_rfl))⟩
  f37 := ⟨Tryz.f129.name, by decide, Tryz.func129.trans (congrArg some (by kernel_rfl))⟩
  f38 := ⟨Tryz.f130.name, by decide, Tryz.func130.trans (congrArg some (by kernel_rfl))⟩
  f39 := ⟨Tryz.f131.name, by decide, Tryz.func131.trans (congrArg some (by kernel_rfl))⟩
  f41 := ⟨Tryz.f132.name, by decide, Tryz.func132.trans (congrArg some (by kernel_rfl))⟩
  t0 := Tryz.underlying0
  a0 := Tryz.isAgg0
  z0 := Tryz.sizeOf0
  v0 := Tryz.zeroValue0
  t3 := Tryz.underlying3
  a3 := Tryz.isAgg3
  z3 := Tryz.sizeOf3
  v3 := Tryz.zeroValue3
  t4 := Tryz.underlying4
  a4 := Tryz.isAgg4
  z4 := Tryz.sizeOf4
  v4 := Tryz.zeroValue4
  t5 := Tryz.underlying5
  a5 := Tryz.isAgg5
  z5 := Tryz.sizeOf5
  v5 := Tryz.zeroValue5
  t9 := Tryz.underlying9
  a9 := Tryz.isAgg9
  z9 := Tryz.sizeOf9
  v9 := Tryz.zeroValue9
  t26 := Tryz.underlying154
  a26 := Tryz.isAgg154
  z26 := Tryz.sizeOf154
  v26 := Tryz.zeroValue154
  t27 := Tryz.underlying154
  a27 := Tryz.isAgg154
  z27 := Tryz.sizeOf154
  v27 := Tryz.zeroValue154
  t29 := Tryz.underlying9
  a29 := Tryz.isAgg9
  z29 := Tryz.sizeOf9
  v29 := Tryz.zeroValue9
  t32 := Tryz.underlying191
  a32 := Tryz.isAgg191
  z32 := Tryz.sizeOf191
  v32 := Tryz.zeroValue191
  t35 := Tryz.underlying194
  a35 := Tryz.isAgg194
  z35 := Tryz.sizeOf194
  v35 := Tryz.zeroValue194
  t36 := Tryz.underlying195
  a36 := Tryz.isAgg195
  z36 := Tryz.sizeOf195
  v36 := Tryz.zeroValue195
  t41 := Tryz.underlying180
  a41 := Tryz.isAgg180
  z41 := Tryz.sizeOf180
  v41 := Tryz.zeroValue180
  t44 := Tryz.underlying202
  a44 := Tryz.isAgg202
  z44 := Tryz.sizeOf202
  v44 := Tryz.zeroValue202
  t46 := Tryz.underlying204
  a46 := Tryz.isAgg204
  z46 := Tryz.sizeOf204
  v46 := Tryz.zeroValue204
  t53 := Tryz.underlying205
  a53 := Tryz.isAgg205
  z53 := Tryz.sizeOf205
  v53 := Tryz.zeroValue205
  t57 := Tryz.underlying209
  a57 := Tryz.isAgg209
  z57 := Tryz.sizeOf209
  v57 := Tryz.zeroValue209
  t63 := Tryz.underlying211
  a63 := Tryz.isAgg211
  z63 := Tryz.sizeOf211
  v63 := Tryz.zeroValue211
  t64 := Tryz.underlying212
  a64 := Tryz.isAgg212
  z64 := Tryz.sizeOf212
  v64 := Tryz.zeroValue212 }
open Go.RowKit Go.Maps Go.Sort

/-- slices.Sort's two contracts at this dump, at the fence that asks nothing. -/
theorem Tryz.sorts66 (m : Nat) : AnyZ.SortsIn Tryz.prog Tryz.sorted66_ren Fence.wide m :=
  ⟨fun blk off cap ss W hH hblk hsz => callsIn_wide.2 (AnyM.slices_Sort_string Tryz.sort27 blk off cap ss W hH hblk hsz),
   fun p cap W => callsIn_wide.2 (AnyM.slices_Sort_string_none Tryz.sort27 p cap W)⟩

/-- **maps.Keys[map[string]*cloister/chain.Chain[[]byte],string,*cloister/chain.Chain[[]byte]], at whatever map, the nil one too:** a function value over ONE NEW BLOCK, which holds the map. -/
theorem Tryz.maps_Keys_67 (mb : Option Nat) (W : World) : CallsIn Fence.wide 5 Tryz.prog 158 #[.map mb] W fun e w' => e = .returned (.func (.func 161) #[] #[.pointer (some ⟨W.heap.size, 0, none⟩)]) ∧ w' = W.alloc (.cells #[.map mb] 126) :=
  AnyZ.keys_in Tryz.keys67 Fence.wide 5 trivial rfl mb W

set_option maxHeartbeats 1000000 in
/-- **slices.Sorted[string] AT WHAT maps.Keys[map[string]*cloister/chain.Chain[[]byte],string,*cloister/chain.Chain[[]byte]] HANDED BACK FOR A MAP THAT IS NOT nil** ('w': the world AHEAD of maps.Keys' call): A NEW SLICE THAT HOLDS THE MAP's KEYS, SORTED; nil just where it has none; nothing that lay before has turned. -/
theorem Tryz.slices_Sorted_keys_66_67 {H : Type} (b nn : Nat) (D0 : DataW H) (R : Value → Option (DataW H × List MemPlace)) (w : World) (hown : w.ownsMap Tryz.prog 9 R b nn D0) (hmax : Maps.size D0 ≤ maxLen) (hbytes : Maps.size D0 * 16 ≤ 140737488355328) :
    CallsIn Fence.wide 5 Tryz.prog 72 #[.func (.func 161) #[] #[.pointer (some ⟨w.heap.size, 0, none⟩)]] (w.alloc (.cells #[.map (some b)] 126)) fun e w' => ∃ (v : Value) (ss : List (List UInt8)), e = .returned v ∧ ss.Perm (strKeys D0) ∧
      w'.ownsRow (w.alloc (.cells #[.map (some b)] 126)).heap.size 9 1 v ss.length ((ss.mergeSort (fun x y => decide (x ≤ y))).map encStr) ∧ (v = .slice none 0 0 ↔ ss = []) ∧ Below (w.alloc (.cells #[.map (some b)] 126)).heap.size (w.alloc (.cells #[.map (some b)] 126)) w' := by
  have hbl := hown.lt
  have hseq : SeqGives Fence.wide 2 Tryz.prog 161 #[.pointer (some ⟨w.heap.size, 0, none⟩)] encStr (fun ss => ss.Perm (strKeys D0)) (Maps.size D0) (w.alloc (.cells #[.map (some b)] 126)) :=
    AnyZ.keys_gives (ρ := Tryz.keys67_ren) { Tryz.keys67 with } Fence.wide _ trivial rfl (by omega) w.heap.size b nn D0 _ (by simp) (by simp) (by
      obtain ⟨es, clock, hb, Ft, hs, hD⟩ := hown
      exact ⟨es, clock, (Below.heap_alloc _ _ b hbl).trans hb, Ft, hs, hD⟩)
  exact AnyZ.sorted_in Tryz.sorted66 Fence.wide 5 trivial trivial trivial trivial rfl (by omega) (Tryz.sorts66 _) (enters_of Tryz.func99 (by kernel_rfl) rfl) 161 #[.pointer (some ⟨w.heap.size, 0, none⟩)] trivial (enters_of Tryz.func161 (by kernel_rfl) rfl) _ _ hmax hbytes _ hseq

set_option maxHeartbeats 1000000 in
/-- **.. AND FOR THE nil MAP: nil.** -/
theorem Tryz.slices_Sorted_keys_nil_66_67 (w : World) :
    CallsIn Fence.wide 5 Tryz.prog 72 #[.func (.func 161) #[] #[.pointer (some ⟨w.heap.size, 0, none⟩)]] (w.alloc (.cells #[.map none] 126)) fun e w' => ∃ (v : Value) (ss : List (List UInt8)), e = .returned v ∧ ss = [] ∧
      w'.ownsRow (w.alloc (.cells #[.map none] 126)).heap.size 9 1 v ss.length ((ss.mergeSort (fun x y => decide (x ≤ y))).map encStr) ∧ (v = .slice none 0 0 ↔ ss = []) ∧ Below (w.alloc (.cells #[.map none] 126)).heap.size (w.alloc (.cells #[.map none] 126)) w' := by
  have hseq : SeqGives Fence.wide 2 Tryz.prog 161 #[.pointer (some ⟨w.heap.size, 0, none⟩)] encStr (fun ss : List (List UInt8) => ss = []) 0 (w.alloc (.cells #[.map none] 126)) :=
    AnyZ.keys_gives_nil (ρ := Tryz.keys67_ren) { Tryz.keys67 with } Fence.wide _ trivial rfl w.heap.size _ (by simp) (by simp)
  exact AnyZ.sorted_in Tryz.sorted66 Fence.wide 5 trivial trivial trivial trivial rfl (by omega) (Tryz.sorts66 _) (enters_of Tryz.func99 (by kernel_rfl) rfl) 161 #[.pointer (some ⟨w.heap.size, 0, none⟩)] trivial (enters_of Tryz.func161 (by kernel_rfl) rfl) _ 0 (Nat.zero_le _) (by omega) _ hseq

end Go.Proofs

/-
  Layer 14: keys (the keys that have versions, sorted).
-/
namespace Go.Proofs.YtbhihbhjmmeibaaGreat
open Go.RowKit
open Cb (ChIs Foot)

/-- a slice of strings that is its own -/
def RowS (w : World) (B : Nat) (v : Value) (l : List (List UInt8)) : Prop := w.ownsRow B 9 1 v l.length (l.map encStr)
/-- a map's keys, sorted -/
def sortedKeys (D : MD) : List (List UInt8) := (strKeys D).mergeSort leB

def KeysPost (ks : List (List UInt8)) (w : World) (e : Ending) (w' : World) : Prop := ∃ v, e = .returned v ∧ RowS w' w.heap.size v ks ∧ Only NoneOf w w'

theorem ownsRow_base {w : World} {B B' : Nat} {t : TypeId} {sz : Nat} {v : Value} {n : Nat} {l : List Value} (h : w.ownsRow B t sz v n l) (hB : B' ≤ B) : w.ownsRow B' t sz v n l := by
  refine ⟨h.1, ?_⟩
  rcases h.2 with h0 | ⟨g, cap, cur, hv, hb, r⟩
  · exact .inl h0
  · exact .inr ⟨g, cap, cur, hv, Nat.le_trans hB hb, r⟩

set_option maxRecDepth 100000 in
set_option maxHeartbeats 1000000 in
theorem keys_is (w : World) (s m n : Nat) (D : MD) (C : ByteArray → Option Ch) (live : Int) (h : StIs w s m n D C live) (hfew : Go.Maps.size D * 16 ≤ 140737488355328) :
    Calls Tryz.prog 156 #[.pointer (some ⟨s, 0, none⟩)] w (KeysPost (sortedKeys D) w) := by
  have c0 := h.blk.cellv 0 rfl
  have HK := Lib.hid (fun u => callsIn_wide.1 (Tryz.maps_Keys_67 (some m) u))
  have HS := Lib.hid (callsIn_wide.1 (Tryz.slices_Sorted_keys_66_67 m n D RP w h.map (by unfold maxLen; omega) hfew))
  clear h hfew
  go_enter Tryz.func156, Tryz.ntmps156
  go_wp2_with fail
  refine (HK.out w).mono ?_; rintro e w1 ⟨rfl, rfl⟩
  go_wp2_with fail
  refine HS.out.mono ?_; rintro e w2 ⟨v, ss, rfl, hp, hrow, _, hb⟩
  have HB := Lib.hid ((Only.refl NoneOf w).alloc (.cells #[.map (some m)] 126) |>.trans (Only.of_below hb NoneOf))
  have HR := Lib.hid hrow
  have HP := Lib.hid hp
  have hl := hrow.1
  clear hrow hp hb
  go_wp2_with fail
  go_ret
  refine ⟨v, rfl, ?_, HB.out⟩
  have e : sortedKeys D = ss.mergeSort leB := by unfold sortedKeys; rw [mergeSort_of_perm HP.out]
  unfold RowS
  rw [e, List.length_mergeSort]
  exact ownsRow_base HR.out (by simp)

set_option maxHeartbeats 400000 in
theorem keys_nil (w : World) : Calls Tryz.prog 156 #[.pointer none] w fun e w' => e = .returned (.slice none 0 0) ∧ w = w' := by
  go_enter Tryz.func156, Tryz.ntmps156
  go_wp2_with fail
  go_ret
  exact ⟨rfl, rfl⟩

end Go.Proofs.YtbhihbhjmmeibaaGreat

/-
  A range over a function, where the blocks that the iterator lays are its own: a contract of iterators, and the caller's law. (After the library's laws of Derived/RangeFuncKeeps and Derived/RangeFuncNested, with a bound E more: the iterator's zone ends there.)
-/
namespace Go.Proofs.YtbhihbhjmmeibaaGreat
open Go.RowKit

/-- The caller's blocks: those ahead of B, but for some that the iterator reads, and those from E on. -/
abbrev Theirs (B E : Nat) (Kp : Nat → Prop) : Nat → Prop := fun k => k < B ∧ ¬ Kp k ∨ E ≤ k
/-- The iterator's own blocks. -/
abbrev Ours (B E : Nat) : Nat → Prop := fun k => B ≤ k ∧ k < E

theorem Only.putObj {S : Nat → Prop} {w w' : World} (h : Only S w w') {l : Nat} (hl : S l ∨ w.heap.size ≤ l) (o : Obj) : Only S w (w'.putObj l o) :=
  ⟨h.os, h.tape, h.output, by simpa using h.size, fun k hk hs => (World.putObj_heap_other (by rintro rfl; rcases hl with hl | hl; exact hs hl; omega)).trans (h.block k hk hs)⟩

theorem room_free (k : Nat) : Fence.wide.room k := fun d h => by cases h
/-- Where no depth is asked the figures are all one. -/
theorem YieldAt.deep {m : Nat} (m' : Nat) {P : Program} {l : Nat} {args : Array Value} {W : World} {R : Ending → World → Prop} (h : YieldAt Fence.wide m P l args W R) : YieldAt Fence.wide m' P l args W R := by
  obtain ⟨fn, tmps, assign, body, hy, hR⟩ := h
  exact ⟨fn, tmps, assign, body, hy, hR.1, fun c cs _ => hR.2 c cs (room_free _)⟩
theorem CallsIn.deep {n : Nat} (n' : Nat) {P : Program} {f : FuncId} {args : Array Value} {w : World} {R : Ending → World → Prop} (h : CallsIn Fence.wide n P f args w R) : CallsIn Fence.wide n' P f args w R :=
  callsIn_wide.2 (callsIn_wide.1 h)

/-- In the world W a call of the function gf with a loop's round tells the elements xs, one behind the other, till a round says 'no more'. -/
def Iter {α : Type} (P : Program) (gf : Nat) (lb : Array Value) (encs : α → Array Value) (xs : List α) (Kp : Nat → Prop) (W : World) : Prop :=
  ∀ (l : Nat) (J Jx : Nat → List α → World → Prop),
    (∀ E pre A B, J E pre A → Only (Ours W.heap.size E) A B → J E pre B) →
    (∀ E pre A B, Jx E pre A → Only (Ours W.heap.size E) A B → Jx E pre B) →
    (∀ E B, W.heap.size ≤ E → E ≤ B.heap.size → Only NoneOf W B → J E [] B) →
    (∀ E pre x A, W.heap.size ≤ E → E ≤ A.heap.size → J E pre A → pre ++ [x] <+: xs →
      YieldAt Fence.wide 1 P l (encs x) A fun e B => (e = .returned (.bool true) ∧ J E (pre ++ [x]) B ∧ Only (Theirs W.heap.size E Kp) A B) ∨ (e = .returned (.bool false) ∧ Jx E (pre ++ [x]) B ∧ Only (Theirs W.heap.size E Kp) A B)) →
    CallsIn Fence.wide 1 P gf (#[.func (.yield l) #[] #[]] ++ lb) W fun e B => (∃ v, e = .returned v) ∧ ∃ E, W.heap.size ≤ E ∧ (J E xs B ∨ ∃ pre, pre <+: xs ∧ Jx E pre B)

/-- How a round may be left. -/
def roundEnds {α : Type} (B E : Nat) (Kp : Nat → Prop) (I : Nat → List α → World → Prop) (Ix : Code → Nat → List α → World → Prop) (xs : List α) (W : World) : Exit → Act → World → Prop
  | .normal, _, W' => Only (Theirs B E Kp) W W' ∧ I E xs W'
  | .ret, _, W' => Only (Theirs B E Kp) W W' ∧ Ix .ret E xs W'
  | .exit id, _, W' => Only (Theirs B E Kp) W W' ∧ Ix (.exit id) E xs W'
  | .goto t, _, W' => Only (Theirs B E Kp) W W' ∧ Ix (.goto t) E xs W'
  | .panic _, _, _ => False
  | .outgrown, _, _ => False

theorem range_own {n : Nat} {P : Program} {α : Type} {g : Operand} {ps : Array Tmp} {assign body : Code} {Q : Exit → Act → World → Prop} {a : Act} {w : World}
    (h1 : 1 ≤ n) {gf : Nat} {lb : Array Value} (hg : a.eval g = .func (.func gf) #[] lb) (eg : ∀ args w, (callFunc gf args).run P w = .ok (.enter gf args) w)
    {encs : α → Array Value} {xs : List α} {Kp : Nat → Prop} (hit : ∀ W, Only NoneOf w W → W.heap.size = w.heap.size + 2 → Iter P gf lb encs xs Kp W) (hps : ∀ x, (encs x).size = ps.size) (hKp : ∀ {k}, w.heap.size ≤ k → ¬ Kp k)
    (I : Nat → List α → World → Prop) (Ix : Code → Nat → List α → World → Prop)
    (hI : ∀ E pre A B, I E pre A → Only (Ours w.heap.size E) A B → I E pre B) (hIx : ∀ c E pre A B, Ix c E pre A → Only (Ours w.heap.size E) A B → Ix c E pre B)
    (h0 : ∀ E B, w.heap.size + 2 ≤ E → E ≤ B.heap.size → Only NoneOf w B → I E [] B)
    (Ax : α → Act → World → Prop) (hAx : ∀ x a' A B, Ax x a' A → Only (· = w.heap.size + 1) A B → Ax x a' B)
    (hassign : ∀ (x : α) (W : World) (K : Act → World → Prop), x ∈ xs → w.heap.size + 2 ≤ W.heap.size → (∀ a' W', Only NoneOf W W' → Ax x a' W' → K a' W') →
      assign.wpIn (Fence.wide.inRound (w.heap.size + 1)) (n - 1 - 1) P (Exit.then K (fun _ _ _ => False)) { tmps := (ps.zip (encs x)).foldl (fun t (p, v) => t.setIfInBounds p v) a.tmps, defers := [] } W)
    (hbody : ∀ (E : Nat) (pre : List α) (x : α) (a' : Act) (W : World), (∃ r, W.heap[w.heap.size + 1]? = some (.loop r)) → w.heap.size + 2 ≤ E → E ≤ W.heap.size → pre ++ [x] <+: xs → I E pre W → Ax x a' W →
      body.wpIn (Fence.wide.inRound (w.heap.size + 1)) (n - 1 - 1) P (roundEnds w.heap.size E Kp I Ix (pre ++ [x]) W) a' W)
    (hdone : ∀ (E : Nat) (W : World), w.heap.size + 2 ≤ E → I E xs W → W.heap[w.heap.size]? = some (.deferred (some [])) → Q .normal { a with defers := { target := .collected w.heap.size, args := #[] } :: a.defers } W)
    (hstop : ∀ (E : Nat) (c : Code) (pre : List α) (W : World), w.heap.size + 2 ≤ E → pre <+: xs → Ix c E pre W → W.heap[w.heap.size]? = some (.deferred (some [])) →
      c.wpIn Fence.wide n P Q { a with defers := { target := .collected w.heap.size, args := #[] } :: a.defers } W) :
    (Code.rangeFunc g ps assign body).wpIn Fence.wide n P Q a w := by
  refine wpIn_rangeFunc ?_
  intro fn hfn
  rw [show Fence.wide.round = none from rfl]
  obtain ⟨rec, hrec⟩ : ∃ rec : LoopState → Option Code → Loop, rec = fun st pe => { state := st, pending := pe, fn, tmps := a.tmps, params := ps, assign, body, defers := w.heap.size } := ⟨_, rfl⟩
  obtain ⟨W1, hW1⟩ : ∃ W1, (w.alloc (.deferred (some []))).alloc (.loop (rec .ready none)) = W1 := ⟨_, rfl⟩
  have hz : W1.heap.size = w.heap.size + 2 := by rw [← hW1]; simp
  have hO1 : Only NoneOf w W1 := by rw [← hW1]; exact ((Only.refl _ _).alloc _).alloc _
  have hL1 : W1.heap[w.heap.size + 1]? = some (.loop (rec .ready none)) := by
    rw [← hW1]; have := World.alloc_heap_new (w.alloc (.deferred (some []))) (.loop (rec .ready none)); rwa [World.size_alloc] at this
  have hK1 : W1.heap[w.heap.size]? = some (.deferred (some [])) := by
    rw [← hW1]; exact (Below.heap_alloc _ _ _ (by simp)).trans (World.alloc_heap_new w _)
  refine ⟨w.heap.size + 1, [{ target := .collected w.heap.size, args := #[] }], W1, { target := .fn (.func gf) lb, args := #[.func (.yield (w.heap.size + 1)) #[] #[]] }, W1, gf,
    #[.func (.yield (w.heap.size + 1)) #[] #[]] ++ lb, W1, ?_, ?_, ?_, ?_, fun _ => h1, ?_⟩
  · rw [← hW1, hrec]; exact run_enterLoop_outer _ _ _ _ _
  · simp only [resolve, hg]
    simp [go_sem]
  · intro f' hf'; simp [Target.leads] at hf'; subst hf'; exact trivial
  · simp [invoke, go_sem, eg]
  · have sub : ∀ {E : Nat} {A B : World}, Only (Ours W1.heap.size E) A B → Only (Ours w.heap.size E) A B := fun h => h.mono fun k _ hk => ⟨by have := hk.1; omega, hk.2⟩
    have own : ∀ {E l : Nat} {A : World} (o : Obj), w.heap.size ≤ l → l < E → Only (Ours w.heap.size E) A (A.putObj l o) := fun o h2 h3 => (Only.refl _ _).putObj (.inl ⟨h2, h3⟩) o
    have rec_keeps : ∀ {E : Nat} {A B : World} {k : Nat} {o : Obj}, k < W1.heap.size → A.heap[k]? = some o → Only (Ours W1.heap.size E) A B → B.heap[k]? = some o := fun hk ho h => by
      have hlt := (Array.getElem?_eq_some_iff.1 ho).1
      exact (h.block _ hlt (fun hh => by have := hh.1; omega)).trans ho
    refine CallsIn.deep (n - 1) ((hit W1 hO1 hz (w.heap.size + 1)
      (fun E pre W => W1.heap.size ≤ E ∧ I E pre W ∧ W.heap[w.heap.size + 1]? = some (.loop (rec .ready none)) ∧ W.heap[w.heap.size]? = some (.deferred (some [])))
      (fun E pre W => W1.heap.size ≤ E ∧ ∃ c, Ix c E pre W ∧ W.heap[w.heap.size + 1]? = some (.loop (rec .done (some c))) ∧ W.heap[w.heap.size]? = some (.deferred (some [])))
      (fun E pre A B hs h => ⟨hs.1, hI E pre A B hs.2.1 (sub h), rec_keeps (by omega) hs.2.2.1 h, rec_keeps (by omega) hs.2.2.2 h⟩)
      (fun E pre A B hs h => by
        obtain ⟨hE, c, hc, hl, hk⟩ := hs
        exact ⟨hE, c, hIx c E pre A B hc (sub h), rec_keeps (by omega) hl h, rec_keeps (by omega) hk h⟩)
      (fun E B hE hB h => ⟨hE, h0 E B (by omega) hB (hO1.trans h), (h.block _ (by omega) (fun x => x)).trans hL1, (h.block _ (by omega) (fun x => x)).trans hK1⟩)
      ?_).mono ?_)
    · rintro E pre x W hE hEW ⟨_, hi, hl, hk⟩ hpre
      have hlt : w.heap.size + 1 < W.heap.size := (Array.getElem?_eq_some_iff.1 hl).1
      have hy := run_yield (P := P) (args := encs x) hl (by rw [hrec]; exact hps x)
      rw [hrec] at hy
      refine YieldAt.deep (m := n - 1 - 1) 1 ⟨fn, _, assign, body, hy, roundIn_of_wpIn hfn (hassign x W _ (hpre.subset (by simp)) (by omega) ?_)⟩
      clear hy
      intro a' Wa hoa hax
      have hla := (hoa.block _ hlt (fun x => x)).trans hl
      have hka := (hoa.block _ (by omega) (fun x => x)).trans hk
      have hlta : w.heap.size + 1 < Wa.heap.size := (Array.getElem?_eq_some_iff.1 hla).1
      have hia := hI E pre W Wa hi (hoa.mono fun _ _ h => h.elim)
      refine ⟨_, run_beginRound hla (by rw [hrec]), ?_⟩
      have hl2 : (Wa.putObj (w.heap.size + 1) (.loop { rec .ready none with state := .busy })).heap[w.heap.size + 1]? = some (.loop { rec .ready none with state := .busy }) := World.putObj_heap_same hlta
      have hk2 : (Wa.putObj (w.heap.size + 1) (.loop { rec .ready none with state := .busy })).heap[w.heap.size]? = some (.deferred (some [])) := (World.putObj_heap_other (by omega)).trans hka
      have hz2 : (Wa.putObj (w.heap.size + 1) (.loop { rec .ready none with state := .busy })).heap.size = Wa.heap.size := by simp
      have hsz := hoa.size
      refine wpIn_mono (hbody E pre x a' _ ⟨_, hl2⟩ (by omega) (by rw [World.putObj_size]; omega) hpre (hI E pre _ _ hia (own _ (by omega) (by omega))) (hAx x a' _ _ hax (Only.putObj (S := (· = w.heap.size + 1)) (Only.refl _ _) (.inl rfl) _))) ?_
      have fin : ∀ (jump : Option Code) (W3 : World), Only (Theirs w.heap.size E Kp) (Wa.putObj (w.heap.size + 1) (.loop { rec .ready none with state := .busy })) W3 →
          (Instr.endRound (w.heap.size + 1) jump).run P W3 = .ok (.bool jump.isNone) (W3.putObj (w.heap.size + 1) (.loop (rec (if jump.isNone then .ready else .done) jump))) ∧
          (W3.putObj (w.heap.size + 1) (.loop (rec (if jump.isNone then .ready else .done) jump))).heap[w.heap.size + 1]? = some (.loop (rec (if jump.isNone then .ready else .done) jump)) ∧
          (W3.putObj (w.heap.size + 1) (.loop (rec (if jump.isNone then .ready else .done) jump))).heap[w.heap.size]? = some (.deferred (some [])) ∧
          Only (Theirs W1.heap.size E Kp) W (W3.putObj (w.heap.size + 1) (.loop (rec (if jump.isNone then .ready else .done) jump))) := fun jump W3 hk3 => by
        have hl3 := (hk3.block (w.heap.size + 1) (by rw [World.putObj_size]; omega) (fun h => by rcases h with h | h <;> omega)).trans hl2
        have hd3 := (hk3.block w.heap.size (by rw [World.putObj_size]; omega) (fun h => by rcases h with h | h <;> omega)).trans hk2
        have hr := run_endRound (P := P) jump hl3
        refine ⟨by rw [hrec] at hr ⊢; exact hr, World.putObj_heap_same (Array.getElem?_eq_some_iff.1 hl3).1, (World.putObj_heap_other (by omega)).trans hd3, ?_⟩
        refine Only.putObj ?_ (.inl (.inl ⟨by omega, hKp (by omega)⟩)) _
        refine Only.step (S' := Theirs w.heap.size E Kp) (Only.putObj (hoa.mono fun _ _ h => h.elim) (.inl (.inl ⟨by omega, hKp (by omega)⟩)) _) hk3 (fun k _ h => ?_)
        rcases h with h | h
        · exact .inl ⟨by omega, h.2⟩
        · exact .inr h
      rintro e a3 W3 hp
      cases e with
      | normal =>
        obtain ⟨hk3, hi3⟩ := hp
        obtain ⟨hr, hl4, hk4, ho4⟩ := fin none W3 hk3
        exact ⟨_, _, hr, .inl ⟨rfl, ⟨hE, hI E _ _ _ hi3 (own _ (by omega) (by omega)), hl4, hk4⟩, ho4⟩⟩
      | ret =>
        obtain ⟨hk3, hi3⟩ := hp
        obtain ⟨hr, hl4, hk4, ho4⟩ := fin (some .ret) W3 hk3
        exact ⟨_, _, hr, .inr ⟨rfl, ⟨hE, .ret, hIx _ E _ _ _ hi3 (own _ (by omega) (by omega)), hl4, hk4⟩, ho4⟩⟩
      | exit id =>
        obtain ⟨hk3, hi3⟩ := hp
        obtain ⟨hr, hl4, hk4, ho4⟩ := fin (some (.exit id)) W3 hk3
        exact ⟨_, _, hr, .inr ⟨rfl, ⟨hE, .exit id, hIx _ E _ _ _ hi3 (own _ (by omega) (by omega)), hl4, hk4⟩, ho4⟩⟩
      | goto t =>
        obtain ⟨hk3, hi3⟩ := hp
        obtain ⟨hr, hl4, hk4, ho4⟩ := fin (some (.goto t)) W3 hk3
        exact ⟨_, _, hr, .inr ⟨rfl, ⟨hE, .goto t, hIx _ E _ _ _ hi3 (own _ (by omega) (by omega)), hl4, hk4⟩, ho4⟩⟩
      | panic ch => exact hp.elim
      | outgrown => exact hp.elim
    · rintro e W2 ⟨⟨v, rfl⟩, E, hE, (⟨_, hi, hl, hk⟩ | ⟨pre, hpre, _, c, hi, hl, hk⟩)⟩
      · exact ⟨none, _, by have := run_endLoop (P := P) hl (by rw [hrec]; simp); rw [hrec] at this; exact this, hdone E _ (by omega) (hI E _ _ _ hi (own _ (by omega) (by omega))) ((World.putObj_heap_other (by omega)).trans hk)⟩
      · exact ⟨some c, _, by have := run_endLoop (P := P) hl (by rw [hrec]; simp); rw [hrec] at this; exact this, hstop E c pre _ (by omega) hpre (hIx c E _ _ _ hi (own _ (by omega) (by omega))) ((World.putObj_heap_other (by omega)).trans hk)⟩

end Go.Proofs.YtbhihbhjmmeibaaGreat

/-
  A region in a round of a range over a function: what holds of it outside a round holds of it there, where no operation defers.
-/
namespace Go.Proofs.YtbhihbhjmmeibaaGreat
open Go.RowKit

def noDefers (l : List Oper) : Bool := l.all fun o => match o.op with | .defer _ => false | _ => true

section
variable {P : Program} {ops : Array Oper} {n r : Nat} {Q : Exit → Act → World → Prop} {md : Region.Mode}

theorem noDefers_spec {l : List Oper} (h : noDefers l = true) {o : Oper} (ho : o ∈ l) : ∀ c, o.op ≠ .defer c := by
  intro c hc
  have := List.all_eq_true.1 h o ho
  rw [hc] at this
  cases this

theorem rowsIn_round {row : String} {args : Array Value} {w : World} {R : Value → World → Prop} (h : Rows P row args w R) : RowsIn (Fence.wide.inRound r) n P row args w R :=
  fun c cs _ => let ⟨v, w', hr, s⟩ := h c cs; ⟨v, w', hr, by rw [fenced_inRound]; exact stepsIn_wide.2 s⟩

theorem wpIn_of_wp_round {o : Oper} {a : Act} {w : World} {K : Act → World → Prop} (hnd : ∀ c, o.op ≠ .defer c) (h : o.wp P a w K Q) : o.wpIn (Fence.wide.inRound r) n P a w K Q := by
  unfold Oper.wp at h
  unfold Oper.wpIn
  refine ⟨fun _ _ => trivial, ?_⟩
  rw [Oper.semAt_eq _ _ _ hnd]
  generalize (execOp a.eval o).run P w = res at *
  cases res with
  | ok x w' =>
    cases x <;> simp only [Oper.upon] at h <;> simp only [Oper.uponIn]
    case value u => exact h
    case skip => exact h
    case defer d => exact h
    case enter f args => exact ⟨fun hd => (by cases hd), (callsIn_wide.2 h).inRound r⟩
    case row f args => exact ⟨fun hd => (by cases hd), rowsIn_round h⟩
  | halt x w' => cases x <;> simp only [Oper.upon] at h <;> simp only [Oper.uponIn]; exact h

theorem wpListIn_of_wpList : ∀ {l : List Oper} {a : Act} {w : World} (_ : noDefers l = true) (_ : ¬ LetsOut Q) (_ : wpList P ops Q l a w), wpListIn (Fence.wide.inRound r) n P ops Q l a w
  | [], _, _, _, _, h => h
  | o :: l, a, w, hnd, hlo, h => by
    have hl : noDefers l = true := by
      unfold noDefers at hnd ⊢
      rw [List.all_cons, Bool.and_eq_true] at hnd
      exact hnd.2
    unfold wpListIn
    unfold wpList at h
    split
    · rename_i hw
      rw [if_pos hw] at h
      rcases h with h | h
      · exact wpIn_of_wp_round (noDefers_spec hnd (by simp)) (Oper.wp_mono (fun a w h => wpListIn_of_wpList hl hlo h) h)
      · exact absurd h.2 hlo
    · rename_i hw
      rw [if_neg hw] at h
      exact ⟨fun _ _ => trivial, wpListIn_of_wpList hl hlo h⟩

theorem wpIn_region_of_list {id : Nat} {l : List Oper} {a : Act} {w : World} (hnd : noDefers l = true) (hlo : ¬ LetsOut Q) (h : wpList P l.toArray Q l a w) : (Code.region id l.toArray false).wpIn (Fence.wide.inRound r) n P Q a w :=
  wpIn_region_lit (wpListIn_of_wpList hnd hlo h)

theorem wpOpIn_of_wpOp {i : Nat} {a : Act} {w : World} {K : Act → World → Prop} (hnd : noDefers ops.toList = true) (hlo : ¬ LetsOut Q) (h : wpOp P ops Q i K a w) : wpOpIn (Fence.wide.inRound r) n P ops Q i K a w := by
  unfold wpOp at h
  unfold wpOpIn
  split
  · rename_i ho; simp only [ho] at h; exact h
  · rename_i o ho
    simp only [ho] at h
    split
    · rename_i hw
      rw [if_pos hw] at h
      rcases h with h | h
      · exact wpIn_of_wp_round (noDefers_spec hnd (by rw [Array.mem_toList_iff]; exact Array.mem_of_getElem? ho)) h
      · exact absurd h.2 hlo
    · rename_i hw
      rw [if_neg hw] at h
      exact ⟨fun _ _ => trivial, h⟩

theorem wpAnyIn_of_wpAny (hnd : noDefers ops.toList = true) (hlo : ¬ LetsOut Q) : ∀ (fuel : Nat) (listed : Array Bool) (a : Act) (w : World), wpAny P md ops Q fuel listed a w → wpAnyIn (Fence.wide.inRound r) n P md ops Q fuel listed a w
  | 0, _, _, _, h => h
  | fuel + 1, _, _, _, h => ⟨h.1, fun i hi => wpOpIn_of_wpOp hnd hlo (wpOp_mono (fun a w h => wpAnyIn_of_wpAny hnd hlo fuel _ a w h) (h.2 i hi))⟩

/-- A region that draws its order, in a round. -/
theorem wpIn_region_head {id : Nat} {l : List Oper} {a0 : Act} {W : World} (k m : Nat) (T : Nat → Value → World → Prop) (al : Nat → Bool) (hsz : a0.tmps.size = m) (hm : P.follows .mixedOrders = true) (hB : regionB l.toArray k m = true)
    (hnd : noDefers l = true) (hlo : ¬ LetsOut Q)
    (hT : ∀ i v w w', T i v w → Only NoneOf w w' → T i v w') (hal : ∀ i v w, al i = true → T i v w → ∃ b, v = .pointer (some ⟨b, 0, none⟩) ∧ b < w.heap.size)
    (hstep : ∀ i o, i < k → l[i]? = some o → ∀ a w, Aft W w → (∀ s, (∀ j, j < k → dstOf l.toArray j ≠ s) → a.tmps.getD s undef = a0.tmps.getD s undef) →
      (∀ j, j < k → Region.waitsFor .any l.toArray i j = true → T j (a.tmps.getD (dstOf l.toArray j) undef) w) → o.wp P a w (Left T al i o a w) Q)
    (hend : ∀ (V : Nat → Value) w, Aft W w → (∀ i, i < k → T i (V i) w) → (∀ i j, i < k → j < k → i ≠ j → al i = true → al j = true → V i ≠ V j) → wpList P l.toArray Q (l.drop k) (endFrame l.toArray k a0 V) w) :
    (Code.region id l.toArray true).wpIn (Fence.wide.inRound r) n P Q a0 W :=
  wpIn_region_any hm (wpAnyIn_of_wpAny hnd hlo _ _ _ _ (head_any k m T al hsz hB hT hal hstep hend))
end
end Go.Proofs.YtbhihbhjmmeibaaGreat

/-
  Layer 14: lists of versions in memory; how a function with many ranges over functions is left.
-/
namespace Go.Proofs.YtbhihbhjmmeibaaGreat
open Go.RowKit Go.Shelf
open Cb (ChIs Foot)

/-- a version as a list of versions holds it -/
structure VRow where
  key : ByteArray
  st : Int
  val : Value
  bs : List UInt8
  dead : Bool
def VRow.cells (r : VRow) : List Value := [.string r.key, .int .i64 r.st, r.val, .bool r.dead]
def VRow.plain (r : VRow) : ByteArray × Ver := (r.key, ⟨r.st, r.bs, r.dead⟩)
abbrev vflat (rs : List VRow) : List Value := rs.flatMap VRow.cells

theorem vflat_length (rs : List VRow) : (vflat rs).length = rs.length * 4 := by
  induction rs with
  | nil => rfl
  | cons r rs ih => simp only [vflat, List.flatMap_cons, List.length_append, List.length_cons, VRow.cells, List.length_nil] at ih ⊢; omega

/-- a list of versions that is its own, each value a row of its own -/
structure VRows (w : World) (base : Nat) (v : Value) (rs : List VRow) : Prop where
  own : w.ownsRow base 47 4 v rs.length (vflat rs)
  val : ∀ r ∈ rs, RowB w base r.val r.bs
  apart : ∀ r ∈ rs, ∀ g, v.ownBlock = some g → r.val.ownBlock ≠ some g
  dist : rs.Pairwise fun a b => ∀ g, a.val.ownBlock = some g → b.val.ownBlock ≠ some g
/-- its blocks -/
def VBlocks (v : Value) (rs : List VRow) (k : Nat) : Prop := v.ownBlock = some k ∨ ∃ r ∈ rs, r.val.ownBlock = some k

theorem ownsRow_only {w w' : World} {base n sz : Nat} {t : TypeId} {v : Value} {xs : List Value} {S : Nat → Prop} (h : w.ownsRow base t sz v n xs) (ho : Only S w w') (hS : ∀ g, v.ownBlock = some g → ¬ S g) : w'.ownsRow base t sz v n xs := by
  refine ⟨h.1, ?_⟩
  rcases h.2 with h0 | ⟨g, cap, cur, hv, hb, hh, r⟩
  · exact .inl h0
  · exact .inr ⟨g, cap, cur, hv, hb, Blk.only (t := t) (cs := cur) hh ho (hS g (by rw [hv]; rfl)), r⟩
theorem ownsRow_lt {w : World} {base n sz : Nat} {t : TypeId} {v : Value} {xs : List Value} (h : w.ownsRow base t sz v n xs) {g : Nat} (hg : v.ownBlock = some g) : base ≤ g ∧ g < w.heap.size := by
  rcases h.2 with ⟨rfl, _⟩ | ⟨g', cap, cur, rfl, hb, hh, _⟩
  · simp [Value.ownBlock] at hg
  · have : g' = g := by simpa [Value.ownBlock] using hg
    subst this
    exact ⟨hb, Blk.lt (t := t) (cs := cur) hh⟩
theorem RowB.only {w w' : World} {S : Nat → Prop} {B : Nat} {v : Value} {l : List UInt8} (h : RowB w B v l) (ho : Only S w w') (hS : ∀ g, v.ownBlock = some g → ¬ S g) : RowB w' B v l := ownsRow_only h ho hS

theorem VRows.lt {w : World} {base : Nat} {v : Value} {rs : List VRow} (h : VRows w base v rs) {k : Nat} (hk : VBlocks v rs k) : base ≤ k ∧ k < w.heap.size := by
  rcases hk with hk | ⟨r, hr, hk⟩
  · exact ownsRow_lt h.own hk
  · exact ownsRow_lt (h.val r hr) hk
theorem VRows.only {w w' : World} {S : Nat → Prop} {base : Nat} {v : Value} {rs : List VRow} (h : VRows w base v rs) (ho : Only S w w') (hS : ∀ k, VBlocks v rs k → ¬ S k) : VRows w' base v rs :=
  ⟨ownsRow_only h.own ho (fun g hg => hS g (.inl hg)), fun r hr => (h.val r hr).only ho (fun g hg => hS g (.inr ⟨r, hr, hg⟩)), h.apart, h.dist⟩
theorem VRows.nil (w : World) (base : Nat) : VRows w base (.slice none 0 0) [] := ⟨⟨rfl, .inl ⟨rfl, rfl⟩⟩, fun _ h => (by cases h), fun _ h => (by cases h), List.Pairwise.nil⟩

/-- A row more. -/
theorem VRows.snoc {w w' : World} {base : Nat} {v v' : Value} {rs : List VRow} {r : VRow} (h : VRows w base v rs) (ho : Only (fun k => v.ownBlock = some k) w w')
    (hown : w'.ownsRow base 47 4 v' (rs.length + 1) (vflat rs ++ r.cells)) (hat : v'.ownBlock = v.ownBlock ∨ ∃ g, v'.ownBlock = some g ∧ w.heap.size ≤ g) (hr : RowB w base r.val r.bs)
    (hnew : ∀ g, r.val.ownBlock = some g → ¬ VBlocks v rs g) :
    VRows w' base v' (rs ++ [r]) := by
  have hb : ∀ x ∈ rs ++ [r], RowB w base x.val x.bs ∧ ∀ g, v.ownBlock = some g → x.val.ownBlock ≠ some g := fun x hx => by
    rcases List.mem_append.1 hx with hx | hx
    · exact ⟨h.val x hx, h.apart x hx⟩
    · obtain rfl : x = r := by simpa using hx
      exact ⟨hr, fun g hg e => hnew g e (.inl hg)⟩
  refine ⟨by rw [List.length_append]; simpa using hown, fun x hx => ?_, fun x hx g hg e => ?_, ?_⟩
  · exact (hb x hx).1.only ho (fun g hg e => (hb x hx).2 g e hg)
  · rcases hat with hat | ⟨g', hg', hge⟩
    · rw [hat] at hg
      exact (hb x hx).2 g hg e
    · rw [hg'] at hg
      cases hg
      have := (ownsRow_lt (hb x hx).1 e).2
      omega
  · rw [List.pairwise_append]
    refine ⟨h.dist, List.pairwise_singleton _ _, fun a ha b hb' g hg e => ?_⟩
    obtain rfl : b = r := by simpa using hb'
    exact hnew g e (.inr ⟨a, ha, hg⟩)
theorem vblocks_snoc {v v' : Value} {rs : List VRow} {r : VRow} {k n : Nat} (hat : v'.ownBlock = v.ownBlock ∨ ∃ g, v'.ownBlock = some g ∧ n ≤ g) (h : VBlocks v' (rs ++ [r]) k) : VBlocks v rs k ∨ r.val.ownBlock = some k ∨ n ≤ k := by
  rcases h with h | ⟨x, hx, h⟩
  · rcases hat with e | ⟨g, hg, hge⟩
    · exact .inl (.inl (e ▸ h))
    · rw [hg] at h
      cases h
      exact .inr (.inr hge)
  · rcases List.mem_append.1 hx with hx | hx
    · exact .inl (.inr ⟨x, hx, h⟩)
    · obtain rfl : x = r := by simpa using hx
      exact .inr (.inl h)

/-- The marks of ranges over functions that are behind us: open, each a block of its own, from B on and below H. -/
def Marks (B H : Nat) (w : World) : List Deferred → Prop
  | [] => True
  | d :: ds => (∃ r, d.target = .collected r ∧ B ≤ r ∧ r < H ∧ w.heap[r]? = some (.deferred (some [])) ∧ ∀ d' ∈ ds, d'.target ≠ .collected r) ∧ Marks B H w ds

theorem Marks.only {S : Nat → Prop} {B H : Nat} {w w' : World} (ho : Only S w w') (hS : ∀ k, B ≤ k → k < H → w.heap[k]? = some (.deferred (some [])) → ¬ S k) : ∀ {ds : List Deferred}, Marks B H w ds → Marks B H w' ds
  | [], _ => trivial
  | _ :: _, ⟨⟨r, h1, h2, h2', h3, h4⟩, h⟩ => ⟨⟨r, h1, h2, h2', (ho.block r (Array.getElem?_eq_some_iff.1 h3).1 (hS r h2 h2' h3)).trans h3, h4⟩, h.only ho hS⟩
theorem Marks.up {B H H' : Nat} {w : World} (hH : H ≤ H') : ∀ {ds : List Deferred}, Marks B H w ds → Marks B H' w ds
  | [], _ => trivial
  | _ :: _, ⟨⟨r, h1, h2, h2', h3, h4⟩, h⟩ => ⟨⟨r, h1, h2, Nat.lt_of_lt_of_le h2' hH, h3, h4⟩, h.up hH⟩
theorem Marks.lt {B H : Nat} {w : World} : ∀ {ds : List Deferred}, Marks B H w ds → ∀ d ∈ ds, ∃ r, d.target = .collected r ∧ r < H
  | _ :: _, ⟨⟨r, h1, _, h3, _⟩, h⟩, d, hd => by
    rcases List.mem_cons.1 hd with rfl | hd
    · exact ⟨r, h1, h3⟩
    · exact h.lt d hd
/-- A mark more. -/
theorem Marks.cons {B H r : Nat} {w : World} {ds : List Deferred} (h : Marks B r w ds) (hr : w.heap[r]? = some (.deferred (some []))) (hB : B ≤ r) (hH : r < H) : Marks B H w ({ target := .collected r, args := #[] } :: ds) :=
  ⟨⟨r, rfl, hB, hH, hr, fun d hd e => by
    obtain ⟨r', h1, h2⟩ := h.lt d hd
    rw [h1] at e
    cases e
    omega⟩, h.up (by omega)⟩

/-- A function is left with its marks. -/
theorem leaves_marks {n B H : Nat} {P : Program} {fn : Func} {tmps : Array Value} {R : Ending → World → Prop} : ∀ {ds : List Deferred} {w : World}, Marks B H w ds →
    (∀ w', Only (fun k => B ≤ k ∧ ∃ o, w.heap[k]? = some (.deferred o)) w w' → LeavesIn Fence.wide n P fn tmps R [] .returning w') → LeavesInM Fence.wide n P fn tmps R ds .returning w
  | [], _, _, h => h _ (Only.refl _ _)
  | d :: ds, w, ⟨⟨r, h1, h2, _, h3, h4⟩, hm⟩, h => by
    have ho : Only (· = r) w (w.putObj r (.deferred none)) := Only.putObj (S := (· = r)) (Only.refl _ _) (.inl rfl) _
    refine ⟨by simp, .inl ⟨r, _, h1, run_takeDeferred h3, leaves_marks (B := B) (H := H) (ds := ds) ?_ fun w' ho' => h w' ?_⟩⟩
    · have key : ∀ (ds : List Deferred), (∀ d' ∈ ds, d'.target ≠ .collected r) → Marks B H w ds → Marks B H (w.putObj r (.deferred none)) ds := by
        intro ds
        induction ds with
        | nil => intro _ _; trivial
        | cons d' ds ih =>
          intro hne ⟨⟨r', a1, a2, a2', a3, a4⟩, hm'⟩
          have hrr : r' ≠ r := fun e => hne d' (by simp) (by rw [a1, e])
          exact ⟨⟨r', a1, a2, a2', (ho.block r' (Array.getElem?_eq_some_iff.1 a3).1 hrr).trans a3, a4⟩, ih (fun x hx => hne x (by simp [hx])) hm'⟩
      exact key ds h4 hm
    · refine Only.trans (ho.mono fun k _ e => ?_) (ho'.mono fun k _ hk => ?_)
      · subst e
        exact ⟨h2, _, h3⟩
      · obtain ⟨hk1, o, hko⟩ := hk
        by_cases e : k = r
        · subst e
          exact ⟨hk1, _, h3⟩
        · rw [World.putObj_heap_other e] at hko
          exact ⟨hk1, o, hko⟩

end Go.Proofs.YtbhihbhjmmeibaaGreat

/-
  Layer 14: Versions.
-/
namespace Go.Proofs.YtbhihbhjmmeibaaGreat
open Go.RowKit Go.Shelf
open Cb (ChIs Foot)
attribute [local go_sem] Oper.semAt_some

section
variable {P : Program} {Q : Exit → Act → World → Prop} {T : Nat → Value → World → Prop} {al : Nat → Bool} {i : Nat} {o : Oper} {a : Act} {w : World}
theorem key_inv (key : Value) (kl : Lit) (h : keyOf Tryz.prog 9 key = some kl) : ∃ x : ByteArray, key = .string x := by
  cases key <;> simp [keyOf, mapKey, Tryz.underlying9] at h
  exact ⟨_, rfl⟩

theorem key_lit (x : ByteArray) (kl : Lit) (h : keyOf Tryz.prog 9 (.string x) = some kl) : kl = .string x.data.toList ∧ x.size ≤ maxLen := by
  simp [keyOf, mapKey, Tryz.underlying9] at h
  exact ⟨h.2.symm, h.1⟩

theorem left_to (v : Value) (w1 : World) (ho : (execOp a.eval o).run P w = .ok (.value v) w1) (hal : al i = false) (hv : T i v w1) (hO : Only NoneOf w w1) : o.wp P a w (Left T al i o a w) Q := by
  unfold Oper.wp
  rw [ho]
  exact ⟨v, rfl, hv, hO, fun h => by rw [hal] at h; cases h⟩
end

def StrsAt (w : World) (lo : Nat) (A : Option Addr) (l : List (List UInt8)) : Prop := ∀ (i : Nat) (k : List UInt8), l[i]? = some k → ∃ g, A = some ⟨g, 0, none⟩ ∧ lo ≤ g ∧ g < w.heap.size ∧ w.cell? ⟨g, i, none⟩ = some (.string ⟨k.toArray⟩)
theorem StrsAt.only {w w' : World} {lo : Nat} {S : Nat → Prop} {A : Option Addr} {l : List (List UInt8)} (h : StrsAt w lo A l) (ho : Only S w w') (hS : ∀ g, lo ≤ g → g < w.heap.size → ¬ S g) : StrsAt w' lo A l := fun i k hk => by
  obtain ⟨g, hA, hl, hg, h1⟩ := h i k hk
  exact ⟨g, hA, hl, Nat.lt_of_lt_of_le hg ho.size, (ho.cell (p := ⟨g, i, none⟩) hg (hS g hl hg)).trans h1⟩
theorem StrsAt.keep {w w' : World} {lo : Nat} {A : Option Addr} {l : List (List UInt8)} (h : StrsAt w lo A l) (ho : Only NoneOf w w') : StrsAt w' lo A l := h.only ho (fun _ _ _ h => h)
theorem RowS.at {w : World} {B : Nat} {v : Value} {l : List (List UInt8)} (h : RowS w B v l) : ∃ A cap, v = .slice A l.length cap ∧ StrsAt w B A l := by
  rcases h.2 with ⟨rfl, h0⟩ | ⟨g, cap, cur, rfl, hlo, hb, hle, _, hsz, hcur⟩
  · obtain rfl : l = [] := List.eq_nil_of_length_eq_zero h0
    exact ⟨none, 0, rfl, fun i x hx => by simp at hx⟩
  · refine ⟨_, cap, rfl, fun i c hi => ⟨g, rfl, hlo, Blk.lt (t := 9) (cs := cur) hb, ?_⟩⟩
    have hil : i < l.length := (List.getElem?_eq_some_iff.1 hi).1
    have : (l.map encStr)[i]? = some (encStr c) := by rw [List.getElem?_map, hi]; rfl
    rw [Blk.cell (t := 9) (cs := cur) hb, show some (Value.string ⟨c.toArray⟩) = some (encStr c) from rfl, ← this, ← hcur, List.getElem?_take_of_lt (by omega), Array.getElem?_toList]

theorem ownsRow_cells {w : World} {base n sz : Nat} {t : TypeId} {v : Value} {xs : List Value} (h : w.ownsRow base t sz v n xs) {g : Nat} (hg : v.ownBlock = some g) : ∃ t cs, w.heap[g]? = some (.cells cs t) := by
  rcases h.2 with ⟨rfl, _⟩ | ⟨g', cap, cur, rfl, hb, hh, _⟩
  · simp [Value.ownBlock] at hg
  · have : g' = g := by simpa [Value.ownBlock] using hg
    subst this
    exact ⟨_, _, hh⟩
theorem VRows.base {w : World} {b b' : Nat} {v : Value} {rs : List VRow} (h : VRows w b v rs) (hb : b' ≤ b) : VRows w b' v rs :=
  ⟨ownsRow_base h.own hb, fun r hr => (h.val r hr).base hb, h.apart, h.dist⟩

theorem map_keys {w : World} {m n : Nat} {D : MD} (h : w.ownsMap Tryz.prog 9 RP m n D) : ∃ es, D = .map es ∧ es.Pairwise (fun p q => p.1 ≠ q.1) ∧ ∀ p ∈ es, ∃ bs : List UInt8, p.1 = .string bs ∧ bs.length ≤ maxLen := by
  obtain ⟨es, hD, hpw, _⟩ := h.entries law9
  obtain ⟨es0, clock, _, F, _, hD2⟩ := h
  refine ⟨es, hD, hpw, fun p hp => ?_⟩
  rw [hD] at hD2
  injection hD2 with hD2
  rw [hD2] at hp
  obtain ⟨key, hk⟩ := Go.Maps.fit_keys F p (mem_sorted.1 hp)
  obtain ⟨x, rfl⟩ := key_inv key p.1 hk
  obtain ⟨h1, h2⟩ := key_lit x p.1 hk
  exact ⟨_, h1, by rw [Array.length_toList]; exact h2⟩

/-- a key of the map is one that has a chain -/
theorem StIs.key_iff {w : World} {s m n : Nat} {D : MD} {C : ByteArray → Option Ch} {live : Int} (h : StIs w s m n D C live) (k : List UInt8) : k ∈ strKeys D ↔ k.length ≤ maxLen ∧ C ⟨k.toArray⟩ ≠ Option.none := by
  obtain ⟨es, rfl, hpw, hkl⟩ := map_keys h.map
  constructor
  · intro hk
    obtain ⟨p, hp, rfl⟩ := List.mem_map.1 hk
    obtain ⟨bs, h1, h2⟩ := hkl p hp
    rw [h1]
    refine ⟨h2, fun hc => ?_⟩
    have h3 := fun zd => h.keys ⟨bs.toArray⟩ zd (show bs.toArray.size ≤ maxLen by rw [List.size_toArray]; exact h2)
    have h4 := fun zd => WideAt.atKey_mem (k := .string bs) (d := p.2) zd trivial hpw (by rw [← h1]; exact hp)
    have h5 := h3 .nil
    have h6 := h3 (.lit (.bool true))
    simp only [strOf] at hc
    rw [hc] at h5 h6
    rw [show DataW.atKey (.map es) (.string bs) _ = _ from h4 _] at h5 h6
    rw [h5] at h6
    cases h6
  · rintro ⟨hl, hc⟩
    cases hh : Go.Maps.has (.map es : MD) (.string k) with
    | true =>
      obtain ⟨p, hp, hk⟩ := List.any_eq_true.1 hh
      exact List.mem_map.2 ⟨p, hp, by rw [WideAt.sameKey_eq hk]; rfl⟩
    | false =>
      have h1 := h.keys ⟨k.toArray⟩ .nil (show k.toArray.size ≤ maxLen by rw [List.size_toArray]; exact hl)
      have h2 := h.keys ⟨k.toArray⟩ (.lit (.bool true)) (show k.toArray.size ≤ maxLen by rw [List.size_toArray]; exact hl)
      change DataW.atKey _ (.string k) _ = _ at h1 h2
      rw [Go.Maps.atKey_of_not_has hh] at h1 h2
      cases hc' : C ⟨k.toArray⟩ with
      | none => exact absurd hc' hc
      | some c => rw [hc'] at h1; cases h1
theorem StIs.has_key {w : World} {s m n : Nat} {D : MD} {C : ByteArray → Option Ch} {live : Int} (h : StIs w s m n D C live) {k : List UInt8} (hk : k ∈ strKeys D) : k.length ≤ maxLen ∧ ∃ c, C ⟨k.toArray⟩ = some c :=
  ⟨((h.key_iff k).1 hk).1, Option.ne_none_iff_exists'.1 ((h.key_iff k).1 hk).2⟩
theorem StIs.nodup {w : World} {s m n : Nat} {D : MD} {C : ByteArray → Option Ch} {live : Int} (h : StIs w s m n D C live) : (strKeys D).Nodup := by
  obtain ⟨es, rfl, hpw, hkl⟩ := map_keys h.map
  show (es.map fun p => strOf p.1).Nodup
  rw [List.Nodup, List.pairwise_map]
  refine hpw.imp_of_mem fun {p q} hp hq hne e => hne ?_
  obtain ⟨a, ha, _⟩ := hkl p hp
  obtain ⟨b, hb, _⟩ := hkl q hq
  rw [ha, hb] at e ⊢
  exact congrArg Lit.string e

/-- all versions, by key and stamp -/
def versOf (D : MD) (V : ByteArray → List Ver) : List (ByteArray × Ver) := (sortedKeys D).flatMap fun k => (V ⟨k.toArray⟩).map fun x => (⟨k.toArray⟩, x)
def VersPost (L : List (ByteArray × Ver)) (w : World) (e : Ending) (w' : World) : Prop := ∃ v rs, e = .returned v ∧ VRows w' w.heap.size v rs ∧ rs.map VRow.plain = L ∧ Only NoneOf w w'

theorem info27' : (Tryz.prog.info? 47).map (fun i => (i.zero, i.size, i.bytes)) = some (some (.agg #[.string ⟨#[]⟩, .int .i64 0, .slice none 0 0, .bool false]), 4, 56) := by kernel_rfl

theorem flatMap_take_succ {α β : Type} (f : α → List β) : ∀ (l : List α) (i : Nat) (k : α), l[i]? = some k → (l.take (i + 1)).flatMap f = (l.take i).flatMap f ++ f k
  | [], _, _, h => by simp at h
  | x :: l, 0, k, h => by simp at h; simp [h]
  | x :: l, i + 1, k, h => by
    have := flatMap_take_succ f l i k (by simpa using h)
    simp only [List.take_succ_cons, List.flatMap_cons, this, List.append_assoc]
theorem flatMap_take_le {α β : Type} (f : α → List β) (l : List α) (i : Nat) (k : α) (h : l[i]? = some k) : ((l.take i).flatMap f).length + (f k).length ≤ (l.flatMap f).length := by
  rw [← List.length_append, ← flatMap_take_succ f l i k h]
  conv => rhs; rw [← List.take_append_drop (i + 1) l, List.flatMap_append, List.length_append]
  omega

/-- what region 8 has made -/
def VeT (v : Value) (key : ByteArray) (b : Nat) (st : Int) (A : Option Addr) (nb cp : Nat) (xb : List UInt8) (dead : Bool) (B : Nat) : Nat → Value → World → Prop
  | 0, x, _ => x = v
  | 1, x, _ => x = .string key
  | 2, x, _ => x = .pointer (some ⟨b, 0, none⟩)
  | 3, x, _ => x = .int .i64 st
  | 4, x, _ => x = .pointer (some ⟨b, 1, none⟩)
  | 5, x, _ => x = .slice A nb cp
  | 6, x, w => ∃ A' c', x = .slice A' xb.length c' ∧ RowB w B x xb
  | 7, x, _ => x = .pointer (some ⟨b, 2, none⟩)
  | 8, x, _ => x = .bool dead
  | 9, x, w => ∃ A' c', x = .agg #[.string key, .int .i64 st, .slice A' xb.length c', .bool dead] ∧ RowB w B (.slice A' xb.length c') xb
  | 10, x, w => ∃ A' c' b10, x = .slice (some ⟨b10, 0, none⟩) 1 1 ∧ RowB w B (.slice A' xb.length c') xb ∧ B ≤ b10 ∧ Blk w b10 47 #[.string key, .int .i64 st, .slice A' xb.length c', .bool dead]
  | _, _, _ => True
theorem VeT_keep (v : Value) (key : ByteArray) (b : Nat) (st : Int) (A : Option Addr) (nb cp : Nat) (xb : List UInt8) (dead : Bool) (B : Nat) (i : Nat) (x : Value) (w w' : World) (h : VeT v key b st A nb cp xb dead B i x w) (ho : Only NoneOf w w') : VeT v key b st A nb cp xb dead B i x w' :=
  match i, h with
  | 0, h | 1, h | 2, h | 3, h | 4, h | 5, h | 7, h | 8, h => h
  | 6, ⟨A', c', h1, h2⟩ => ⟨A', c', h1, h2.keep ho⟩
  | 9, ⟨A', c', h1, h2⟩ => ⟨A', c', h1, h2.keep ho⟩
  | 10, ⟨A', c', b10, h1, h2, h3, h4⟩ => ⟨A', c', b10, h1, h2.keep ho, h3, h4.only ho (fun h => h)⟩
  | _ + 11, _ => trivial

/-- where the list of versions stands, in the world B -/
def VAll (w : World) (lo : Nat) (Good : Nat → Prop) (L : List (ByteArray × Ver)) (B : World) : Prop :=
  Only NoneOf w B ∧ ∃ v rs, Blk B w.heap.size 23 #[v] ∧ VRows B lo v rs ∧ rs.map VRow.plain = L ∧ ∀ k, VBlocks v rs k → Good k
theorem VAll.only {w : World} {lo : Nat} {Good : Nat → Prop} {L : List (ByteArray × Ver)} {A B : World} {S : Nat → Prop} (h : VAll w lo Good L A) (ho : Only S A B) (h0 : ¬ S w.heap.size) (hG : ∀ k, lo ≤ k → Good k → ¬ S k) (hS : ∀ k, k < w.heap.size → ¬ S k) : VAll w lo Good L B := by
  obtain ⟨h1, v, rs, h2, h3, h4, h5⟩ := h
  refine ⟨h1.step ho (fun k hk hs => hS k hk hs), v, rs, h2.only ho h0, h3.only ho (fun k hk => hG k (h3.lt hk).1 (h5 k hk)), h4, h5⟩

theorem sorted_len (D : MD) : (sortedKeys D).length = Go.Maps.size D := by
  unfold sortedKeys
  rw [List.length_mergeSort]
  cases D <;> simp [strKeys, Go.Maps.size]

end Go.Proofs.YtbhihbhjmmeibaaGreat

/-
  A region that draws its order: its head makes memory or only reads, its tail may hand elements to a round. With a fence.
-/
namespace Go.Proofs.YtbhihbhjmmeibaaGreat
open Go.RowKit

section
variable {F : Fence} {n : Nat} {P : Program} {ops : Array Oper} {md : Region.Mode}
theorem wpAnyIn_of_seq {Q' : Exit → Act → World → Prop} : ∀ (l : List Oper) (k : Nat) (listed : Array Bool) (a : Act) (w : World), (∀ j, l[j]? = ops[k + j]?) →
    Region.seqB md ops l.length k listed = true → wpListIn F n P ops Q' l a w → wpAnyIn F n P md ops Q' l.length listed a w
  | [], _, _, _, _, _, hB, h => ⟨by simpa [Region.seqB] using hB, h⟩
  | o :: l, k, listed, a, w, hl, hB, h => by
    have h0 : ops[k]? = some o := by simpa using (hl 0).symm
    simp only [List.length_cons, Region.seqB, Bool.and_eq_true, decide_eq_true_eq] at hB
    refine ⟨fun h1 => (by rw [hB.1] at h1; cases h1), fun i hi => ?_⟩
    rw [hB.1] at hi
    have hik : i = k := by simpa using hi
    subst hik
    have hw : wpOpIn F n P ops Q' i (wpListIn F n P ops Q' l) a w := by unfold wpOpIn; simp only [h0]; exact h
    exact wpOpIn_mono (fun a' w' h' => wpAnyIn_of_seq l (i + 1) _ a' w' (fun j => by have := hl (j + 1); simpa [Nat.add_assoc, Nat.add_comm 1 j] using this) hB.2 h') hw
end

section
variable {F : Fence} {n' : Nat} {P : Program} {ops : Array Oper} {W : World} {n : Nat} {a0 : Act} {T : Nat → Value → World → Prop} {al : Nat → Bool}
theorem head_anyIn {Q : Exit → Act → World → Prop} {l : List Oper} {a0 : Act} {W : World} (n m : Nat) (T : Nat → Value → World → Prop) (al : Nat → Bool) (hsz : a0.tmps.size = m) (hB : regionB l.toArray n m = true)
    (hT : ∀ i v w w', T i v w → Only NoneOf w w' → T i v w') (hal : ∀ i v w, al i = true → T i v w → ∃ b, v = .pointer (some ⟨b, 0, none⟩) ∧ b < w.heap.size)
    (hstep : ∀ i o, i < n → l[i]? = some o → ∀ a w, Aft W w → (∀ s, (∀ j, j < n → dstOf l.toArray j ≠ s) → a.tmps.getD s undef = a0.tmps.getD s undef) →
      (∀ j, j < n → Region.waitsFor .any l.toArray i j = true → T j (a.tmps.getD (dstOf l.toArray j) undef) w) → o.wp P a w (Left T al i o a w) Q)
    (hop : ∀ (o : Oper) (a : Act) (w : World) (K : Act → World → Prop), o ∈ l.take n → o.wp P a w K Q → o.wpIn F n' P a w K Q)
    (hend : ∀ (V : Nat → Value) w, Aft W w → (∀ i, i < n → T i (V i) w) → (∀ i j, i < n → j < n → i ≠ j → al i = true → al j = true → V i ≠ V j) → wpListIn F n' P l.toArray Q (l.drop n) (endFrame l.toArray n a0 V) w) :
    wpAnyIn F n' P .any l.toArray Q l.toArray.size (Array.replicate l.toArray.size false) a0 { W with drawn := W.drawn + 1 } := by
  simp only [regionB, Bool.and_eq_true, decide_eq_true_eq] at hB
  obtain ⟨⟨⟨⟨⟨hn, hs⟩, hc⟩, hb⟩, hd'⟩, hseq⟩ := hB
  have hd : ∀ i, i < n → dstOf l.toArray i < a0.tmps.size := fun i hi => by
    have := List.all_eq_true.1 hd' i (List.mem_range.2 hi)
    rw [hsz]
    simpa using this
  have hdl : (l.drop n).length = l.toArray.size - n := by simp
  have key : ∀ (f : Nat) (listed : Array Bool) (a : Act) (w : World), (List.range n).countP (fun i => !listed.getD i false) = f → HeadInv .any l.toArray n listed → HInv l.toArray n a0 W T al listed a w →
      wpAnyIn F n' P .any l.toArray Q (f + (l.toArray.size - n)) listed a w := by
    intro f
    induction f with
    | zero =>
      intro listed a w hcount hinv inv
      have hl : ∀ i, i < n → listed.getD i false = true := fun i hi => by
        have := List.countP_eq_zero.1 hcount i (List.mem_range.2 hi)
        simpa using this
      have he : listed = Array.ofFn fun i : Fin l.toArray.size => decide (i.1 < n) := by
        refine Array.ext (by simp [hinv.size]) fun i h1 h2 => ?_
        rw [Array.getElem_ofFn]
        by_cases hi : i < n
        · have := hl i hi
          simpa [h1, hi] using this
        · have := hinv.tail i (by omega) (by rw [← hinv.size]; exact h1)
          simpa [h1, hi] using this
      have hend' := hend (fun i => a.tmps.getD (dstOf l.toArray i) undef) w inv.aft (fun i hi => inv.held i hi (hl i hi)) (fun i j hi hj hij ha hb => inv.apart i j hi hj hij (hl i hi) (hl j hj) ha hb)
      rw [← inv.end hd] at hend'
      have := wpAnyIn_of_seq (md := .any) (Q' := Q) (l.drop n) n listed a w (fun j => by simp [List.getElem?_drop]) (by rw [hdl, he]; exact hseq) hend'
      rw [hdl] at this
      rw [Nat.zero_add]
      exact this
    | succ f ih =>
      intro listed a w hcount hinv inv
      rw [show f + 1 + (l.toArray.size - n) = (f + (l.toArray.size - n)) + 1 by omega]
      -- one that has not come up
      obtain ⟨i0, hi0, hu0⟩ : ∃ i, i < n ∧ listed.getD i false = false := by
        have : 0 < (List.range n).countP (fun i => !listed.getD i false) := by omega
        obtain ⟨i, hi, hu⟩ := List.countP_pos_iff.1 this
        exact ⟨i, List.mem_range.1 hi, by simpa using hu⟩
      have hus : ∀ i, i < n → listed.getD i false = false → listed.getD i true = false := fun i hi hu => getD_in (by rw [hinv.size]; omega) hu
      have htail := tail_waits hs hc hn hinv _ i0 rfl hi0 (hus i0 hi0 hu0)
      refine ⟨fun hr => ?_, fun i hi => ?_⟩
      · exfalso
        -- the least is ready
        have : ∀ k i, i < k → i < n → listed.getD i false = false → ∃ j, j ∈ Region.ready .any l.toArray listed := by
          intro k
          induction k with
          | zero => intro i hi; omega
          | succ k ihk =>
            intro i hik hi hu
            by_cases hlow : ∃ j, j < i ∧ listed.getD j false = false
            · obtain ⟨j, hj, huj⟩ := hlow
              exact ihk j (by omega) (by omega) huj
            · obtain ⟨o, ho, _, _, hback, _⟩ := headB_spec hb hi
              refine ⟨i, mem_ready.2 ⟨hus i hi hu, o, ho, fun e he hbe => ?_⟩⟩
              have hlt := hback e he hbe
              cases hle : listed.getD e.on false with
              | true => rfl
              | false => exact absurd ⟨e.on, hlt, hle⟩ hlow
        obtain ⟨j, hj⟩ := this (i0 + 1) i0 (by omega) hi0 hu0
        rw [hr] at hj
        cases hj
      · have hin : i < n := by
          rcases Nat.lt_or_ge i n with h | h
          · exact h
          · exact absurd hi (htail i h)
        obtain ⟨hun, o, ho, hall⟩ := mem_ready.1 hi
        obtain ⟨o', ho', hgd, _, _, _⟩ := headB_spec hb hin
        obtain rfl : o' = o := Option.some.inj (ho'.symm.trans ho)
        have hw := hstep i o' hin (by simpa using ho) a w inv.aft (fun s hs => inv.other s fun j hj _ => hs j hj) (fun j hj hwt => by
          obtain ⟨oj, hoj, e, he, hbe, hon⟩ := Region.waitsFor_spec hwt
          obtain rfl : oj = o' := Option.some.inj (hoj.symm.trans ho)
          have := hall e he hbe
          rw [hon] at this
          exact inv.held j hj this)
        have hwp : wpOpIn F n' P l.toArray Q i (Left T al i o' a w) a w := by
          unfold wpOpIn
          simp only [ho]
          rw [if_pos (by unfold Region.wanted; rw [hgd])]
          exact hop o' a w _ (by
            have hlo : l[i]? = some o' := by simpa using ho
            exact List.mem_of_getElem? (i := i) (by rw [List.getElem?_take_of_lt hin]; exact hlo)) hw
        refine wpOpIn_mono (fun a' w' h' => ih _ a' w' ?_ (hinv.set hi hin) (inv.put hb hd hT hal hin ho hun h')) hwp
        have hself : (listed.setIfInBounds i true).getD i false = true := by
          have : i < listed.size := by rw [hinv.size]; omega
          simp [this]
        have := countP_less (fun i => !listed.getD i false) (fun j => !(listed.setIfInBounds i true).getD j false) i (List.range n) List.nodup_range (List.mem_range.2 hin) (by rw [getD_both hun]; rfl) (by rw [hself]; rfl) (fun j hj => by rw [getD_set_ne false (Ne.symm hj)])
        omega
  have h0 := key n (Array.replicate l.toArray.size false) a0 { W with drawn := W.drawn + 1 } (by
      rw [List.countP_eq_length.2 (fun i _ => by rw [getD_replicate_false]; rfl)]
      simp)
    ⟨by simp, fun j oj _ hl => (by rw [getD_replicate_false] at hl; cases hl), fun t _ ht => getD_in (by simpa using ht) (getD_replicate_false _ _)⟩
    ⟨(Only.refl _ _).drew, rfl, rfl, fun _ _ => rfl, fun i _ hl => (by rw [getD_replicate_false] at hl; cases hl), fun i j _ _ _ hl => (by rw [getD_replicate_false] at hl; cases hl)⟩
  rw [show n + (l.toArray.size - n) = l.toArray.size by omega] at h0
  exact h0


theorem wpIn_of_wp_wide {m : Nat} {Q : Exit → Act → World → Prop} {o : Oper} {a : Act} {w : World} {K : Act → World → Prop} (h : o.wp P a w K Q) : o.wpIn Fence.wide m P a w K Q := by
  unfold Oper.wp at h
  unfold Oper.wpIn
  refine ⟨fun _ _ => trivial, ?_⟩
  rw [show Oper.semAt Fence.wide.round a.eval o = execOp a.eval o from rfl]
  generalize (execOp a.eval o).run P w = res at *
  cases res with
  | ok x w' =>
    cases x <;> simp only [Oper.upon] at h <;> simp only [Oper.uponIn]
    case value u => exact h
    case skip => exact h
    case defer d => exact h
    case enter f args => exact ⟨fun hd => (by cases hd), callsIn_wide.2 h⟩
    case row f args => exact ⟨fun hd => (by cases hd), fun c cs _ => let ⟨v, w', hr, s⟩ := h c cs; ⟨v, w', hr, stepsIn_wide.2 s⟩⟩
  | halt x w' => cases x <;> simp only [Oper.upon] at h <;> simp only [Oper.uponIn]; exact h

/-- The head of a region that draws its order; the tail with the fence's walk. -/
theorem wpIn_region_headT {id : Nat} {Q : Exit → Act → World → Prop} {l : List Oper} {a0 : Act} {W : World} (n m : Nat) (T : Nat → Value → World → Prop) (al : Nat → Bool) (hsz : a0.tmps.size = m) (hm : P.follows .mixedOrders = true) (hB : regionB l.toArray n m = true)
    (hT : ∀ i v w w', T i v w → Only NoneOf w w' → T i v w') (hal : ∀ i v w, al i = true → T i v w → ∃ b, v = .pointer (some ⟨b, 0, none⟩) ∧ b < w.heap.size)
    (hstep : ∀ i o, i < n → l[i]? = some o → ∀ a w, Aft W w → (∀ s, (∀ j, j < n → dstOf l.toArray j ≠ s) → a.tmps.getD s undef = a0.tmps.getD s undef) →
      (∀ j, j < n → Region.waitsFor .any l.toArray i j = true → T j (a.tmps.getD (dstOf l.toArray j) undef) w) → o.wp P a w (Left T al i o a w) Q)
    (hend : ∀ (V : Nat → Value) w, Aft W w → (∀ i, i < n → T i (V i) w) → (∀ i j, i < n → j < n → i ≠ j → al i = true → al j = true → V i ≠ V j) → wpListIn Fence.wide n' P l.toArray Q (l.drop n) (endFrame l.toArray n a0 V) w) :
    (Code.region id l.toArray true).wpIn Fence.wide n' P Q a0 W :=
  wpIn_region_any hm (head_anyIn n m T al hsz hB hT hal hstep (fun _ _ _ _ _ h => wpIn_of_wp_wide h) hend)

/-- The same in a round. -/
theorem wpIn_region_headR {id r : Nat} {Q : Exit → Act → World → Prop} {l : List Oper} {a0 : Act} {W : World} (n m : Nat) (T : Nat → Value → World → Prop) (al : Nat → Bool) (hsz : a0.tmps.size = m) (hm : P.follows .mixedOrders = true) (hB : regionB l.toArray n m = true)
    (hnd : noDefers (l.take n) = true)
    (hT : ∀ i v w w', T i v w → Only NoneOf w w' → T i v w') (hal : ∀ i v w, al i = true → T i v w → ∃ b, v = .pointer (some ⟨b, 0, none⟩) ∧ b < w.heap.size)
    (hstep : ∀ i o, i < n → l[i]? = some o → ∀ a w, Aft W w → (∀ s, (∀ j, j < n → dstOf l.toArray j ≠ s) → a.tmps.getD s undef = a0.tmps.getD s undef) →
      (∀ j, j < n → Region.waitsFor .any l.toArray i j = true → T j (a.tmps.getD (dstOf l.toArray j) undef) w) → o.wp P a w (Left T al i o a w) Q)
    (hend : ∀ (V : Nat → Value) w, Aft W w → (∀ i, i < n → T i (V i) w) → (∀ i j, i < n → j < n → i ≠ j → al i = true → al j = true → V i ≠ V j) → wpListIn (Fence.wide.inRound r) n' P l.toArray Q (l.drop n) (endFrame l.toArray n a0 V) w) :
    (Code.region id l.toArray true).wpIn (Fence.wide.inRound r) n' P Q a0 W :=
  wpIn_region_any hm (head_anyIn n m T al hsz hB hT hal hstep (fun _ _ _ _ ho h => wpIn_of_wp_round (noDefers_spec hnd ho) h) hend)
end
end Go.Proofs.YtbhihbhjmmeibaaGreat

/-
  A range over a function whose elements are memory made in each round: a contract of iterators, and the caller's law. (As in Iter.)
-/
namespace Go.Proofs.YtbhihbhjmmeibaaGreat
open Go.RowKit

/-- In the world W a call of the function gf with a loop's round tells elements, one behind the other, till a round says 'no more'. An element is told by arguments that hold it ('Enc', over the memory from a number on). -/
def IterM {α : Type} (P : Program) (gf : Nat) (lb : Array Value) (Enc : Nat → α → Array Value → World → Prop) (xs : List α) (Kp : Nat → Prop) (W : World) : Prop :=
  ∀ (l : Nat) (J Jx : Nat → List α → World → Prop),
    (∀ E pre A B, J E pre A → Only (Ours W.heap.size E) A B → J E pre B) →
    (∀ E pre A B, Jx E pre A → Only (Ours W.heap.size E) A B → Jx E pre B) →
    (∀ E B, W.heap.size ≤ E → E ≤ B.heap.size → Only NoneOf W B → J E [] B) →
    (∀ E pre x args A0 A, W.heap.size ≤ E → E ≤ A0.heap.size → J E pre A0 → Only NoneOf A0 A → Enc A0.heap.size x args A → pre ++ [x] <+: xs →
      YieldAt Fence.wide 1 P l args A fun e B => (e = .returned (.bool true) ∧ J E (pre ++ [x]) B ∧ Only (Theirs W.heap.size E Kp) A B) ∨ (e = .returned (.bool false) ∧ Jx E (pre ++ [x]) B ∧ Only (Theirs W.heap.size E Kp) A B)) →
    CallsIn Fence.wide 1 P gf (#[.func (.yield l) #[] #[]] ++ lb) W fun e B => (∃ v, e = .returned v) ∧ ∃ E, W.heap.size ≤ E ∧ (J E xs B ∨ ∃ pre, pre <+: xs ∧ Jx E pre B)

theorem range_ownM {n : Nat} {P : Program} {α : Type} {g : Operand} {ps : Array Tmp} {assign body : Code} {Q : Exit → Act → World → Prop} {a : Act} {w : World}
    (h1 : 1 ≤ n) {gf : Nat} {lb : Array Value} (hg : a.eval g = .func (.func gf) #[] lb) (eg : ∀ args w, (callFunc gf args).run P w = .ok (.enter gf args) w)
    {Enc : Nat → α → Array Value → World → Prop} {xs : List α} {Kp : Nat → Prop} (hit : ∀ W, Only NoneOf w W → W.heap.size = w.heap.size + 2 → IterM P gf lb Enc xs Kp W) (hps : ∀ n x args A, Enc n x args A → args.size = ps.size) (hKp : ∀ {k}, w.heap.size ≤ k → ¬ Kp k)
    (I : Nat → List α → World → Prop) (Ix : Code → Nat → List α → World → Prop)
    (hI : ∀ E pre A B, I E pre A → Only (Ours w.heap.size E) A B → I E pre B) (hIx : ∀ c E pre A B, Ix c E pre A → Only (Ours w.heap.size E) A B → Ix c E pre B)
    (h0 : ∀ E B, w.heap.size + 2 ≤ E → E ≤ B.heap.size → Only NoneOf w B → I E [] B)
    (Ax : Nat → α → Act → World → Prop) (hAx : ∀ n x a' A B, Ax n x a' A → Only (· = w.heap.size + 1) A B → Ax n x a' B)
    (hassign : ∀ (x : α) (args : Array Value) (A0 W : World) (K : Act → World → Prop), x ∈ xs → w.heap.size + 2 ≤ A0.heap.size → Only NoneOf A0 W → Enc A0.heap.size x args W → (∀ a' W', Only NoneOf W W' → Ax A0.heap.size x a' W' → K a' W') →
      assign.wpIn (Fence.wide.inRound (w.heap.size + 1)) (n - 1 - 1) P (Exit.then K (fun _ _ _ => False)) { tmps := (ps.zip args).foldl (fun t (p, v) => t.setIfInBounds p v) a.tmps, defers := [] } W)
    (hbody : ∀ (E : Nat) (pre : List α) (x : α) (a' : Act) (A0 W : World), (∃ r, W.heap[w.heap.size + 1]? = some (.loop r)) → w.heap.size + 2 ≤ E → E ≤ A0.heap.size → pre ++ [x] <+: xs → I E pre A0 → Only (Ours w.heap.size E) A0 W → Ax A0.heap.size x a' W →
      body.wpIn (Fence.wide.inRound (w.heap.size + 1)) (n - 1 - 1) P (roundEnds w.heap.size E Kp I Ix (pre ++ [x]) W) a' W)
    (hdone : ∀ (E : Nat) (W : World), w.heap.size + 2 ≤ E → I E xs W → W.heap[w.heap.size]? = some (.deferred (some [])) → Q .normal { a with defers := { target := .collected w.heap.size, args := #[] } :: a.defers } W)
    (hstop : ∀ (E : Nat) (c : Code) (pre : List α) (W : World), w.heap.size + 2 ≤ E → pre <+: xs → Ix c E pre W → W.heap[w.heap.size]? = some (.deferred (some [])) →
      c.wpIn Fence.wide n P Q { a with defers := { target := .collected w.heap.size, args := #[] } :: a.defers } W) :
    (Code.rangeFunc g ps assign body).wpIn Fence.wide n P Q a w := by
  refine wpIn_rangeFunc ?_
  intro fn hfn
  rw [show Fence.wide.round = none from rfl]
  obtain ⟨rec, hrec⟩ : ∃ rec : LoopState → Option Code → Loop, rec = fun st pe => { state := st, pending := pe, fn, tmps := a.tmps, params := ps, assign, body, defers := w.heap.size } := ⟨_, rfl⟩
  obtain ⟨W1, hW1⟩ : ∃ W1, (w.alloc (.deferred (some []))).alloc (.loop (rec .ready none)) = W1 := ⟨_, rfl⟩
  have hz : W1.heap.size = w.heap.size + 2 := by rw [← hW1]; simp
  have hO1 : Only NoneOf w W1 := by rw [← hW1]; exact ((Only.refl _ _).alloc _).alloc _
  have hL1 : W1.heap[w.heap.size + 1]? = some (.loop (rec .ready none)) := by
    rw [← hW1]; have := World.alloc_heap_new (w.alloc (.deferred (some []))) (.loop (rec .ready none)); rwa [World.size_alloc] at this
  have hK1 : W1.heap[w.heap.size]? = some (.deferred (some [])) := by
    rw [← hW1]; exact (Below.heap_alloc _ _ _ (by simp)).trans (World.alloc_heap_new w _)
  refine ⟨w.heap.size + 1, [{ target := .collected w.heap.size, args := #[] }], W1, { target := .fn (.func gf) lb, args := #[.func (.yield (w.heap.size + 1)) #[] #[]] }, W1, gf,
    #[.func (.yield (w.heap.size + 1)) #[] #[]] ++ lb, W1, ?_, ?_, ?_, ?_, fun _ => h1, ?_⟩
  · rw [← hW1, hrec]; exact run_enterLoop_outer _ _ _ _ _
  · simp only [resolve, hg]
    simp [go_sem]
  · intro f' hf'; simp [Target.leads] at hf'; subst hf'; exact trivial
  · simp [invoke, go_sem, eg]
  · have sub : ∀ {E : Nat} {A B : World}, Only (Ours W1.heap.size E) A B → Only (Ours w.heap.size E) A B := fun h => h.mono fun k _ hk => ⟨by have := hk.1; omega, hk.2⟩
    have own : ∀ {E l : Nat} {A : World} (o : Obj), w.heap.size ≤ l → l < E → Only (Ours w.heap.size E) A (A.putObj l o) := fun o h2 h3 => (Only.refl _ _).putObj (.inl ⟨h2, h3⟩) o
    have rec_keeps : ∀ {E : Nat} {A B : World} {k : Nat} {o : Obj}, k < W1.heap.size → A.heap[k]? = some o → Only (Ours W1.heap.size E) A B → B.heap[k]? = some o := fun hk ho h => by
      have hlt := (Array.getElem?_eq_some_iff.1 ho).1
      exact (h.block _ hlt (fun hh => by have := hh.1; omega)).trans ho
    refine CallsIn.deep (n - 1) ((hit W1 hO1 hz (w.heap.size + 1)
      (fun E pre W => W1.heap.size ≤ E ∧ I E pre W ∧ W.heap[w.heap.size + 1]? = some (.loop (rec .ready none)) ∧ W.heap[w.heap.size]? = some (.deferred (some [])))
      (fun E pre W => W1.heap.size ≤ E ∧ ∃ c, Ix c E pre W ∧ W.heap[w.heap.size + 1]? = some (.loop (rec .done (some c))) ∧ W.heap[w.heap.size]? = some (.deferred (some [])))
      (fun E pre A B hs h => ⟨hs.1, hI E pre A B hs.2.1 (sub h), rec_keeps (by omega) hs.2.2.1 h, rec_keeps (by omega) hs.2.2.2 h⟩)
      (fun E pre A B hs h => by
        obtain ⟨hE, c, hc, hl, hk⟩ := hs
        exact ⟨hE, c, hIx c E pre A B hc (sub h), rec_keeps (by omega) hl h, rec_keeps (by omega) hk h⟩)
      (fun E B hE hB h => ⟨hE, h0 E B (by omega) hB (hO1.trans h), (h.block _ (by omega) (fun x => x)).trans hL1, (h.block _ (by omega) (fun x => x)).trans hK1⟩)
      ?_).mono ?_)
    · rintro E pre x args A0 W hE hEW ⟨_, hi0, hl0, hk0⟩ hA0 henc hpre
      have hl := (hA0.block _ (Array.getElem?_eq_some_iff.1 hl0).1 (fun x => x)).trans hl0
      have hk := (hA0.block _ (Array.getElem?_eq_some_iff.1 hk0).1 (fun x => x)).trans hk0
      have hi := hI E pre A0 W hi0 (hA0.mono fun _ _ h => h.elim)
      have hzA := hA0.size
      have hlt : w.heap.size + 1 < W.heap.size := (Array.getElem?_eq_some_iff.1 hl).1
      have hy := run_yield (P := P) (args := args) hl (by rw [hrec]; exact hps _ x _ _ henc)
      rw [hrec] at hy
      refine YieldAt.deep (m := n - 1 - 1) 1 ⟨fn, _, assign, body, hy, roundIn_of_wpIn hfn (hassign x args A0 W _ (hpre.subset (by simp)) (by omega) hA0 henc ?_)⟩
      clear hy
      intro a' Wa hoa hax
      have hla := (hoa.block _ hlt (fun x => x)).trans hl
      have hka := (hoa.block _ (by omega) (fun x => x)).trans hk
      have hlta : w.heap.size + 1 < Wa.heap.size := (Array.getElem?_eq_some_iff.1 hla).1
      refine ⟨_, run_beginRound hla (by rw [hrec]), ?_⟩
      have hl2 : (Wa.putObj (w.heap.size + 1) (.loop { rec .ready none with state := .busy })).heap[w.heap.size + 1]? = some (.loop { rec .ready none with state := .busy }) := World.putObj_heap_same hlta
      have hk2 : (Wa.putObj (w.heap.size + 1) (.loop { rec .ready none with state := .busy })).heap[w.heap.size]? = some (.deferred (some [])) := (World.putObj_heap_other (by omega)).trans hka
      have hz2 : (Wa.putObj (w.heap.size + 1) (.loop { rec .ready none with state := .busy })).heap.size = Wa.heap.size := by simp
      have hsz := hoa.size
      refine wpIn_mono (hbody E pre x a' A0 _ ⟨_, hl2⟩ (by omega) hEW hpre hi0 (Only.putObj ((hA0.trans hoa).mono fun _ _ h => h.elim) (.inl ⟨by omega, by omega⟩) _) (hAx _ x a' _ _ hax (Only.putObj (S := (· = w.heap.size + 1)) (Only.refl _ _) (.inl rfl) _))) ?_
      have fin : ∀ (jump : Option Code) (W3 : World), Only (Theirs w.heap.size E Kp) (Wa.putObj (w.heap.size + 1) (.loop { rec .ready none with state := .busy })) W3 →
          (Instr.endRound (w.heap.size + 1) jump).run P W3 = .ok (.bool jump.isNone) (W3.putObj (w.heap.size + 1) (.loop (rec (if jump.isNone then .ready else .done) jump))) ∧
          (W3.putObj (w.heap.size + 1) (.loop (rec (if jump.isNone then .ready else .done) jump))).heap[w.heap.size + 1]? = some (.loop (rec (if jump.isNone then .ready else .done) jump)) ∧
          (W3.putObj (w.heap.size + 1) (.loop (rec (if jump.isNone then .ready else .done) jump))).heap[w.heap.size]? = some (.deferred (some [])) ∧
          Only (Theirs W1.heap.size E Kp) W (W3.putObj (w.heap.size + 1) (.loop (rec (if jump.isNone then .ready else .done) jump))) := fun jump W3 hk3 => by
        have hl3 := (hk3.block (w.heap.size + 1) (by rw [World.putObj_size]; omega) (fun h => by rcases h with h | h <;> omega)).trans hl2
        have hd3 := (hk3.block w.heap.size (by rw [World.putObj_size]; omega) (fun h => by rcases h with h | h <;> omega)).trans hk2
        have hr := run_endRound (P := P) jump hl3
        refine ⟨by rw [hrec] at hr ⊢; exact hr, World.putObj_heap_same (Array.getElem?_eq_some_iff.1 hl3).1, (World.putObj_heap_other (by omega)).trans hd3, ?_⟩
        refine Only.putObj ?_ (.inl (.inl ⟨by omega, hKp (by omega)⟩)) _
        refine Only.step (S' := Theirs w.heap.size E Kp) (Only.putObj (hoa.mono fun _ _ h => h.elim) (.inl (.inl ⟨by omega, hKp (by omega)⟩)) _) hk3 (fun k _ h => ?_)
        rcases h with h | h
        · exact .inl ⟨by omega, h.2⟩
        · exact .inr h
      rintro e a3 W3 hp
      cases e with
      | normal =>
        obtain ⟨hk3, hi3⟩ := hp
        obtain ⟨hr, hl4, hk4, ho4⟩ := fin none W3 hk3
        exact ⟨_, _, hr, .inl ⟨rfl, ⟨hE, hI E _ _ _ hi3 (own _ (by omega) (by omega)), hl4, hk4⟩, ho4⟩⟩
      | ret =>
        obtain ⟨hk3, hi3⟩ := hp
        obtain ⟨hr, hl4, hk4, ho4⟩ := fin (some .ret) W3 hk3
        exact ⟨_, _, hr, .inr ⟨rfl, ⟨hE, .ret, hIx _ E _ _ _ hi3 (own _ (by omega) (by omega)), hl4, hk4⟩, ho4⟩⟩
      | exit id =>
        obtain ⟨hk3, hi3⟩ := hp
        obtain ⟨hr, hl4, hk4, ho4⟩ := fin (some (.exit id)) W3 hk3
        exact ⟨_, _, hr, .inr ⟨rfl, ⟨hE, .exit id, hIx _ E _ _ _ hi3 (own _ (by omega) (by omega)), hl4, hk4⟩, ho4⟩⟩
      | goto t =>
        obtain ⟨hk3, hi3⟩ := hp
        obtain ⟨hr, hl4, hk4, ho4⟩ := fin (some (.goto t)) W3 hk3
        exact ⟨_, _, hr, .inr ⟨rfl, ⟨hE, .goto t, hIx _ E _ _ _ hi3 (own _ (by omega) (by omega)), hl4, hk4⟩, ho4⟩⟩
      | panic ch => exact hp.elim
      | outgrown => exact hp.elim
    · rintro e W2 ⟨⟨v, rfl⟩, E, hE, (⟨_, hi, hl, hk⟩ | ⟨pre, hpre, _, c, hi, hl, hk⟩)⟩
      · exact ⟨none, _, by have := run_endLoop (P := P) hl (by rw [hrec]; simp); rw [hrec] at this; exact this, hdone E _ (by omega) (hI E _ _ _ hi (own _ (by omega) (by omega))) ((World.putObj_heap_other (by omega)).trans hk)⟩
      · exact ⟨some c, _, by have := run_endLoop (P := P) hl (by rw [hrec]; simp); rw [hrec] at this; exact this, hstop E c pre _ (by omega) hpre (hIx c E _ _ _ hi (own _ (by omega) (by omega))) ((World.putObj_heap_other (by omega)).trans hk)⟩

end Go.Proofs.YtbhihbhjmmeibaaGreat

/-
  Layer 14: lists of rows, each with bytes of its own, in memory; pairs.
-/
namespace Go.Proofs.YtbhihbhjmmeibaaGreat
open Go.RowKit

section
variable {α : Type} {t : TypeId} {sz : Nat} {cells : α → List Value} {val : α → Value} {bs : α → List UInt8}
/-- a list of rows that is its own, each row's bytes of its own -/
structure BRows (t : TypeId) (sz : Nat) (cells : α → List Value) (val : α → Value) (bs : α → List UInt8) (w : World) (base : Nat) (v : Value) (rs : List α) : Prop where
  own : w.ownsRow base t sz v rs.length (rs.flatMap cells)
  vals : ∀ r ∈ rs, RowB w base (val r) (bs r)
  apart : ∀ r ∈ rs, ∀ g, v.ownBlock = some g → (val r).ownBlock ≠ some g
  dist : rs.Pairwise fun a b => ∀ g, (val a).ownBlock = some g → (val b).ownBlock ≠ some g
/-- its blocks -/
def BBlocks (val : α → Value) (v : Value) (rs : List α) (k : Nat) : Prop := v.ownBlock = some k ∨ ∃ r ∈ rs, (val r).ownBlock = some k

theorem BRows.lt {w : World} {base : Nat} {v : Value} {rs : List α} (h : BRows t sz cells val bs w base v rs) {k : Nat} (hk : BBlocks val v rs k) : base ≤ k ∧ k < w.heap.size := by
  rcases hk with hk | ⟨r, hr, hk⟩
  · exact ownsRow_lt h.own hk
  · exact ownsRow_lt (h.vals r hr) hk
theorem BRows.only {w w' : World} {S : Nat → Prop} {base : Nat} {v : Value} {rs : List α} (h : BRows t sz cells val bs w base v rs) (ho : Only S w w') (hS : ∀ k, BBlocks val v rs k → ¬ S k) : BRows t sz cells val bs w' base v rs :=
  ⟨ownsRow_only h.own ho (fun g hg => hS g (.inl hg)), fun r hr => (h.vals r hr).only ho (fun g hg => hS g (.inr ⟨r, hr, hg⟩)), h.apart, h.dist⟩
theorem BRows.keep {w w' : World} {base : Nat} {v : Value} {rs : List α} (h : BRows t sz cells val bs w base v rs) (ho : Only NoneOf w w') : BRows t sz cells val bs w' base v rs := h.only ho (fun _ _ h => h)
theorem BRows.nil (w : World) (base : Nat) : BRows t sz cells val bs w base (.slice none 0 0) [] := ⟨⟨by simp, .inl ⟨rfl, rfl⟩⟩, fun _ h => (by cases h), fun _ h => (by cases h), List.Pairwise.nil⟩
theorem BRows.base {w : World} {b b' : Nat} {v : Value} {rs : List α} (h : BRows t sz cells val bs w b v rs) (hb : b' ≤ b) : BRows t sz cells val bs w b' v rs :=
  ⟨ownsRow_base h.own hb, fun r hr => (h.vals r hr).base hb, h.apart, h.dist⟩
theorem BRows.in_heap {w : World} {b : Nat} {v : Value} {rs : List α} (h : BRows t sz cells val bs w b v rs) {k : Nat} (hk : BBlocks val v rs k) : ∃ t cs, w.heap[k]? = some (.cells cs t) := by
  rcases hk with hk | ⟨r, hr, hk⟩
  · exact ownsRow_cells h.own hk
  · exact ownsRow_cells (h.vals r hr) hk

/-- A row more. -/
theorem BRows.snoc {w w' : World} {base : Nat} {v v' : Value} {rs : List α} {r : α} (h : BRows t sz cells val bs w base v rs) (ho : Only (fun k => v.ownBlock = some k) w w')
    (hown : w'.ownsRow base t sz v' (rs.length + 1) (rs.flatMap cells ++ cells r)) (hat : v'.ownBlock = v.ownBlock ∨ v'.ownBlock = some w.heap.size) (hr : RowB w base (val r) (bs r))
    (hnew : ∀ g, (val r).ownBlock = some g → ¬ BBlocks val v rs g) :
    BRows t sz cells val bs w' base v' (rs ++ [r]) := by
  have hb : ∀ x ∈ rs ++ [r], RowB w base (val x) (bs x) ∧ ∀ g, v.ownBlock = some g → (val x).ownBlock ≠ some g := fun x hx => by
    rcases List.mem_append.1 hx with hx | hx
    · exact ⟨h.vals x hx, h.apart x hx⟩
    · obtain rfl : x = r := by simpa using hx
      exact ⟨hr, fun g hg e => hnew g e (.inl hg)⟩
  refine ⟨by rw [List.length_append]; simpa using hown, fun x hx => ?_, fun x hx g hg e => ?_, ?_⟩
  · exact (hb x hx).1.only ho (fun g hg e => (hb x hx).2 g e hg)
  · rcases hat with hat | hg'
    · rw [hat] at hg
      exact (hb x hx).2 g hg e
    · rw [hg'] at hg
      cases hg
      have := (ownsRow_lt (hb x hx).1 e).2
      omega
  · rw [List.pairwise_append]
    refine ⟨h.dist, List.pairwise_singleton _ _, fun a ha b hb' g hg e => ?_⟩
    obtain rfl : b = r := by simpa using hb'
    exact hnew g e (.inr ⟨a, ha, hg⟩)
theorem bblocks_snoc {v v' : Value} {rs : List α} {r : α} {k n : Nat} (hat : v'.ownBlock = v.ownBlock ∨ v'.ownBlock = some n) (h : BBlocks val v' (rs ++ [r]) k) : BBlocks val v rs k ∨ (val r).ownBlock = some k ∨ k = n := by
  rcases h with h | ⟨x, hx, h⟩
  · rcases hat with e | hg
    · exact .inl (.inl (e ▸ h))
    · rw [hg] at h
      cases h
      exact .inr (.inr rfl)
  · rcases List.mem_append.1 hx with hx | hx
    · exact .inl (.inr ⟨x, hx, h⟩)
    · obtain rfl : x = r := by simpa using hx
      exact .inr (.inl h)
/-- A slice that owns its rows has this form. -/
theorem ownsRow_slice {w : World} {base n : Nat} {v : Value} {xs : List Value} (h : w.ownsRow base t sz v n xs) : ∃ A c, v = .slice A n c := by
  rcases h.2 with ⟨hv, h0⟩ | ⟨g, cap, cur, hv, _⟩
  · exact ⟨none, 0, by rw [hv, h0]⟩
  · exact ⟨_, _, hv⟩
end

/-- a pair as a list of pairs holds it -/
structure PRow where
  key : ByteArray
  val : Value
  bs : List UInt8
def PRow.cells (r : PRow) : List Value := [.string r.key, r.val]
def PRow.plain (r : PRow) : ByteArray × List UInt8 := (r.key, r.bs)
abbrev PRows := BRows (α := PRow) 98 2 PRow.cells PRow.val PRow.bs
abbrev PBlocks := BBlocks PRow.val

theorem info48 : (Tryz.prog.info? 98).map (fun i => (i.zero, i.size, i.bytes)) = some (some (.agg #[.string ⟨#[]⟩, .slice none 0 0]), 2, 40) := by kernel_rfl

/-- What a Scan tells of a key. -/
def scanKey (V : ByteArray → List Ver) (fr tt : ByteArray) (st : Int) (k : List UInt8) : Option (ByteArray × List UInt8) :=
  if Op.bytesLess k fr.toList = true ∨ (tt.toList ≠ [] ∧ Op.bytesLess k tt.toList = false) then none else (found (V ⟨k.toArray⟩) st).map fun b => (⟨k.toArray⟩, b)
/-- What a Scan tells. -/
def scanOf (D : MD) (V : ByteArray → List Ver) (fr tt : ByteArray) (st : Int) : List (ByteArray × List UInt8) := (sortedKeys D).filterMap (scanKey V fr tt st)

def scanBoxes (w : World) (sv : Value) (fr tt : ByteArray) (st : Int) : World :=
  (((w.alloc (.cells #[sv] 51)).alloc (.cells #[.string fr] 9)).alloc (.cells #[.string tt] 9)).alloc (.cells #[.int .i64 st] 3)
abbrev scanFn (b : Nat) : Array Value := #[.pointer (some ⟨b, 0, none⟩), .pointer (some ⟨b + 1, 0, none⟩), .pointer (some ⟨b + 2, 0, none⟩), .pointer (some ⟨b + 3, 0, none⟩)]

theorem scan_is (w : World) (p : Option Addr) (fr tt : ByteArray) (st : Int) : Calls Tryz.prog 153 #[.pointer p, .string fr, .string tt, .int .i64 st] w fun e w' => e = .returned (.func (.func 155) #[] (scanFn w.heap.size)) ∧ scanBoxes w (.pointer p) fr tt st = w' := by
  go_enter Tryz.func153, Tryz.ntmps153
  go_wp2_with fail
  go_ret
  exact ⟨rfl, rfl⟩

end Go.Proofs.YtbhihbhjmmeibaaGreat

/-
  Layer 14: a Scan's walk.
-/
namespace Go.Proofs.YtbhihbhjmmeibaaGreat
open Go.RowKit Go.Shelf
attribute [local go_sem] Oper.semAt_some

/-- how a pair is told: its value is new memory -/
def PairEnc (n : Nat) (x : ByteArray × List UInt8) (args : Array Value) (w : World) : Prop := ∃ v, args = #[.agg #[.string x.1, v]] ∧ RowB w n v x.2

theorem filterMap_take_succ {α β : Type} (f : α → Option β) (l : List α) (i : Nat) (k : α) (h : l[i]? = some k) : (l.take (i + 1)).filterMap f = (l.take i).filterMap f ++ (f k).toList := by
  rw [List.take_add_one, h, List.filterMap_append]
  cases hf : f k <;> simp [hf]

/-- what region 12 has made -/
def ScT (l : Nat) (key : ByteArray) (b : Nat) (A : Option Addr) (nb cp : Nat) (xb : List UInt8) (B : Nat) : Nat → Value → World → Prop
  | 0, x, _ => x = .func (.yield l) #[] #[]
  | 1, x, _ => x = .pointer (some ⟨b, 0, none⟩)
  | 2, x, _ => x = .string key
  | 3, x, _ => x = .pointer (some ⟨b, 1, none⟩)
  | 4, x, _ => x = .slice A nb cp
  | 5, x, w => ∃ A' c', x = .slice A' xb.length c' ∧ RowB w B x xb
  | 6, x, w => ∃ A' c', x = .agg #[.string key, .slice A' xb.length c'] ∧ RowB w B (.slice A' xb.length c') xb
  | _, _, _ => True
theorem ScT_keep (l : Nat) (key : ByteArray) (b : Nat) (A : Option Addr) (nb cp : Nat) (xb : List UInt8) (B : Nat) (i : Nat) (x : Value) (w w' : World) (h : ScT l key b A nb cp xb B i x w) (ho : Only NoneOf w w') : ScT l key b A nb cp xb B i x w' :=
  match i, h with
  | 0, h | 1, h | 2, h | 3, h | 4, h => h
  | 5, ⟨A', c', h1, h2⟩ => ⟨A', c', h1, h2.keep ho⟩
  | 6, ⟨A', c', h1, h2⟩ => ⟨A', c', h1, h2.keep ho⟩
  | _ + 7, _ => trivial

theorem flatMap_get {α : Type} (f : α → List Value) (sz : Nat) (hsz : ∀ r, (f r).length = sz) : ∀ (rs : List α) (i j : Nat) (r : α), rs[i]? = some r → j < sz → (rs.flatMap f)[i * sz + j]? = (f r)[j]?
  | [], _, _, _, h, _ => by simp at h
  | x :: rs, 0, j, r, h, hj => by
    simp at h
    subst h
    rw [List.flatMap_cons, Nat.zero_mul, Nat.zero_add, List.getElem?_append_left (by rw [hsz]; exact hj)]
  | x :: rs, i + 1, j, r, h, hj => by
    rw [List.flatMap_cons, List.getElem?_append_right (by rw [hsz, Nat.add_mul]; omega), hsz, show (i + 1) * sz + j - sz = i * sz + j by rw [Nat.add_mul]; omega]
    exact flatMap_get f sz hsz rs i j r (by simpa using h) hj
/-- an element's cells -/
theorem BRows.cell {α : Type} {t : TypeId} {sz : Nat} {cells : α → List Value} {val : α → Value} {bs : α → List UInt8} {w : World} {base g n c : Nat} {rs : List α} (h : BRows t sz cells val bs w base (.slice (some ⟨g, 0, none⟩) n c) rs) (hsz : ∀ r, (cells r).length = sz)
    {i : Nat} {r : α} (hr : rs[i]? = some r) {j : Nat} (hj : j < sz) : w.cell? ⟨g, i * sz + j, none⟩ = (cells r)[j]? := by
  rcases h.own.2 with ⟨h0, _⟩ | ⟨g', cap', cur', hv', _, hb', hle, _, hs, hcur'⟩
  · cases h0
  · injection hv' with hv1 hn _
    injection hv1 with hv1
    injection hv1 with hv1 _ _
    subst hv1
    have hil : i < rs.length := (List.getElem?_eq_some_iff.1 hr).1
    have hlt : i * sz + j < rs.length * sz := by
      have : (i + 1) * sz ≤ rs.length * sz := Nat.mul_le_mul_right _ hil
      rw [Nat.add_mul] at this
      omega
    rw [Blk.cell (t := t) (cs := cur') hb', ← flatMap_get cells sz hsz rs i j r hr hj, ← hcur', List.getElem?_take_of_lt hlt, Array.getElem?_toList]

theorem found_mem {xs : List Ver} {st : Int} {b : List UInt8} (h : found xs st = some b) : ∃ x ∈ xs, x.bs = b := by
  unfold found at h
  obtain ⟨x, hx, h⟩ := Option.bind_eq_some_iff.1 h
  split at h
  · cases h
  · cases h
    exact ⟨x, (List.takeWhile_prefix _).subset (List.mem_of_getLast? hx), rfl⟩
theorem scan_mem {D : MD} {V : ByteArray → List Ver} {fr tt : ByteArray} {st : Int} (hV : ∀ key, ∀ x ∈ V key, x.bs.length ≤ 4096) {p : ByteArray × List UInt8} (h : p ∈ scanOf D V fr tt st) : p.2.length ≤ 4096 := by
  obtain ⟨k, _, hk⟩ := List.mem_filterMap.1 h
  unfold scanKey at hk
  split at hk
  · cases hk
  · obtain ⟨b, hb, rfl⟩ := Option.map_eq_some_iff.1 hk
    obtain ⟨x, hx, rfl⟩ := found_mem hb
    exact hV _ x hx

def ScanRel (W : World) (ks : List (List UInt8)) (V : ByteArray → List Ver) (fr tt : ByteArray) (st : Int) (v vi : Value) (wr : World) : Prop :=
  ∃ (i : Nat) (rs : List PRow), i ≤ ks.length ∧ vi = .int .i64 i ∧ Only NoneOf W wr ∧ PRows wr W.heap.size v rs ∧ rs.length ≤ i ∧ rs.map PRow.plain = (ks.take i).filterMap (scanKey V fr tt st)

set_option maxRecDepth 100000 in
set_option maxHeartbeats 4000000 in
theorem scan_iter (W : World) (b s m n : Nat) (D : MD) (C : ByteArray → Option Ch) (live : Int) (V : ByteArray → List Ver) {U : Nat → Prop} (fr tt : ByteArray) (st : Int) (h : Sto W s m n D C live V U) (hV : ∀ key, ∀ x ∈ V key, x.bs.length ≤ 4096)
    (hfew : Go.Maps.size D * 40 ≤ 140737488355328)
    (hb0 : W.cell? ⟨b, 0, none⟩ = some (.pointer (some ⟨s, 0, none⟩))) (hb1 : W.cell? ⟨b + 1, 0, none⟩ = some (.string fr)) (hb2 : W.cell? ⟨b + 2, 0, none⟩ = some (.string tt)) (hb3 : W.cell? ⟨b + 3, 0, none⟩ = some (.int .i64 st)) :
    IterM Tryz.prog 155 (scanFn b) PairEnc (scanOf D V fr tt st) NoneOf W := by
  intro l J Jx hJ hJx h0 hY
  have HS := Lib.hid h
  have HJ := Lib.hid hJ
  have HJx := Lib.hid hJx
  have H0 := Lib.hid h0
  have HY := Lib.hid hY
  have HK := Lib.hid (keys_is W s m n D C live h.is (by omega))
  clear hY hJ hJx h0 h
  refine callsIn_of_wp Tryz.func155 rfl trivial ?_ rfl
  simp only [Tryz.ntmps155, scanFn, List.size_toArray, List.length_cons, List.length_nil, Nat.reduceAdd, Nat.reduceSub, Array.replicate_succ, Array.replicate_zero, List.push_toArray, List.append_toArray, List.nil_append, List.cons_append]
  gi_wp2_with fail
  refine ⟨trivial, (callsIn_wide.2 HK.out).mono ?_⟩
  rintro e w1 ⟨vk, rfl, hks, ho1⟩
  obtain ⟨Ak, ck, rfl, hka⟩ := RowS.at hks
  have HO1 := Lib.hid ho1
  have HKA := Lib.hid hka
  have hL : ∀ (i : Nat) (k : List UInt8), (sortedKeys D)[i]? = some k → k.length ≤ maxLen ∧ ∃ c, C ⟨k.toArray⟩ = some c := fun i k hk => HS.out.is.has_key (by
    have := List.mem_of_getElem? hk
    unfold sortedKeys at this
    exact (List.mergeSort_perm _ _).subset this)
  have HL := Lib.hid hL
  have hs1 := ho1.size
  clear hks ho1 hka hL
  obtain ⟨ks, hks⟩ : ∃ ks, ks = sortedKeys D := ⟨_, rfl⟩
  have HFIN := Lib.hid (show scanOf D V fr tt st = ks.filterMap (scanKey V fr tt st) by rw [hks]; rfl)
  obtain ⟨nk, hnk⟩ : ∃ nk, ks.length = nk := ⟨_, rfl⟩
  have hnkb : nk * 40 ≤ 140737488355328 := by rw [← hnk, hks, sorted_len]; exact hfew
  have HNK := Lib.hid hnk
  rw [← hks] at HL HKA ⊢
  simp only [hnk]
  clear hks hnk hfew
  gi_wp2_with fail
  gi_loopw [6, 16] (fun v vi wr => ScanRel w1 ks V fr tt st v vi wr) (fun _ vi _ => nk - (intOf vi).toNat)
  case atStart => exact ⟨0, [], by omega, rfl, Only.refl _ _, BRows.nil _ _, by simp, rfl⟩
  case round =>
    obtain ⟨i, rs, hi, rfl, hO, hR, hrl, hpl⟩ := hrel
    have HO := Lib.hid hO
    have HR := Lib.hid hR
    have HPL := Lib.hid hpl
    obtain ⟨A, cq, rfl⟩ := ownsRow_slice hR.own
    have e0 := (hO.cell (p := ⟨b, 0, none⟩) (World.block_lt_of_cell? _ _ ((HO1.out.cell (p := ⟨b, 0, none⟩) (World.block_lt_of_cell? _ _ hb0) (fun h => h)).trans hb0)) (fun h => h)).trans ((HO1.out.cell (p := ⟨b, 0, none⟩) (World.block_lt_of_cell? _ _ hb0) (fun h => h)).trans hb0)
    have e1 := (hO.cell (p := ⟨b + 1, 0, none⟩) (World.block_lt_of_cell? _ _ ((HO1.out.cell (p := ⟨b + 1, 0, none⟩) (World.block_lt_of_cell? _ _ hb1) (fun h => h)).trans hb1)) (fun h => h)).trans ((HO1.out.cell (p := ⟨b + 1, 0, none⟩) (World.block_lt_of_cell? _ _ hb1) (fun h => h)).trans hb1)
    have e2 := (hO.cell (p := ⟨b + 2, 0, none⟩) (World.block_lt_of_cell? _ _ ((HO1.out.cell (p := ⟨b + 2, 0, none⟩) (World.block_lt_of_cell? _ _ hb2) (fun h => h)).trans hb2)) (fun h => h)).trans ((HO1.out.cell (p := ⟨b + 2, 0, none⟩) (World.block_lt_of_cell? _ _ hb2) (fun h => h)).trans hb2)
    have e3 := (hO.cell (p := ⟨b + 3, 0, none⟩) (World.block_lt_of_cell? _ _ ((HO1.out.cell (p := ⟨b + 3, 0, none⟩) (World.block_lt_of_cell? _ _ hb3) (fun h => h)).trans hb3)) (fun h => h)).trans ((HO1.out.cell (p := ⟨b + 3, 0, none⟩) (World.block_lt_of_cell? _ _ hb3) (fun h => h)).trans hb3)
    clear hO hR hpl
    by_cases hlt : i < nk
    · have hki : ks[i]? = some (ks[i]'(by rw [HNK.out]; exact hlt)) := List.getElem?_eq_getElem _
      generalize ks[i]'(by rw [HNK.out]; exact hlt) = k at hki
      obtain ⟨hkl, c, hc⟩ := HL.out i k hki
      obtain ⟨gk, rfl, hgl, hgk, hkc⟩ := HKA.out.keep HO.out i k hki
      have HTK := Lib.hid (filterMap_take_succ (scanKey V fr tt st) ks i k hki)
      have HNXT := Lib.hid (show ∀ u, Only NoneOf wr u → scanKey V fr tt st k = none → ScanRel w1 ks V fr tt st (Value.slice A rs.length cq) (.int .i64 ((i : Int) + 1)) u from fun u hu hn =>
        ⟨i + 1, rs, by have := HNK.out; omega, by rw [show ((i + 1 : Nat) : Int) = (i : Int) + 1 by omega], HO.out.trans hu, HR.out.keep hu, by omega, by rw [HPL.out, HTK.out, hn]; simp⟩)
      have hcase : (Op.bytesLess k fr.toList = true ∨ (Op.bytesLess k fr.toList = false ∧ tt.toList ≠ [] ∧ tt.toList.isEmpty = false ∧ Op.bytesLess k tt.toList = false)) ∨
          ((Op.bytesLess k fr.toList = false ∧ tt.toList = [] ∧ tt.toList.isEmpty = true) ∨ (Op.bytesLess k fr.toList = false ∧ tt.toList ≠ [] ∧ tt.toList.isEmpty = false ∧ Op.bytesLess k tt.toList = true)) := by
        cases h1 : Op.bytesLess k fr.toList
        · by_cases ht : tt.toList = []
          · exact .inr (.inl ⟨rfl, ht, by rw [ht]; rfl⟩)
          · cases h2 : Op.bytesLess k tt.toList
            · exact .inl (.inr ⟨rfl, ht, List.isEmpty_eq_false_iff.2 ht, rfl⟩)
            · exact .inr (.inr ⟨rfl, ht, List.isEmpty_eq_false_iff.2 ht, rfl⟩)
        · exact .inl (.inl rfl)
      rcases hcase with hc' | hc'
      · have HSK := Lib.hid (show scanKey V fr tt st k = none by
          unfold scanKey
          rw [if_pos]
          rcases hc' with h | ⟨_, h2, _, h4⟩
          · exact .inl h
          · exact .inr ⟨h2, h4⟩)
        rcases hc' with h1 | ⟨h1, h2, h3, h4⟩
        all_goals
          gi_wp2_with fail
          exact ⟨HNXT.out _ (Only.refl _ _) HSK.out, by simp [intOf]; omega⟩
      · have HSK := Lib.hid (show scanKey V fr tt st k = (found (V ⟨k.toArray⟩) st).map fun b => (⟨k.toArray⟩, b) by
          unfold scanKey
          rw [if_neg]
          rintro (h | ⟨h5, h6⟩)
          · rcases hc' with ⟨h1, _⟩ | ⟨h1, _⟩ <;> rw [h] at h1 <;> cases h1
          · rcases hc' with ⟨_, h2, _⟩ | ⟨_, _, _, h4⟩
            · exact h5 h2
            · rw [h6] at h4; cases h4)
        have HG := Lib.hid (get_is wr s m n D C live V ⟨k.toArray⟩ st (show k.toArray.size ≤ maxLen by rw [List.size_toArray]; exact hkl) (HS.out.keep (HO1.out.trans HO.out)) (hV _))
        obtain ⟨i0, hi0, hz0, hz1, hz3⟩ := info_parts info48
        obtain ⟨R, hRf⟩ : ∃ R, found (V ⟨k.toArray⟩) st = R := ⟨_, rfl⟩
        rw [hRf] at HG HSK
        clear hRf
        rcases hc' with ⟨h1, h2, h3⟩ | ⟨h1, h2, h3, h4⟩
        all_goals
          gi_wp2_with fail
          refine ⟨trivial, (callsIn_wide.2 HG.out).mono ?_⟩
          rintro e w2 ⟨hget, ho2⟩
          have HO2 := Lib.hid ho2
          cases R with
          | none =>
            obtain rfl := hget
            clear ho2
            gi_wp2_with fail
            exact ⟨HNXT.out _ HO2.out HSK.out, by simp [intOf]; omega⟩
          | some bs =>
            obtain ⟨vb, rfl, hvb⟩ := hget
            obtain ⟨Ab, cb, rfl⟩ := ownsRow_slice hvb
            have HVB := Lib.hid hvb
            have HRA := Lib.hid ((HR.out.keep ho2).keep ((Only.refl _ w2).alloc (.cells #[.string ⟨k.toArray⟩, .slice Ab bs.length cb] 98)))
            have HVA := Lib.hid (hvb.keep ((Only.refl _ w2).alloc (.cells #[.string ⟨k.toArray⟩, .slice Ab bs.length cb] 98)))
            have HN := Lib.hid (Blk.new w2 98 #[.string ⟨k.toArray⟩, .slice Ab bs.length cb])
            have hw1r := HO.out.size
            have hwr2 := ho2.size
            clear ho2 hvb
            gi_wp2_with (gi_at_builtin; refine wpListIn_append_own_at _ rfl (.tmp 40) (.tmp 44) 54 rfl w1.heap.size 98 i0 _ 2 40 Tryz.underlying54 hi0 hz0 hz1 hz3 rfl (by decide) (.slice A rs.length cq) rs.length (rs.flatMap PRow.cells) rfl HRA.out.own ⟨w2.heap.size, 0, none⟩ 1 1 [.string ⟨k.toArray⟩, .slice Ab bs.length cb] rfl rfl (World.news_of_block HN.out) (by simp [Value.oneCell']) (by unfold maxLen; omega) (by omega) (by simp; omega) ?_; intro v' w3 hown' hgr _ hat)
            have hsn := BRows.snoc (r := (⟨⟨k.toArray⟩, .slice Ab bs.length cb, bs⟩ : PRow)) HRA.out (only_grown hgr) hown' hat (HVA.out.base (by omega)) (fun g hg hb' => by have := (ownsRow_lt HVB.out hg).1; have := (HR.out.lt hb').2; omega)
            refine ⟨⟨i + 1, _, by have := HNK.out; omega, by rw [show ((i + 1 : Nat) : Int) = (i : Int) + 1 by omega], ?_, hsn, by simp; omega, ?_⟩, by simp [intOf]; omega⟩
            · exact (HO.out.trans (HO2.out.alloc _)).step (only_grown hgr) (fun k' hk' e => by have := (HRA.out.lt (.inl e)).1; omega)
            · rw [List.map_append, HPL.out, HTK.out, HSK.out]
              rfl
    · obtain rfl : i = nk := by have := HNK.out; omega
      have hpl' := HPL.out
      rw [← HNK.out, List.take_length, ← HFIN.out] at hpl'
      have HPL' := Lib.hid hpl'
      have HOW := Lib.hid (HO1.out.trans HO.out)
      have hwsz := HOW.out.size
      have HR' := Lib.hid (HR.out.base hs1)
      obtain ⟨E, hE⟩ : ∃ E, wr.heap.size = E := ⟨_, rfl⟩
      have HJ0 := Lib.hid (H0.out E wr (by omega) (by omega) HOW.out)
      have hblk : ∀ k, PBlocks (.slice A rs.length cq) rs k → W.heap.size ≤ k ∧ k < E := fun k hk => by rw [← hE]; exact HR'.out.lt hk
      have HBLK := Lib.hid hblk
      have hrk : rs.length ≤ 3518437208883 := by omega
      clear hlt hpl' hblk e0 e1 e2 e3 hrl hi HPL HO HR HNK HKA HL HFIN
      gi_wp2_with fail
      gi_loopw [49] (fun vi w2 => ∃ i : Nat, i ≤ rs.length ∧ vi = .int .i64 i ∧ J E ((rs.take i).map PRow.plain) w2 ∧ PRows w2 W.heap.size (.slice A rs.length cq) rs ∧ E ≤ w2.heap.size) (fun vi _ => rs.length - (intOf vi).toNat)
      case atStart => exact ⟨0, by omega, rfl, HJ0.out, HR'.out, by omega⟩
      case round =>
        obtain ⟨i, hi, rfl, hJ2, hR2, hsz2⟩ := hrel
        have HJ2 := Lib.hid hJ2
        have HR2 := Lib.hid hR2
        clear hJ2 hR2
        by_cases hlt : i < rs.length
        · have hr : rs[i]? = some (rs[i]'hlt) := List.getElem?_eq_getElem _
          generalize rs[i]'hlt = r at hr
          obtain ⟨key, rv, rb⟩ := r
          have hrB := HR2.out.vals _ (List.mem_of_getElem? hr)
          simp only at hrB
          obtain ⟨Ar, cr, rfl⟩ := ownsRow_slice hrB
          obtain ⟨g, rfl⟩ : ∃ g, A = some ⟨g, 0, none⟩ := by
            rcases HR2.out.own.2 with ⟨h0, h1⟩ | ⟨g, cap, cur, hv, _⟩
            · omega
            · injection hv with hv1
              exact ⟨g, hv1⟩
          have d0 : wr.cell? ⟨g, i * 2, none⟩ = some (.string key) := HR2.out.cell (fun _ => rfl) hr (j := 0) (by omega)
          have d1 : wr.cell? ⟨g, i * 2 + 1, none⟩ = some (.slice Ar rb.length cr) := HR2.out.cell (fun _ => rfl) hr (j := 1) (by omega)
          obtain ⟨A2, cq2, hv2, hby⟩ := RowB.at hrB
          obtain ⟨rfl, rfl⟩ : Ar = A2 ∧ cr = cq2 := by
            injection hv2 with q1 _ q2
            exact ⟨q1, q2⟩
          clear hv2
          obtain ⟨nr, hnr⟩ : ∃ nr, rb.length = nr := ⟨_, rfl⟩
          have hnl : nr ≤ 35184372088832 := by
            have := scan_mem (D := D) (fr := fr) (tt := tt) (st := st) hV (p := (key, rb)) (by rw [← HPL'.out]; exact List.mem_map.2 ⟨_, List.mem_of_getElem? hr, rfl⟩)
            simp only at this
            omega
          have HB12 := Lib.hid (Blk.new wr 98 #[.string key, .slice Ar nr cr])
          have HBY := Lib.hid (hby.keep ((Only.refl NoneOf wr).alloc (.cells #[.string key, .slice Ar nr cr] 98)))
          have HPRE := Lib.hid (show (rs.take i).map PRow.plain ++ [(key, rb)] <+: scanOf D V fr tt st by
            rw [← HPL'.out]
            have := List.take_prefix (i + 1) (rs.map PRow.plain)
            rw [List.take_add_one, List.getElem?_map, hr] at this
            rw [List.map_take]
            exact this)
          rw [hnr] at d1
          clear hby hrB
          have HPE := Lib.hid (fun args A0 A h1 h2 h3 h4 => HY.out E ((rs.take i).map PRow.plain) (key, rb) args A0 A (by omega) h1 h2 h3 h4 HPRE.out)
          have HD := Lib.hid (show rs.take (i + 1) = rs.take i ++ [⟨key, .slice Ar rb.length cr, rb⟩] by rw [List.take_add_one, hr]; rfl)
          gi_upto_region 12 with (fail)
          refine wpIn_region_headT 7 63 (ScT l key wr.heap.size Ar nr cr rb wr.heap.size) (fun _ => false) rfl (by kernel_rfl) (by kernel_rfl) (ScT_keep _ _ _ _ _ _ _ _) (fun _ _ _ h => by cases h) ?_ ?_
          · intro i o hi ho a u hu hs ht
            have e0 : a.tmps.getD 0 undef = .func (.yield l) #[] #[] := hs 0 (of_decide_eq_true (by kernel_rfl))
            have e12 : a.tmps.getD 12 undef = .pointer (some ⟨wr.heap.size, 0, none⟩) := hs 12 (of_decide_eq_true (by kernel_rfl))
            have F8 := HB12.out.only hu (fun h => h)
            have c0 := F8.cellv 0 rfl
            have c1 := F8.cellv 1 rfl
            have : i = 0 ∨ i = 1 ∨ i = 2 ∨ i = 3 ∨ i = 4 ∨ i = 5 ∨ i = 6 := by omega
            rcases this with rfl | rfl | rfl | rfl | rfl | rfl | rfl
            · obtain rfl := Option.some.inj (ho : some _ = some o)
              exact left_value (.func (.yield l) #[] #[]) (by simp [go_sem, e0]) rfl rfl
            · obtain rfl := Option.some.inj (ho : some _ = some o)
              exact left_value (.pointer (some ⟨wr.heap.size, 0, none⟩)) (by simp [go_sem, e12]) rfl rfl
            · obtain rfl := Option.some.inj (ho : some _ = some o)
              have s1 : a.tmps.getD 54 undef = .pointer (some ⟨wr.heap.size, 0, none⟩) := ht 1 (by omega) (by kernel_rfl)
              exact left_value (.string key) (by simp [go_sem, s1, c0]) rfl rfl
            · obtain rfl := Option.some.inj (ho : some _ = some o)
              exact left_value (.pointer (some ⟨wr.heap.size, 1, none⟩)) (by simp [go_sem, e12]) rfl rfl
            · obtain rfl := Option.some.inj (ho : some _ = some o)
              have s3 : a.tmps.getD 56 undef = .pointer (some ⟨wr.heap.size, 1, none⟩) := ht 3 (by omega) (by kernel_rfl)
              exact left_value (.slice Ar nr cr) (by simp [go_sem, s3, c1]) rfl rfl
            · obtain rfl := Option.some.inj (ho : some _ = some o)
              have s4 : a.tmps.getD 57 undef = .slice Ar nr cr := ht 4 (by omega) (by kernel_rfl)
              refine left_calls 62 #[.slice Ar nr cr] (by simp [go_sem, s4]) ((own_is Ar nr cr rb u hnr (HBY.out.keep hu) hnl).mono ?_) rfl
              rintro e u' ⟨v', rfl, hr, ho'⟩
              obtain ⟨A', c', rfl, _⟩ := hr.at
              exact ⟨_, rfl, ⟨A', c', rfl, hr.base (by have := hu.size; simp at this; omega)⟩, ho'⟩
            · obtain rfl := Option.some.inj (ho : some _ = some o)
              have s2 : a.tmps.getD 55 undef = .string key := ht 2 (by omega) (by kernel_rfl)
              have s2' : a.tmps[55]?.getD undef = .string key := by simpa using s2
              obtain ⟨A', c', s5, hr⟩ : ∃ A' c', a.tmps.getD 58 undef = .slice A' rb.length c' ∧ RowB u wr.heap.size (a.tmps.getD 58 undef) rb := ht 5 (by omega) (by kernel_rfl)
              rw [s5] at hr
              have s5' : a.tmps[58]?.getD undef = .slice A' rb.length c' := by simpa using s5
              exact left_value (.agg #[.string key, .slice A' rb.length c']) (by simp [go_sem, s2', s5']) rfl ⟨A', c', rfl, hr⟩
          · intro V' u hu hV' _
            have v0 : V' 0 = .func (.yield l) #[] #[] := hV' 0 (by omega)
            have v1 : V' 1 = .pointer (some ⟨wr.heap.size, 0, none⟩) := hV' 1 (by omega)
            have v2 : V' 2 = .string key := hV' 2 (by omega)
            have v3 : V' 3 = .pointer (some ⟨wr.heap.size, 1, none⟩) := hV' 3 (by omega)
            have v4 : V' 4 = .slice Ar nr cr := hV' 4 (by omega)
            obtain ⟨A5, c5, v5, _⟩ : ∃ A' c', V' 5 = .slice A' rb.length c' ∧ RowB u wr.heap.size (V' 5) rb := hV' 5 (by omega)
            obtain ⟨A', c', v6, hr⟩ : ∃ A' c', V' 6 = .agg #[.string key, .slice A' rb.length c'] ∧ RowB u wr.heap.size (.slice A' rb.length c') rb := hV' 6 (by omega)
            change wpListIn _ _ _ _ _ _ (Act.put (Act.put (Act.put (Act.put (Act.put (Act.put (Act.put _ (some 53) (V' 0)) (some 54) (V' 1)) (some 55) (V' 2)) (some 56) (V' 3)) (some 57) (V' 4)) (some 58) (V' 5)) (some 59) (V' 6)) _
            rw [v0, v1, v2, v3, v4, v5, v6]
            simp only [Act.put, List.setIfInBounds_toArray, List.set_cons_zero, List.set_cons_succ]
            simp only [List.drop_succ_cons, List.drop_zero]
            clear hV' v0 v1 v2 v3 v4 v5 v6
            have hu0 : Only NoneOf wr u := ((Only.refl NoneOf wr).alloc _).trans hu
            obtain ⟨fn, tmps, assign, body, hy, hYR⟩ := YieldAt.deep (1 - 1) (HPE.out #[.agg #[.string key, .slice A' rb.length c']] wr u hsz2 HJ2.out hu0 ⟨_, rfl, hr⟩)
            rw [hnr] at hy
            have HRR := Lib.hid hYR
            have HRU := Lib.hid (HR2.out.keep hu0)
            have hzu := hu0.size
            clear hYR hu0 hr
            gi_wp2
            refine HRR.out.mono ?_
            rintro e W3 (⟨rfl, hJ3, ho3⟩ | ⟨rfl, hJx3, ho3⟩)
            · have HJ3 := Lib.hid hJ3
              have HR3 := Lib.hid (HRU.out.only ho3 (fun k hk hh => by
                have := HBLK.out k hk
                rcases hh with hh | hh
                · have := hh.1; omega
                · omega))
              have hs3 := ho3.size
              clear hJ3 ho3 hy
              gi_wp2
              go_roundw
              case rel => exact ⟨i + 1, by omega, by rw [show ((i + 1 : Nat) : Int) = (i : Int) + 1 by omega], by rw [HD.out, List.map_append]; exact HJ3.out, HR3.out, by omega⟩
              case measure => simp [intOf]; omega
            · have HX := Lib.hid hJx3
              clear hJx3 ho3 hy
              gi_wp2
              refine bodyPost_ret (results_none rfl _ _ _) rfl ?_
              exact ⟨⟨_, rfl⟩, E, by omega, .inr ⟨_, HPRE.out, HX.out⟩⟩
        · obtain rfl : i = rs.length := by omega
          have h1 := HJ2.out
          rw [List.take_length, HPL'.out] at h1
          have HE := Lib.hid h1
          clear hlt h1
          gi_wp2_with fail
          go_end0
          exact ⟨⟨_, rfl⟩, E, by omega, .inl HE.out⟩

end Go.Proofs.YtbhihbhjmmeibaaGreat

/-
  Layer 14: the store's law, plain: the versions that came, in order. No program here.
-/
namespace Go.Proofs.YtbhihbhjmmeibaaGreat

abbrev KV := ByteArray × Ver
/-- a key of its bytes -/
abbrev keyB (k : List UInt8) : ByteArray := ⟨k.toArray⟩
theorem keyB_list (key : ByteArray) : keyB key.data.toList = key := by cases key; simp [keyB]
theorem keyB_inj {a b : List UInt8} (h : keyB a = keyB b) : a = b := by
  have := congrArg (fun x : ByteArray => x.data.toList) h
  simpa using this

/-- a key's versions -/
def verR (R : List KV) (key : ByteArray) : List Ver := (R.filter fun p => decide (p.1 = key)).map (·.2)
theorem verR_nil (key : ByteArray) : verR [] key = [] := rfl
theorem verR_append (R S : List KV) (key : ByteArray) : verR (R ++ S) key = verR R key ++ verR S key := by simp [verR]
theorem verR_one (key : ByteArray) (x : Ver) (k : ByteArray) : verR [(key, x)] k = if key = k then [x] else [] := by
  unfold verR
  by_cases h : key = k <;> simp [h]
theorem verR_mem {R : List KV} {key : ByteArray} {x : Ver} : x ∈ verR R key ↔ (key, x) ∈ R := by
  unfold verR
  rw [List.mem_map]
  constructor
  · rintro ⟨⟨k, y⟩, h, rfl⟩
    obtain ⟨h1, h2⟩ := List.mem_filter.1 h
    simp only [decide_eq_true_eq] at h2
    rw [← h2]
    exact h1
  · intro h
    exact ⟨(key, x), List.mem_filter.2 ⟨h, by simp⟩, rfl⟩
theorem verR_ne {R : List KV} {key : ByteArray} : verR R key ≠ [] ↔ ∃ x, (key, x) ∈ R := by
  constructor
  · intro h
    obtain ⟨x, hx⟩ := List.exists_mem_of_ne_nil _ h
    exact ⟨x, verR_mem.1 hx⟩
  · rintro ⟨x, hx⟩ h
    have := verR_mem.2 hx
    rw [h] at this
    cases this

structure GoodR (R : List KV) : Prop where
  key : ∀ p ∈ R, 1 ≤ p.1.size ∧ p.1.size ≤ 255
  bs : ∀ p ∈ R, p.2.bs.length ≤ 4096
  st : ∀ p ∈ R, 0 ≤ p.2.st ∧ p.2.st ≤ 4611686018427387904
  rise : ∀ key, (verR R key).Pairwise fun a b => a.st < b.st
theorem GoodR.nil : GoodR [] := ⟨fun _ h => (by cases h), fun _ h => (by cases h), fun _ h => (by cases h), fun _ => List.Pairwise.nil⟩
theorem GoodR.snoc {R : List KV} (h : GoodR R) {key : ByteArray} {x : Ver} (hk : 1 ≤ key.size ∧ key.size ≤ 255) (hb : x.bs.length ≤ 4096) (hs : 0 ≤ x.st ∧ x.st ≤ 4611686018427387904) (hn : ∀ y ∈ verR R key, y.st < x.st) : GoodR (R ++ [(key, x)]) := by
  refine ⟨fun p hp => ?_, fun p hp => ?_, fun p hp => ?_, fun k => ?_⟩
  · rcases List.mem_append.1 hp with hp | hp
    · exact h.key p hp
    · obtain rfl : p = (key, x) := by simpa using hp
      exact hk
  · rcases List.mem_append.1 hp with hp | hp
    · exact h.bs p hp
    · obtain rfl : p = (key, x) := by simpa using hp
      exact hb
  · rcases List.mem_append.1 hp with hp | hp
    · exact h.st p hp
    · obtain rfl : p = (key, x) := by simpa using hp
      exact hs
  · rw [verR_append, verR_one]
    by_cases e : key = k
    · rw [if_pos e, List.pairwise_append]
      exact ⟨h.rise k, List.pairwise_singleton _ _, fun a ha b hb => by
        obtain rfl : b = x := by simpa using hb
        exact hn a (e ▸ ha)⟩
    · rw [if_neg e, List.append_nil]
      exact h.rise k

/-! ### Keys -/

/-- the keys, as a sorted list tells them, each once -/
def dedup : List (List UInt8) → List (List UInt8)
  | [] => []
  | [k] => [k]
  | k :: l :: ls => if k = l then dedup (l :: ls) else k :: dedup (l :: ls)
def keysR (R : List KV) : List (List UInt8) := dedup ((R.map fun p => p.1.data.toList).mergeSort leB)

theorem dedup_mem : ∀ (l : List (List UInt8)) (k : List UInt8), k ∈ dedup l ↔ k ∈ l
  | [], _ => Iff.rfl
  | [x], _ => Iff.rfl
  | x :: y :: ls, k => by
    unfold dedup
    split
    · rename_i h
      rw [dedup_mem (y :: ls) k, h]
      simp
    · rw [List.mem_cons, dedup_mem (y :: ls) k, List.mem_cons (b := x)]
theorem leB_trans (a b c : List UInt8) (h1 : leB a b = true) (h2 : leB b c = true) : leB a c = true := by
  simp only [leB, decide_eq_true_eq] at *; exact List.le_trans h1 h2
theorem leB_total (a b : List UInt8) : (leB a b || leB b a) = true := by
  simp only [leB, Bool.or_eq_true, decide_eq_true_eq]; exact List.le_total a b
theorem dedup_sorted : ∀ (l : List (List UInt8)), l.Pairwise (fun a b => leB a b = true) → (dedup l).Pairwise (· < ·)
  | [], _ => List.Pairwise.nil
  | [x], _ => List.pairwise_singleton _ _
  | x :: y :: ls, h => by
    obtain ⟨h1, h2⟩ := List.pairwise_cons.1 h
    unfold dedup
    split
    · exact dedup_sorted (y :: ls) h2
    · rename_i hne
      refine List.pairwise_cons.2 ⟨fun z hz => ?_, dedup_sorted (y :: ls) h2⟩
      have hz' := (dedup_mem (y :: ls) z).1 hz
      have hxy : x < y := by
        have := h1 y (by simp)
        simp only [leB, decide_eq_true_eq] at this
        rcases List.le_iff_lt_or_eq.1 this with h | h
        · exact h
        · exact absurd h hne
      rcases List.mem_cons.1 hz' with rfl | hz'
      · exact hxy
      · have := (List.pairwise_cons.1 h2).1 z hz'
        simp only [leB, decide_eq_true_eq] at this
        rcases List.le_iff_lt_or_eq.1 this with h | rfl
        · exact List.lt_trans hxy h
        · exact hxy
theorem keysR_mem {R : List KV} {k : List UInt8} : k ∈ keysR R ↔ ∃ x, (keyB k, x) ∈ R := by
  unfold keysR
  rw [dedup_mem, List.mem_mergeSort, List.mem_map]
  constructor
  · rintro ⟨⟨key, x⟩, h, rfl⟩
    exact ⟨x, by rw [keyB_list]; exact h⟩
  · rintro ⟨x, h⟩
    exact ⟨_, h, by simp⟩
theorem keysR_sorted (R : List KV) : (keysR R).Pairwise (· < ·) := dedup_sorted _ (List.pairwise_mergeSort leB_trans leB_total _)
theorem sorted_unique : ∀ (l l' : List (List UInt8)), l.Pairwise (· < ·) → l'.Pairwise (· < ·) → (∀ k, k ∈ l ↔ k ∈ l') → l = l'
  | [], [], _, _, _ => rfl
  | [], y :: l', _, _, h => absurd ((h y).2 (by simp)) (by simp)
  | x :: l, [], _, _, h => absurd ((h x).1 (by simp)) (by simp)
  | x :: l, y :: l', h1, h2, h => by
    obtain ⟨a1, a2⟩ := List.pairwise_cons.1 h1
    obtain ⟨b1, b2⟩ := List.pairwise_cons.1 h2
    have hxy : x = y := by
      rcases List.mem_cons.1 ((h x).1 (by simp)) with e | hx
      · exact e
      · rcases List.mem_cons.1 ((h y).2 (by simp)) with e | hy
        · exact e.symm
        · exact absurd (List.lt_trans (a1 y hy) (b1 x hx)) (List.lt_irrefl x)
    subst hxy
    rw [sorted_unique l l' a2 b2 fun k => ?_]
    constructor
    · intro hk
      rcases List.mem_cons.1 ((h k).1 (by simp [hk])) with e | hk'
      · subst e; exact absurd (a1 k hk) (List.lt_irrefl k)
      · exact hk'
    · intro hk
      rcases List.mem_cons.1 ((h k).2 (by simp [hk])) with e | hk'
      · subst e; exact absurd (b1 k hk) (List.lt_irrefl k)
      · exact hk'
theorem sorted_nodup {l : List (List UInt8)} (h : l.Pairwise (· < ·)) : l.Nodup := h.imp fun {a b} hlt e => by subst e; exact List.lt_irrefl a hlt

/-! ### Sums over the keys -/

def sumN (ks : List (List UInt8)) (f : List UInt8 → Nat) : Nat := (ks.map f).sum
def sumZ (ks : List (List UInt8)) (f : List UInt8 → Int) : Int := ks.foldr (fun k s => f k + s) 0
theorem sumZ_perm {ks ks' : List (List UInt8)} (h : ks.Perm ks') (f : List UInt8 → Int) : sumZ ks f = sumZ ks' f := by
  induction h with
  | nil => rfl
  | cons a _ ih => simp only [sumZ, List.foldr_cons] at ih ⊢; rw [ih]
  | swap a b l => simp only [sumZ, List.foldr_cons]; omega
  | trans _ _ ih1 ih2 => exact ih1.trans ih2
theorem sumZ_congr {ks : List (List UInt8)} {f g : List UInt8 → Int} (h : ∀ k ∈ ks, f k = g k) : sumZ ks f = sumZ ks g := by
  induction ks with
  | nil => rfl
  | cons a ks ih => simp only [sumZ, List.foldr_cons] at ih ⊢; rw [h a (by simp), ih (fun k hk => h k (by simp [hk]))]
theorem sumN_add (ks : List (List UInt8)) (f g : List UInt8 → Nat) : sumN ks (fun k => f k + g k) = sumN ks f + sumN ks g := by
  induction ks with
  | nil => rfl
  | cons a ks ih => simp only [sumN, List.map_cons, List.sum_cons] at ih ⊢; rw [ih]; omega
theorem sumN_congr {ks : List (List UInt8)} {f g : List UInt8 → Nat} (h : ∀ k ∈ ks, f k = g k) : sumN ks f = sumN ks g := by
  induction ks with
  | nil => rfl
  | cons a ks ih => simp only [sumN, List.map_cons, List.sum_cons] at ih ⊢; rw [h a (by simp), ih (fun k hk => h k (by simp [hk]))]
theorem sumN_perm {ks ks' : List (List UInt8)} (h : ks.Perm ks') (f : List UInt8 → Nat) : sumN ks f = sumN ks' f := (h.map f).sum_nat
theorem sumN_one (a : List UInt8) : ∀ (ks : List (List UInt8)), ks.Nodup → a ∈ ks → sumN ks (fun k => if k = a then 1 else 0) = 1
  | [], _, h => by cases h
  | k :: ks, hn, h => by
    obtain ⟨h1, h2⟩ := List.nodup_cons.1 hn
    have e0 : sumN (k :: ks) (fun x => if x = a then 1 else 0) = (if k = a then 1 else 0) + sumN ks (fun x => if x = a then 1 else 0) := by simp [sumN]
    rw [e0]
    by_cases e : k = a
    · have : sumN ks (fun x => if x = a then 1 else 0) = sumN ks (fun _ => 0) := sumN_congr fun x hx => by rw [if_neg (fun e' => h1 (by rw [e, ← e']; exact hx))]
      rw [if_pos e, this]
      clear this e0 h1 h2 h hn
      induction ks with
      | nil => rfl
      | cons b ks ih => simp only [sumN, List.map_cons, List.sum_cons] at ih ⊢; omega
    · rw [if_neg e, sumN_one a ks h2 ((List.mem_cons.1 h).resolve_left fun e' => e e'.symm)]
/-- each version is some key's -/
theorem sumN_len : ∀ (R : List KV) (ks : List (List UInt8)), ks.Nodup → (∀ p ∈ R, p.1.data.toList ∈ ks) → sumN ks (fun k => (verR R (keyB k)).length) = R.length
  | [], ks, _, _ => by
    have : ∀ ks : List (List UInt8), sumN ks (fun k => (verR [] (keyB k)).length) = 0 := by
      intro ks
      induction ks with
      | nil => rfl
      | cons b ks ih => simp only [sumN, List.map_cons, List.sum_cons] at ih ⊢; rw [ih]; rfl
    exact this ks
  | (key, x) :: R, ks, hn, h => by
    have ih := sumN_len R ks hn (fun p hp => h p (by simp [hp]))
    have e : sumN ks (fun k => (verR ((key, x) :: R) (keyB k)).length) = sumN ks (fun k => (if k = key.data.toList then 1 else 0) + (verR R (keyB k)).length) := sumN_congr fun k _ => by
      rw [show (key, x) :: R = [(key, x)] ++ R from rfl, verR_append, verR_one, List.length_append]
      by_cases hk : key = keyB k
      · rw [if_pos hk, if_pos (by rw [hk])]
        rfl
      · rw [if_neg hk, if_neg (fun e => hk (by rw [e, keyB_list]))]
        rfl
    rw [e, sumN_add, ih, sumN_one _ ks hn (h (key, x) (by simp)), List.length_cons]
    omega

/-- the live bytes -/
def liveR (R : List KV) : Int := sumZ (keysR R) fun k => wgt (keyB k) (verR R (keyB k))

theorem perm_of_mem {l l' : List (List UInt8)} (h1 : l.Nodup) (h2 : l'.Nodup) (h : ∀ k, k ∈ l ↔ k ∈ l') : l.Perm l' := (List.perm_ext_iff_of_nodup h1 h2).2 h

theorem keysR_snoc (R : List KV) (key : ByteArray) (x : Ver) : (key.data.toList ∈ keysR R ∧ keysR (R ++ [(key, x)]) = keysR R) ∨ (key.data.toList ∉ keysR R ∧ (keysR (R ++ [(key, x)])).Perm (key.data.toList :: keysR R)) := by
  have hm : ∀ k, k ∈ keysR (R ++ [(key, x)]) ↔ k = key.data.toList ∨ k ∈ keysR R := fun k => by
    rw [keysR_mem, keysR_mem]
    constructor
    · rintro ⟨y, hy⟩
      rcases List.mem_append.1 hy with hy | hy
      · exact .inr ⟨y, hy⟩
      · have : keyB k = key := by simpa using congrArg Prod.fst (show (keyB k, y) = (key, x) by simpa using hy)
        exact .inl (by rw [← this])
    · rintro (rfl | ⟨y, hy⟩)
      · exact ⟨x, by rw [keyB_list]; simp⟩
      · exact ⟨y, by simp [hy]⟩
  by_cases hk : key.data.toList ∈ keysR R
  · refine .inl ⟨hk, sorted_unique _ _ (keysR_sorted _) (keysR_sorted _) fun k => ?_⟩
    rw [hm]
    exact ⟨fun h => h.elim (fun e => e ▸ hk) id, .inr⟩
  · refine .inr ⟨hk, perm_of_mem (sorted_nodup (keysR_sorted _)) (List.nodup_cons.2 ⟨hk, sorted_nodup (keysR_sorted _)⟩) fun k => ?_⟩
    rw [hm, List.mem_cons]

theorem sumZ_upd (ks : List (List UInt8)) (a : List UInt8) (hn : ks.Nodup) (ha : a ∈ ks) (f g : List UInt8 → Int) (h : ∀ k ∈ ks, k ≠ a → f k = g k) : sumZ ks g = sumZ ks f + (g a - f a) := by
  induction ks with
  | nil => cases ha
  | cons k ks ih =>
    obtain ⟨h1, h2⟩ := List.nodup_cons.1 hn
    have e : ∀ f : List UInt8 → Int, sumZ (k :: ks) f = f k + sumZ ks f := fun f => rfl
    rw [e, e]
    rcases List.mem_cons.1 ha with rfl | ha'
    · rw [sumZ_congr (f := f) (g := g) fun x hx => h x (by simp [hx]) fun e' => h1 (e' ▸ hx)]
      omega
    · rw [ih h2 ha' fun x hx hne => h x (by simp [hx]) hne, h k (by simp) fun e' => h1 (e' ▸ ha')]
      omega

/-- a version more: the live bytes -/
theorem liveR_snoc (R : List KV) (key : ByteArray) (x : Ver) : liveR (R ++ [(key, x)]) = liveR R + (wgt key (verR R key ++ [x]) - wgt key (verR R key)) := by
  have hv : ∀ k, keyB k ≠ key → verR (R ++ [(key, x)]) (keyB k) = verR R (keyB k) := fun k hk => by
    rw [verR_append, verR_one, if_neg (Ne.symm hk), List.append_nil]
  have hs : verR (R ++ [(key, x)]) key = verR R key ++ [x] := by rw [verR_append, verR_one, if_pos rfl]
  have hne : ∀ k : List UInt8, k ≠ key.data.toList → keyB k ≠ key := fun k hk e => hk (by rw [← e])
  unfold liveR
  rcases keysR_snoc R key x with ⟨hk, e⟩ | ⟨hk, e⟩
  · rw [e, sumZ_upd (keysR R) key.data.toList (sorted_nodup (keysR_sorted _)) hk (fun k => wgt (keyB k) (verR R (keyB k))) (fun k => wgt (keyB k) (verR (R ++ [(key, x)]) (keyB k))) fun k _ hne' => by rw [hv k (hne k hne')]]
    rw [keyB_list, hs]
  · rw [sumZ_perm e]
    have e0 : ∀ f : List UInt8 → Int, sumZ (key.data.toList :: keysR R) f = f key.data.toList + sumZ (keysR R) f := fun f => rfl
    rw [e0, keyB_list, hs, sumZ_congr (f := fun k => wgt (keyB k) (verR (R ++ [(key, x)]) (keyB k))) (g := fun k => wgt (keyB k) (verR R (keyB k))) fun k hk' => by rw [hv k (hne k fun e' => hk (e' ▸ hk'))]]
    have hnil : verR R key = [] := by
      cases hc : verR R key with
      | nil => rfl
      | cons y ys =>
        obtain ⟨z, hz⟩ := verR_ne.1 (show verR R key ≠ [] by rw [hc]; simp)
        exact absurd (keysR_mem.2 ⟨z, by rw [keyB_list]; exact hz⟩) hk
    rw [hnil]
    simp only [wgt, List.getLast?_nil]
    omega

end Go.Proofs.YtbhihbhjmmeibaaGreat

/-
  Layer 14: the store's law, plain: Vacuum. No program here.
-/
namespace Go.Proofs.YtbhihbhjmmeibaaGreat

/-- does Vacuum keep it? -/
def keeps (R : List KV) (hz : Int) (p : KV) : Bool := decide (hz < p.2.st) || (match newest (verR R p.1) hz with | some b => decide (b.st = p.2.st) | none => false)
def vacR (R : List KV) (hz : Int) : List KV := R.filter (keeps R hz)

theorem verR_filter (R : List KV) (f : KV → Bool) (key : ByteArray) : verR (R.filter f) key = (verR R key).filter fun x => f (key, x) := by
  unfold verR
  rw [List.filter_map, List.filter_filter, List.filter_filter]
  congr 1
  refine List.filter_congr fun p _ => ?_
  obtain ⟨k, x⟩ := p
  simp only [Function.comp]
  by_cases h : k = key
  · subst h; simp
  · simp [h]

theorem GoodR.sub {R S : List KV} (h : GoodR R) (hs : ∀ p ∈ S, p ∈ R) (hr : ∀ key, (verR S key).Sublist (verR R key)) : GoodR S :=
  ⟨fun p hp => h.key p (hs p hp), fun p hp => h.bs p (hs p hp), fun p hp => h.st p (hs p hp), fun key => (h.rise key).sublist (hr key)⟩
theorem keysR_all {R : List KV} : ∀ p ∈ R, p.1.data.toList ∈ keysR R := fun p hp => keysR_mem.2 ⟨p.2, by rw [keyB_list]; exact hp⟩

end Go.Proofs.YtbhihbhjmmeibaaGreat

/-
  Layer 14: what a store does, over the versions that came.
-/
namespace Go.Proofs.YtbhihbhjmmeibaaGreat
open Go.RowKit

abbrev NMAX : Nat := 2513169434916
/-- the store s holds what is left of the versions that came; T are the blocks that it turns, U some that are not its; N bounds what came -/
def StoR (w : World) (s : Nat) (T U : Nat → Prop) (R : List KV) (N : Nat) : Prop :=
  ∃ m n D C, Sto w s m n D C (liveR R) (verR R) U ∧ ((∀ k, T k ↔ Ter s m C k) ∧ (∀ k, U k → k < w.heap.size ∧ ¬ T k)) ∧ GoodR R ∧ n ≤ N ∧ R.length ≤ N

theorem wgt_bound {R : List KV} (h : GoodR R) (k : List UInt8) : 0 ≤ wgt (keyB k) (verR R (keyB k)) ∧ wgt (keyB k) (verR R (keyB k)) ≤ 4351 := by
  unfold wgt
  cases hl : (verR R (keyB k)).getLast? with
  | none => simp
  | some x =>
    have hx := verR_mem.1 (List.mem_of_getLast? hl)
    have h1 := h.key _ hx
    have h2 := h.bs _ hx
    simp only at h1 h2 ⊢
    split <;> omega
theorem sumZ_bound (ks : List (List UInt8)) (f : List UInt8 → Int) (h : ∀ k ∈ ks, 0 ≤ f k ∧ f k ≤ 4351) : 0 ≤ sumZ ks f ∧ sumZ ks f ≤ 4351 * ks.length := by
  induction ks with
  | nil => simp [sumZ]
  | cons a ks ih =>
    have h1 := ih fun k hk => h k (by simp [hk])
    have h2 := h a (by simp)
    have e : sumZ (a :: ks) f = f a + sumZ ks f := rfl
    rw [e, List.length_cons]
    omega
theorem dedup_length : ∀ (l : List (List UInt8)), (dedup l).length ≤ l.length
  | [] => Nat.le_refl _
  | [_] => Nat.le_refl _
  | x :: y :: ls => by
    unfold dedup
    have := dedup_length (y :: ls)
    split
    · simp only [List.length_cons] at this ⊢; omega
    · simp only [List.length_cons] at this ⊢; omega
theorem keysR_length (R : List KV) : (keysR R).length ≤ R.length := by
  have := dedup_length ((R.map fun p => p.1.data.toList).mergeSort leB)
  rw [List.length_mergeSort, List.length_map] at this
  exact this
theorem liveR_bound {R : List KV} (h : GoodR R) : 0 ≤ liveR R ∧ liveR R ≤ 4351 * R.length := by
  have := sumZ_bound (keysR R) _ (fun k _ => wgt_bound h k)
  have h2 := keysR_length R
  unfold liveR
  omega

theorem Sto.keysR {w : World} {s m n : Nat} {D : MD} {C : ByteArray → Option Ch} {live : Int} {R : List KV} {U : Nat → Prop} (h : Sto w s m n D C live (verR R) U) (hg : GoodR R) : sortedKeys D = keysR R := by
  unfold sortedKeys
  refine sorted_unique _ _ ?_ (keysR_sorted R) fun k => ?_
  · have h1 := List.pairwise_mergeSort leB_trans leB_total (strKeys D)
    have h2 : ((strKeys D).mergeSort leB).Nodup := (List.mergeSort_perm _ _).nodup_iff.2 h.is.nodup
    refine (h1.and h2).imp fun {a b} ⟨ha, hb⟩ => ?_
    simp only [leB, decide_eq_true_eq] at ha
    exact (List.le_iff_lt_or_eq.1 ha).resolve_right hb
  · rw [List.mem_mergeSort, h.is.key_iff, keysR_mem, ← verR_ne]
    constructor
    · rintro ⟨_, hc⟩
      obtain ⟨c, hc⟩ := Option.ne_none_iff_exists'.1 hc
      exact h.has _ c hc
    · intro hv
      refine ⟨?_, fun hc => hv (h.nov _ hc)⟩
      obtain ⟨x, hx⟩ := verR_ne.1 hv
      have := (hg.key _ hx).2
      simp only [ByteArray.size, List.size_toArray] at this
      unfold maxLen
      omega
theorem Sto.fewR {w : World} {s m n : Nat} {D : MD} {C : ByteArray → Option Ch} {live : Int} {R : List KV} {U : Nat → Prop} (h : Sto w s m n D C live (verR R) U) (hg : GoodR R) : Go.Maps.size D ≤ R.length := by
  rw [← sorted_len, h.keysR hg]
  exact keysR_length R

theorem StoR.keep {w w' : World} {s N : Nat} {T U : Nat → Prop} {R : List KV} (h : StoR w s T U R N) (ho : Only NoneOf w w') : StoR w' s T U R N := by
  obtain ⟨m, n, D, C, h1, ⟨h2, h2'⟩, h3⟩ := h
  exact ⟨m, n, D, C, h1.keep ho, ⟨h2, fun k hk => ⟨Nat.lt_of_lt_of_le (h2' k hk).1 ho.size, (h2' k hk).2⟩⟩, h3⟩
theorem StoR.good {w : World} {s N : Nat} {T U : Nat → Prop} {R : List KV} (h : StoR w s T U R N) : GoodR R := by
  obtain ⟨m, n, D, C, h1, h2, h3, _⟩ := h
  exact h3
theorem StoR.lt {w : World} {s N : Nat} {T U : Nat → Prop} {R : List KV} (h : StoR w s T U R N) {k : Nat} (hk : T k) : k < w.heap.size := by
  obtain ⟨m, n, D, C, h1, h2, h3, _⟩ := h
  exact h1.is.ter_lt ((h2.1 k).1 hk)
theorem StoR.ult {w : World} {s N : Nat} {T U : Nat → Prop} {R : List KV} (h : StoR w s T U R N) {k : Nat} (hk : U k) : k < w.heap.size := by
  obtain ⟨m, n, D, C, h1, h2, h3, _⟩ := h
  exact (h2.2 k hk).1
theorem StoR.at {w : World} {s N : Nat} {T U : Nat → Prop} {R : List KV} (h : StoR w s T U R N) : s < w.heap.size := by
  obtain ⟨m, n, D, C, h1, h2, h3, _⟩ := h
  exact h1.is.blk.lt

theorem liveR_nil : liveR [] = 0 := by simp [liveR, keysR, dedup, sumZ]
set_option maxHeartbeats 400000 in
theorem newR (w : World) (U : Nat → Prop) (hU : ∀ k, U k → k < w.heap.size) : Calls Tryz.prog 28 #[] w fun e w' => e = .returned (.pointer (some ⟨w.heap.size + 1, 0, none⟩)) ∧ ∃ T, StoR w' (w.heap.size + 1) T U [] 0 ∧ Only NoneOf w w' ∧ ∀ k, T k → w.heap.size ≤ k := by
  refine (new_is w).mono ?_
  rintro e w' ⟨rfl, h, ho⟩
  have hT : ∀ k, Ter (w.heap.size + 1) w.heap.size (fun _ => none) k → w.heap.size ≤ k := fun k hk => by
    rcases hk with rfl | rfl | ⟨_, c, hc, _⟩
    · omega
    · omega
    · cases hc
  refine ⟨rfl, Ter (w.heap.size + 1) w.heap.size (fun _ => none), ⟨w.heap.size, 0, _, _, ⟨by rw [liveR_nil]; exact h, fun _ _ hc => (by cases hc), fun _ _ hc => (by cases hc), fun _ _ => rfl, fun _ _ hc => (by cases hc)⟩, ⟨fun _ => Iff.rfl, fun k hk => ⟨Nat.lt_of_lt_of_le (hU k hk) ho.size, fun ht => by have := hU k hk; have := hT k ht; omega⟩⟩, GoodR.nil, Nat.le_refl _, Nat.le_refl _⟩, ho, hT⟩

/-- Apply's answer -/
def codeR (R : List KV) (key : ByteArray) (x : Ver) : Int := applyC key x.bs.length x.st x.dead (verR R key)
/-- what came, behind it -/
def afterR (R : List KV) (key : ByteArray) (x : Ver) : List KV := if codeR R key x = 0 then R ++ [(key, x)] else R

theorem may_ok {key : ByteArray} {n : Nat} {st : Int} {dead : Bool} (h : mayI key.size n st dead = 0) : 1 ≤ key.size ∧ key.size ≤ 255 ∧ n ≤ 4096 ∧ (dead = true → n = 0) ∧ 0 ≤ st ∧ st ≤ 4611686018427387904 := by
  unfold mayI at h
  split at h
  · cases h
  · split at h
    · cases h
    · split at h
      · cases h
      · rename_i h1 h2 h3
        simp only [not_or, not_and] at h1 h2 h3
        refine ⟨by omega, by omega, by omega, fun hd => ?_, by omega, by omega⟩
        have := h2.2 hd
        omega

theorem wgt_upd (R : List KV) (key : ByteArray) (x : Ver) : upd (verR R) key (verR R key ++ [x]) = verR (R ++ [(key, x)]) := by
  funext k
  unfold upd
  rw [verR_append, verR_one]
  by_cases h : k = key
  · subst h; simp
  · rw [if_neg h, if_neg (Ne.symm h), List.append_nil]

theorem applyR (w : World) (s N : Nat) (T U : Nat → Prop) (R : List KV) (h : StoR w s T U R N) (hN : N < NMAX) (key : ByteArray) (st : Int) (A : Option Addr) (nn cc : Nat) (dead : Bool) (bs : List UInt8) (hnn : bs.length = nn) (hby : BytesAt w A bs) :
    Calls Tryz.prog 34 #[.pointer (some ⟨s, 0, none⟩), .agg (verC key st (.slice A nn cc) dead)] w fun e w' =>
      e = .returned (.int .i64 (codeR R key ⟨st, bs, dead⟩)) ∧ ∃ T', StoR w' s T' U (afterR R key ⟨st, bs, dead⟩) (N + 1) ∧ Only T w w' ∧ ∀ k, T' k → T k ∨ w.heap.size ≤ k := by
  obtain ⟨m, n, D, C, h1, h2, h3, h4, h5⟩ := h
  have hsame : ∀ w', Only NoneOf w w' → ∃ T', StoR w' s T' U R (N + 1) ∧ Only T w w' ∧ ∀ k, T' k → T k ∨ w.heap.size ≤ k := fun w' ho =>
    ⟨T, ⟨m, n, D, C, h1.keep ho, ⟨h2.1, fun k hk => ⟨Nat.lt_of_lt_of_le (h2.2 k hk).1 ho.size, (h2.2 k hk).2⟩⟩, h3, by omega, by omega⟩, ho.mono fun _ _ h => h.elim, fun k hk => .inl hk⟩
  by_cases hmay : mayI key.size nn st dead = 0
  · have hc : codeR R key ⟨st, bs, dead⟩ = match (verR R key).getLast? with | none => 0 | some x => if st ≤ x.st then 130 else 0 := by
      unfold codeR applyC
      simp only [hnn]
      rw [if_neg (fun hh => hh hmay)]
      cases (verR R key).getLast? <;> rfl
    obtain ⟨m1, m2, m3, m4, m5, m6⟩ := may_ok hmay
    have hbs : ∀ x ∈ verR R key, x.bs.length ≤ 4096 := fun x hx => h3.bs _ (verR_mem.1 hx)
    have hok : (∀ x ∈ verR R key, x.st < st) → codeR R key ⟨st, bs, dead⟩ = 0 → Calls Tryz.prog 34 #[.pointer (some ⟨s, 0, none⟩), .agg (verC key st (.slice A nn cc) dead)] w fun e w' =>
      e = .returned (.int .i64 (codeR R key ⟨st, bs, dead⟩)) ∧ ∃ T', StoR w' s T' U (afterR R key ⟨st, bs, dead⟩) (N + 1) ∧ Only T w w' ∧ ∀ k, T' k → T k ∨ w.heap.size ≤ k := fun hnew hz => by
      have hlen : (verR R key).length ≤ R.length := by unfold verR; rw [List.length_map]; exact List.length_filter_le _ _
      have hlb := liveR_bound h3
      unfold NMAX at hN
      refine (apply_ok w s m n D C (liveR R) (verR R) (fun k hk => (h2.2 k hk).1) key st A nn cc dead bs hnn hby hmay h1 hbs hnew (by omega) (by omega) (by omega) m2 m3 m5).mono ?_
      rintro e w' ⟨rfl, D', C', hs, ho, hk⟩
      rw [hz]
      unfold afterR
      rw [if_pos hz]
      have hk2 : ∀ k, Ter s m C' k → T k ∨ w.heap.size ≤ k := fun k hk' => by
        rcases hk k hk' with h | h
        · exact .inl ((h2.1 k).2 h)
        · exact .inr h
      refine ⟨rfl, Ter s m C', ⟨m, n + 1, D', C', ?_, ⟨fun _ => Iff.rfl, fun k hu => ⟨Nat.lt_of_lt_of_le (h2.2 k hu).1 ho.size, fun ht => by
        rcases hk2 k ht with h | h
        · exact (h2.2 k hu).2 h
        · have := (h2.2 k hu).1; omega⟩⟩, h3.snoc ⟨m1, m2⟩ (by simp only; omega) ⟨m5, m6⟩ hnew, by omega, by simp; omega⟩, ho.mono fun k _ hk' => (h2.1 k).2 hk', hk2⟩
      rw [liveR_snoc, ← wgt_upd]
      exact hs
    cases hl : (verR R key).getLast? with
    | none =>
      rw [List.getLast?_eq_none_iff] at hl
      exact hok (fun x hx => by rw [hl] at hx; cases hx) (by rw [hc, hl]; rfl)
    | some x =>
      obtain ⟨xs, hxs⟩ := List.getLast?_eq_some_iff.1 hl
      by_cases hle : st ≤ x.st
      · have hz : codeR R key ⟨st, bs, dead⟩ = 130 := by rw [hc, hl]; simp [hle]
        refine (apply_old w s m n D C (liveR R) (verR R) key st A nn cc dead bs hnn hby hmay h1 hbs xs x hxs hle m2 m3 m5).mono ?_
        rintro e w' ⟨rfl, ho⟩
        unfold afterR
        rw [hz, if_neg (by decide)]
        exact ⟨rfl, hsame w' ho⟩
      · refine hok (fun y hy => ?_) (by rw [hc, hl]; simp [hle])
        have hr := h3.rise key
        rw [hxs] at hy hr
        obtain ⟨_, _, h6⟩ := List.pairwise_append.1 hr
        rcases List.mem_append.1 hy with hy | hy
        · have := h6 y hy x (by simp); omega
        · obtain rfl : y = x := by simpa using hy
          omega
  · have hz : codeR R key ⟨st, bs, dead⟩ = mayI key.size nn st dead := by
      unfold codeR applyC
      simp only [hnn]
      rw [if_pos hmay]
    refine (apply_bad w s key st A nn cc dead hmay).mono ?_
    rintro e w' ⟨rfl, ho⟩
    unfold afterR
    rw [hz, if_neg hmay]
    exact ⟨rfl, hsame w' ho⟩

theorem getR (w : World) (s N : Nat) (T U : Nat → Prop) (R : List KV) (h : StoR w s T U R N) (key : ByteArray) (st : Int) (hk : key.size ≤ maxLen) :
    Calls Tryz.prog 152 #[.pointer (some ⟨s, 0, none⟩), .string key, .int .i64 st] w (GetIs (found (verR R key) st) w) := by
  obtain ⟨m, n, D, C, h1, h2, h3, h4, h5⟩ := h
  exact get_is w s m n D C _ (verR R) key st hk h1 (fun x hx => h3.bs _ (verR_mem.1 hx))

/-- Newest's answer -/
def newestT (xs : List Ver) : Value := match xs.getLast? with
  | none => .tuple #[.int .i64 0, .bool false]
  | some x => .tuple #[.int .i64 x.st, .bool true]
/-- what a Scan tells -/
def scanR (R : List KV) (fr tt : ByteArray) (st : Int) : List (ByteArray × List UInt8) := (keysR R).filterMap (scanKey (verR R) fr tt st)
theorem scanIter (W : World) (b s N : Nat) (T U : Nat → Prop) (R : List KV) (fr tt : ByteArray) (st : Int) (h : StoR W s T U R N) (hN : N ≤ NMAX)
    (hb0 : W.cell? ⟨b, 0, none⟩ = some (.pointer (some ⟨s, 0, none⟩))) (hb1 : W.cell? ⟨b + 1, 0, none⟩ = some (.string fr)) (hb2 : W.cell? ⟨b + 2, 0, none⟩ = some (.string tt)) (hb3 : W.cell? ⟨b + 3, 0, none⟩ = some (.int .i64 st)) :
    IterM Tryz.prog 155 (scanFn b) PairEnc (scanR R fr tt st) NoneOf W := by
  obtain ⟨m, n, D, C, h1, h2, h3, h4, h5⟩ := h
  have := h1.fewR h3
  have := scan_iter W b s m n D C _ (verR R) fr tt st h1 (fun key x hx => h3.bs _ (verR_mem.1 hx)) (by unfold NMAX at hN; omega) hb0 hb1 hb2 hb3
  unfold scanOf at this
  rw [h1.keysR h3] at this
  exact this

/-- what Versions tells -/
def versR (R : List KV) : List KV := (keysR R).flatMap fun k => (verR R (keyB k)).map fun x => (keyB k, x)
theorem versR_length (R : List KV) : (versR R).length = R.length := by
  have h := sumN_len R (keysR R) (sorted_nodup (keysR_sorted _)) keysR_all
  rw [← h]
  unfold versR sumN
  rw [List.length_flatMap]
  simp
theorem Holds.widen {w : World} {T T' : Nat → Prop} {l : Lk} {x : Ver} (h : Holds w T l x) (hT : ∀ g, g < w.heap.size → T' g → T g) : Holds w T' l x := by
  obtain ⟨h1, h2, A, c, h3, h4, h5⟩ := h
  refine ⟨h1, h2, A, c, h3, h4, fun hne g off hA ht => ?_⟩
  have h0 : x.bs[0]? = some (x.bs[0]'(List.length_pos_iff.2 hne)) := List.getElem?_eq_getElem _
  obtain ⟨g', off', hA', hg', _⟩ := h4 0 _ h0
  rw [hA] at hA'
  simp only [Option.some.injEq, Addr.mk.injEq, and_true] at hA'
  obtain ⟨rfl, rfl⟩ := hA'
  exact h5 hne g off hA (hT g hg' ht)
/-- What another one turns. -/
theorem StoR.other {w w' : World} {s N : Nat} {T U U' S : Nat → Prop} {R : List KV} (h : StoR w s T U R N) (ho : Only S w w') (hS : ∀ k, S k → U k) (hU : ∀ k, U' k → k < w'.heap.size ∧ (U k ∨ w.heap.size ≤ k)) : StoR w' s T U' R N := by
  obtain ⟨m, n, D, C, h1, ⟨h2, h2'⟩, h3⟩ := h
  have hTS : ∀ k, Ter s m C k → ¬ S k := fun k hk hs => (h2' k (hS k hs)).2 ((h2 k).2 hk)
  refine ⟨m, n, D, C, ⟨⟨h1.is.blk.only ho (hTS s (.inl rfl)), map_only h1.is.map ho (hTS m (.inr (.inl rfl))), h1.is.keys, fun key c hc => (h1.is.chains key c hc).only ho (fun k hk => hTS k (.inr (.inr ⟨key, c, hc, hk⟩))), h1.is.apart, h1.is.far, h1.is.sm⟩,
    h1.len, fun key c hc i l x hl hx => ?_, h1.nov, h1.has⟩, ⟨h2, fun k hk => ⟨(hU k hk).1, fun ht => ?_⟩⟩, h3⟩
  · have hh := h1.ver key c hc i l x hl hx
    exact hh.turn ho (fun g hg hn hs => hn (.inr (hS g hs))) (fun g hg hn ht => hn (by
      rcases ht with ht | ht
      · exact .inl ht
      · exact .inr ((hU g ht).2.resolve_right (by omega))))
  · rcases (hU k hk).2 with h | h
    · exact (h2' k h).2 ht
    · have := h1.is.ter_lt ((h2 k).1 ht)
      omega

end Go.Proofs.YtbhihbhjmmeibaaGreat

/-
  Layer 16: slices.Sorted(maps.Keys(m)) for the map of writes.
-/
namespace Go.Proofs
open Go.Shelf
def Tryz.keysW_ren : Go.Shelf.Ren := ⟨fun | 7 => 73 | 10 => 100 | n => n, fun | 23 => 141 | 26 => 9 | 3 => 160 | 28 => 157 | 0 => 0 | 27 => 156 | 33 => 144 | 4 => 4 | n => n, fun | n => n⟩
theorem Tryz.keysW : Go.Proofs.SlLaysZ.n7 Tryz.prog Tryz.keysW_ren := {
  mixed := by kernel_rfl
  f7 := ⟨Tryz.f73.name, by decide, Tryz.func73.trans (congrArg some (by kernel_rfl))⟩
  f10 := ⟨Tryz.f100.name, by decide, Tryz.func100.trans (congrArg some (by kernel_rfl))⟩
  t0 := Tryz.underlying0
  a0 := Tryz.isAgg0
  z0 := Tryz.sizeOf0
  v0 := Tryz.zeroValue0
  t4 := Tryz.underlying4
  a4 := Tryz.isAgg4
  z4 := Tryz.sizeOf4
  v4 := Tryz.zeroValue4
  t23 := Tryz.underlying141
  a23 := Tryz.isAgg141
  z23 := Tryz.sizeOf141
  v23 := Tryz.zeroValue141
  t26 := Tryz.underlying9
  a26 := Tryz.isAgg9
  z26 := Tryz.sizeOf9
  v26 := Tryz.zeroValue9
  t27 := Tryz.underlying156
  a27 := Tryz.isAgg156
  z27 := Tryz.sizeOf156
  v27 := Tryz.zeroValue156
  t28 := Tryz.underlying157
  a28 := Tryz.isAgg157
  z28 := Tryz.sizeOf157
  v28 := Tryz.zeroValue157
  t33 := Tryz.underlying144
  a33 := Tryz.isAgg144
  z33 := Tryz.sizeOf144
  v33 := Tryz.zeroValue144 }
open Go.RowKit Go.Maps Go.Sort

/-- **maps.Keys[map[string]*cloister/chain.Chain[[]byte],string,*cloister/chain.Chain[[]byte]], at whatever map, the nil one too:** a function value over ONE NEW BLOCK, which holds the map. -/
theorem Tryz.maps_Keys_W (mb : Option Nat) (W : World) : CallsIn Fence.wide 5 Tryz.prog 73 #[.map mb] W fun e w' => e = .returned (.func (.func 100) #[] #[.pointer (some ⟨W.heap.size, 0, none⟩)]) ∧ w' = W.alloc (.cells #[.map mb] 141) :=
  AnyZ.keys_in Tryz.keysW Fence.wide 5 trivial rfl mb W

set_option maxHeartbeats 1000000 in
/-- **slices.Sorted[string] AT WHAT maps.Keys[map[string]*cloister/chain.Chain[[]byte],string,*cloister/chain.Chain[[]byte]] HANDED BACK FOR A MAP THAT IS NOT nil** ('w': the world AHEAD of maps.Keys' call): A NEW SLICE THAT HOLDS THE MAP's KEYS, SORTED; nil just where it has none; nothing that lay before has turned. -/
theorem Tryz.slices_Sorted_keys_66_W {H : Type} (b nn : Nat) (D0 : DataW H) (R : Value → Option (DataW H × List MemPlace)) (w : World) (hown : w.ownsMap Tryz.prog 9 R b nn D0) (hmax : Maps.size D0 ≤ maxLen) (hbytes : Maps.size D0 * 16 ≤ 140737488355328) :
    CallsIn Fence.wide 5 Tryz.prog 72 #[.func (.func 100) #[] #[.pointer (some ⟨w.heap.size, 0, none⟩)]] (w.alloc (.cells #[.map (some b)] 141)) fun e w' => ∃ (v : Value) (ss : List (List UInt8)), e = .returned v ∧ ss.Perm (strKeys D0) ∧
      w'.ownsRow (w.alloc (.cells #[.map (some b)] 141)).heap.size 9 1 v ss.length ((ss.mergeSort (fun x y => decide (x ≤ y))).map encStr) ∧ (v = .slice none 0 0 ↔ ss = []) ∧ Below (w.alloc (.cells #[.map (some b)] 141)).heap.size (w.alloc (.cells #[.map (some b)] 141)) w' := by
  have hbl := hown.lt
  have hseq : SeqGives Fence.wide 2 Tryz.prog 100 #[.pointer (some ⟨w.heap.size, 0, none⟩)] encStr (fun ss => ss.Perm (strKeys D0)) (Maps.size D0) (w.alloc (.cells #[.map (some b)] 141)) :=
    AnyZ.keys_gives (ρ := Tryz.keysW_ren) { Tryz.keysW with } Fence.wide _ trivial rfl (by omega) w.heap.size b nn D0 _ (by simp) (by simp) (by
      obtain ⟨es, clock, hb, Ft, hs, hD⟩ := hown
      exact ⟨es, clock, (Below.heap_alloc _ _ b hbl).trans hb, Ft, hs, hD⟩)
  exact AnyZ.sorted_in Tryz.sorted66 Fence.wide 5 trivial trivial trivial trivial rfl (by omega) (Tryz.sorts66 _) (enters_of Tryz.func99 (by kernel_rfl) rfl) 100 #[.pointer (some ⟨w.heap.size, 0, none⟩)] trivial (enters_of Tryz.func100 (by kernel_rfl) rfl) _ _ hmax hbytes _ hseq

set_option maxHeartbeats 1000000 in
/-- **.. AND FOR THE nil MAP: nil.** -/
theorem Tryz.slices_Sorted_keys_nil_66_W (w : World) :
    CallsIn Fence.wide 5 Tryz.prog 72 #[.func (.func 100) #[] #[.pointer (some ⟨w.heap.size, 0, none⟩)]] (w.alloc (.cells #[.map none] 141)) fun e w' => ∃ (v : Value) (ss : List (List UInt8)), e = .returned v ∧ ss = [] ∧
      w'.ownsRow (w.alloc (.cells #[.map none] 141)).heap.size 9 1 v ss.length ((ss.mergeSort (fun x y => decide (x ≤ y))).map encStr) ∧ (v = .slice none 0 0 ↔ ss = []) ∧ Below (w.alloc (.cells #[.map none] 141)).heap.size (w.alloc (.cells #[.map none] 141)) w' := by
  have hseq : SeqGives Fence.wide 2 Tryz.prog 100 #[.pointer (some ⟨w.heap.size, 0, none⟩)] encStr (fun ss : List (List UInt8) => ss = []) 0 (w.alloc (.cells #[.map none] 141)) :=
    AnyZ.keys_gives_nil (ρ := Tryz.keysW_ren) { Tryz.keysW with } Fence.wide _ trivial rfl w.heap.size _ (by simp) (by simp)
  exact AnyZ.sorted_in Tryz.sorted66 Fence.wide 5 trivial trivial trivial trivial rfl (by omega) (Tryz.sorts66 _) (enters_of Tryz.func99 (by kernel_rfl) rfl) 100 #[.pointer (some ⟨w.heap.size, 0, none⟩)] trivial (enters_of Tryz.func100 (by kernel_rfl) rfl) _ 0 (Nat.zero_le _) (by omega) _ hseq

end Go.Proofs

/-
  own (a copy of bytes) of wset, txn, and of the reference.
-/
namespace Go.Proofs.YtbhihbhjmmeibaaGreat
open Go.RowKit
set_option maxRecDepth 100000 in
set_option maxHeartbeats 1000000 in
theorem own_isw (A : Option Addr) (n c : Nat) (bs : List UInt8) (w : World) (hn : bs.length = n) (hA : BytesAt w A bs) (hl : n ≤ 35184372088832) : Calls Tryz.prog 91 #[.slice A n c] w (OwnPost bs w) := by
  obtain ⟨i0, hi, hz0, hz1, hz2⟩ := info_parts info5
  rcases Nat.eq_zero_or_pos n with h0 | h0
  · subst h0
    obtain rfl : bs = [] := List.eq_nil_of_length_eq_zero hn
    go_enter Tryz.func91, Tryz.ntmps91
    go_wp2_with (at_builtin; refine wpList_append_zero rfl (.const (.slice none 0 0)) (.tmp 3) 45 5 rfl i0 Tryz.underlying45 hi rfl A c rfl ?_)
    go_ret
    exact ⟨_, rfl, ⟨by simp, .inl ⟨rfl, rfl⟩⟩, Only.refl _ _⟩
  · obtain ⟨g, off, rfl, hg, hq⟩ := hA 0 bs[0] (List.getElem?_eq_getElem (by omega))
    clear hq hg
    have HA := Lib.hid hA
    have HN := Lib.hid hn
    clear hA hn
    go_enter Tryz.func91, Tryz.ntmps91
    go_wp2_with (at_builtin; refine wpList_append_lies w rfl (.const (.slice none 0 0)) (.tmp 3) 45 rfl w.heap.size 5 i0 _ 1 1 Tryz.underlying45 hi hz0 hz1 hz2 rfl (by decide) (.slice none 0 0) 0 [] rfl ⟨rfl, .inl ⟨rfl, rfl⟩⟩ ⟨g, off, none⟩ n c (bs.map byteV) rfl (by rw [List.length_map, HN.out, Nat.mul_one]) ?_ ?_ h0 (by unfold maxLen; omega) (by omega) (Nat.le_refl _) w.heap.size rfl ?_)
    · intro j u hj
      have hadd : (⟨g, off, none⟩ : Addr).add j = ⟨g, off + j, none⟩ := by unfold Addr.add; split <;> simp_all
      rw [List.getElem?_map] at hj
      obtain ⟨b, hb, rfl⟩ := Option.map_eq_some_iff.1 hj
      obtain ⟨g', off', he, _, h1⟩ := HA.out j b hb
      simp only [Option.some.injEq, Addr.mk.injEq, and_true] at he
      obtain ⟨rfl, rfl⟩ := he
      rw [hadd]
      exact h1
    · intro u hu
      obtain ⟨b, _, rfl⟩ := List.mem_map.1 hu
      rfl
    · intro g' cap w' h1 h2 h3 _
      have H1 := Lib.hid h1
      have H2 := Lib.hid h2
      clear h1 h2 h3
      go_wp2_with fail
      go_ret
      refine ⟨.slice (some ⟨g', 0, none⟩) n cap, by simp, ?_, (only_grown H2.out).mono (fun k _ hk => by simp [Value.ownBlock] at hk)⟩
      have h3 : World.ownsRow w' w.heap.size 5 1 (.slice (some ⟨g', 0, none⟩) n cap) n (bs.map byteV) := by simpa using H1.out
      show World.ownsRow w' w.heap.size 5 1 (.slice (some ⟨g', 0, none⟩) n cap) bs.length (bs.map byteV)
      rw [HN.out]
      exact h3


set_option maxRecDepth 100000 in
set_option maxHeartbeats 1000000 in
theorem own_ist (A : Option Addr) (n c : Nat) (bs : List UInt8) (w : World) (hn : bs.length = n) (hA : BytesAt w A bs) (hl : n ≤ 35184372088832) : Calls Tryz.prog 66 #[.slice A n c] w (OwnPost bs w) := by
  obtain ⟨i0, hi, hz0, hz1, hz2⟩ := info_parts info5
  rcases Nat.eq_zero_or_pos n with h0 | h0
  · subst h0
    obtain rfl : bs = [] := List.eq_nil_of_length_eq_zero hn
    go_enter Tryz.func66, Tryz.ntmps66
    go_wp2_with (at_builtin; refine wpList_append_zero rfl (.const (.slice none 0 0)) (.tmp 3) 45 5 rfl i0 Tryz.underlying45 hi rfl A c rfl ?_)
    go_ret
    exact ⟨_, rfl, ⟨by simp, .inl ⟨rfl, rfl⟩⟩, Only.refl _ _⟩
  · obtain ⟨g, off, rfl, hg, hq⟩ := hA 0 bs[0] (List.getElem?_eq_getElem (by omega))
    clear hq hg
    have HA := Lib.hid hA
    have HN := Lib.hid hn
    clear hA hn
    go_enter Tryz.func66, Tryz.ntmps66
    go_wp2_with (at_builtin; refine wpList_append_lies w rfl (.const (.slice none 0 0)) (.tmp 3) 45 rfl w.heap.size 5 i0 _ 1 1 Tryz.underlying45 hi hz0 hz1 hz2 rfl (by decide) (.slice none 0 0) 0 [] rfl ⟨rfl, .inl ⟨rfl, rfl⟩⟩ ⟨g, off, none⟩ n c (bs.map byteV) rfl (by rw [List.length_map, HN.out, Nat.mul_one]) ?_ ?_ h0 (by unfold maxLen; omega) (by omega) (Nat.le_refl _) w.heap.size rfl ?_)
    · intro j u hj
      have hadd : (⟨g, off, none⟩ : Addr).add j = ⟨g, off + j, none⟩ := by unfold Addr.add; split <;> simp_all
      rw [List.getElem?_map] at hj
      obtain ⟨b, hb, rfl⟩ := Option.map_eq_some_iff.1 hj
      obtain ⟨g', off', he, _, h1⟩ := HA.out j b hb
      simp only [Option.some.injEq, Addr.mk.injEq, and_true] at he
      obtain ⟨rfl, rfl⟩ := he
      rw [hadd]
      exact h1
    · intro u hu
      obtain ⟨b, _, rfl⟩ := List.mem_map.1 hu
      rfl
    · intro g' cap w' h1 h2 h3 _
      have H1 := Lib.hid h1
      have H2 := Lib.hid h2
      clear h1 h2 h3
      go_wp2_with fail
      go_ret
      refine ⟨.slice (some ⟨g', 0, none⟩) n cap, by simp, ?_, (only_grown H2.out).mono (fun k _ hk => by simp [Value.ownBlock] at hk)⟩
      have h3 : World.ownsRow w' w.heap.size 5 1 (.slice (some ⟨g', 0, none⟩) n cap) n (bs.map byteV) := by simpa using H1.out
      show World.ownsRow w' w.heap.size 5 1 (.slice (some ⟨g', 0, none⟩) n cap) bs.length (bs.map byteV)
      rw [HN.out]
      exact h3


set_option maxRecDepth 100000 in
set_option maxHeartbeats 1000000 in
theorem own_isr (A : Option Addr) (n c : Nat) (bs : List UInt8) (w : World) (hn : bs.length = n) (hA : BytesAt w A bs) (hl : n ≤ 35184372088832) : Calls Tryz.prog 103 #[.slice A n c] w (OwnPost bs w) := by
  obtain ⟨i0, hi, hz0, hz1, hz2⟩ := info_parts info5
  rcases Nat.eq_zero_or_pos n with h0 | h0
  · subst h0
    obtain rfl : bs = [] := List.eq_nil_of_length_eq_zero hn
    go_enter Tryz.func103, Tryz.ntmps103
    go_wp2_with (at_builtin; refine wpList_append_zero rfl (.const (.slice none 0 0)) (.tmp 3) 45 5 rfl i0 Tryz.underlying45 hi rfl A c rfl ?_)
    go_ret
    exact ⟨_, rfl, ⟨by simp, .inl ⟨rfl, rfl⟩⟩, Only.refl _ _⟩
  · obtain ⟨g, off, rfl, hg, hq⟩ := hA 0 bs[0] (List.getElem?_eq_getElem (by omega))
    clear hq hg
    have HA := Lib.hid hA
    have HN := Lib.hid hn
    clear hA hn
    go_enter Tryz.func103, Tryz.ntmps103
    go_wp2_with (at_builtin; refine wpList_append_lies w rfl (.const (.slice none 0 0)) (.tmp 3) 45 rfl w.heap.size 5 i0 _ 1 1 Tryz.underlying45 hi hz0 hz1 hz2 rfl (by decide) (.slice none 0 0) 0 [] rfl ⟨rfl, .inl ⟨rfl, rfl⟩⟩ ⟨g, off, none⟩ n c (bs.map byteV) rfl (by rw [List.length_map, HN.out, Nat.mul_one]) ?_ ?_ h0 (by unfold maxLen; omega) (by omega) (Nat.le_refl _) w.heap.size rfl ?_)
    · intro j u hj
      have hadd : (⟨g, off, none⟩ : Addr).add j = ⟨g, off + j, none⟩ := by unfold Addr.add; split <;> simp_all
      rw [List.getElem?_map] at hj
      obtain ⟨b, hb, rfl⟩ := Option.map_eq_some_iff.1 hj
      obtain ⟨g', off', he, _, h1⟩ := HA.out j b hb
      simp only [Option.some.injEq, Addr.mk.injEq, and_true] at he
      obtain ⟨rfl, rfl⟩ := he
      rw [hadd]
      exact h1
    · intro u hu
      obtain ⟨b, _, rfl⟩ := List.mem_map.1 hu
      rfl
    · intro g' cap w' h1 h2 h3 _
      have H1 := Lib.hid h1
      have H2 := Lib.hid h2
      clear h1 h2 h3
      go_wp2_with fail
      go_ret
      refine ⟨.slice (some ⟨g', 0, none⟩) n cap, by simp, ?_, (only_grown H2.out).mono (fun k _ hk => by simp [Value.ownBlock] at hk)⟩
      have h3 : World.ownsRow w' w.heap.size 5 1 (.slice (some ⟨g', 0, none⟩) n cap) n (bs.map byteV) := by simpa using H1.out
      show World.ownsRow w' w.heap.size 5 1 (.slice (some ⟨g', 0, none⟩) n cap) bs.length (bs.map byteV)
      rw [HN.out]
      exact h3



end Go.Proofs.YtbhihbhjmmeibaaGreat

