/-
  Layer 13's reference (cloisterref13): Prune.
-/
import Derived.Test.YtkfihfipnbbfcaaCR2
namespace Go.Proofs.Ytkfihfipnbbfcaa
open Go.RowKit
namespace Rf
open Cs (IsV only_grown pruned rising_drop)

theorem at_none (w : World) (d : Value) (ls : List Lk) (s : Int) (h : DocIs w d ls) (hc : cnt ls s = 0) :
    Calls Try.prog 52 #[d, .int .i64 s] w fun e w' => e = .returned (.int .i64 (-1)) ∧ w = w' :=
  (at_is w d ls s h).mono fun e w' he => ⟨by rw [he.1, hc]; rfl, he.2⟩

theorem at_some (w : World) (d : Value) (ls : List Lk) (s : Int) (m : Nat) (h : DocIs w d ls) (hc : cnt ls s = m + 1) :
    Calls Try.prog 52 #[d, .int .i64 s] w fun e w' => e = .returned (.int .i64 m) ∧ w = w' :=
  (at_is w d ls s h).mono fun e w' he => ⟨by rw [he.1, hc, show ((m + 1 : Nat) : Int) - 1 = m by omega], he.2⟩

theorem prune_few (w : World) (d : Value) (ls : List Lk) (s : Int) (h : DocIs w d ls) (hc : cnt ls s = 0) : Calls Try.prog 53 #[d, .int .i64 s] w (SamePost d 0 w) := by
  have L := Lib.hid (at_none w d ls s h hc)
  go_enter Try.func53, Try.ntmps53
  go_wp2_with fail
  refine L.out.mono ?_; rintro e w1 ⟨rfl, rfl⟩
  go_wp2_with fail
  go_ret2
  exact ⟨rfl, Only.refl _ _⟩

/-- What has been kept of the first k links, those from m on. -/
def kept (ls : List Lk) (m k : Nat) : List Lk := (ls.take k).drop m
theorem kept_le (ls : List Lk) (m k : Nat) : (kept ls m k).length ≤ ls.length := by unfold kept; simp; omega
theorem kept_more {ls : List Lk} {m k : Nat} {l : Lk} (h : m ≤ k) (hl : ls[k]? = some l) : kept ls m (k + 1) = kept ls m k ++ [l] := by
  have hk : k < ls.length := (List.getElem?_eq_some_iff.1 hl).1
  unfold kept
  rw [List.take_add_one, hl]
  simp only [Option.toList_some]
  rw [List.drop_append_of_le_length (by simp; omega)]
theorem kept_less {ls : List Lk} {m k : Nat} (h : k < m) : kept ls m (k + 1) = kept ls m k := by
  unfold kept
  rw [List.drop_of_length_le (by simp; omega), List.drop_of_length_le (by simp; omega)]
theorem kept_all (ls : List Lk) (m : Nat) : kept ls m ls.length = ls.drop m := by unfold kept; rw [List.take_length]

def KeptRel (w : World) (ls : List Lk) (m : Nat) (o i : Value) (wr : World) : Prop :=
  ∃ k : Nat, k ≤ ls.length ∧ i = .int .i64 k ∧ wr.ownsRow w.heap.size 71 3 o (kept ls m k).length (flat (kept ls m k)) ∧ Only NoneOf w wr

theorem kept_row {w2 : World} {E : Nat} {v2 : Value} {ls : List Lk} {m k : Nat} {st : Int} {x : ByteArray} {dead : Bool} (hl : ls[k]? = some ⟨st, .string x, dead⟩) (hm : m ≤ k)
    (hr : w2.ownsRow E 71 3 v2 ((kept ls m k).length + 1) (flat (kept ls m k) ++ [.int .i64 st, .string x, .bool dead])) : w2.ownsRow E 71 3 v2 (kept ls m (k + 1)).length (flat (kept ls m (k + 1))) := by
  rw [kept_more hm hl, flat_append, List.length_append]
  exact hr
theorem row_len {w : World} {E n n' : Nat} {v : Value} {xs : List Value} (h : w.ownsRow E 71 3 v n xs) (e : n' = n) : w.ownsRow E 71 3 v n' xs := e ▸ h
theorem kept_only {w wr w2 : World} {o : Obj} {v : Value} {n : Nat} {xs : List Value} (ho : Only NoneOf w wr) (hR : wr.ownsRow w.heap.size 71 3 v n xs) (hg : (wr.alloc o).grownBy w2 v.ownBlock) : Only NoneOf w w2 :=
  (ho.alloc o).step (only_grown hg) (fun g hg e => by have := (row_base hR).2 g e; omega)

set_option maxRecDepth 100000 in
set_option maxHeartbeats 1000000 in
theorem prune_many (w : World) (d : Value) (ls : List Lk) (s : Int) (m : Nat) (h : DocIs w d ls) (hc : cnt ls s = m + 1) : Calls Try.prog 53 #[d, .int .i64 s] w (DocPost (ls.drop m) m w) := by
  obtain ⟨i0, hi, hz0, hz1, hz2⟩ := info_parts infoR
  have L := Lib.hid (at_some w d ls s m h hc)
  have hle := cnt_le ls s
  have hfew := h.few
  have HL := Lib.hid (fun i (hi : i < m + 1) l hl => cnt_lt (ls := ls) (s := s) (i := i) (l := l) (hc ▸ hi) hl)
  have HG := Lib.hid (fun i (hi : m + 1 ≤ i) l hl => cnt_ge (ls := ls) h.rise.2 (s := s) (i := i) (l := l) (hc ▸ hi) hl)
  have HH := Lib.hid h
  have hml : m < ls.length := by omega
  rcases form h.row h.vals with ⟨rfl, h1⟩ | ⟨g, cap, hd, hcap, hg, hcs⟩
  · rw [h1] at hml; simp at hml
  have HC := Lib.hid hcs
  subst hd
  clear hcs h hle hc
  go_enter Try.func53, Try.ntmps53
  go_wp2_with fail
  refine L.out.mono ?_; rintro e w1 ⟨rfl, rfl⟩
  go_wp2_with fail
  go_loopw [7, 8] (fun o i wr => KeptRel w ls m o i wr) (fun _ i _ => ls.length - (intOf i).toNat)
  case atStart => exact ⟨0, Nat.zero_le _, rfl, ⟨by simp [kept, flat], .inl ⟨rfl, by simp [kept]⟩⟩, Only.refl _ _⟩
  case round =>
    obtain ⟨k, hk, rfl, hR, ho⟩ := hrel
    have hkl := kept_le ls m k
    by_cases hlt : k < ls.length
    · have hl : ls[k]? = some (ls[k]'hlt) := List.getElem?_eq_getElem _
      obtain ⟨x, hx, e0, e1, e2⟩ := HC.out k _ hl
      have HLk := Lib.hid hl
      have f0 : wr.cell? ⟨g, k * 3, none⟩ = some (.int .i64 (ls[k]'hlt).stamp) := by rw [ho.cell hg (fun h => h)]; exact e0
      have f1 : wr.cell? ⟨g, k * 3 + 1, none⟩ = some (.string x) := by rw [ho.cell hg (fun h => h)]; exact e1
      have f2 : wr.cell? ⟨g, k * 3 + 2, none⟩ = some (.bool (ls[k]'hlt).dead) := by rw [ho.cell hg (fun h => h)]; exact e2
      clear e0 e1 e2
      have hN := Blk.new wr 71 #[.int .i64 (ls[k]'hlt).stamp, .string x, .bool (ls[k]'hlt).dead]
      have hO := Lib.hid ho
      have hws := ho.size
      clear ho
      by_cases hkm : k < m
      · have hs := HL.out k (by omega) _ hl
        have hb : ((k : Int) == (m : Int)) = false := beq_eq_false_iff_ne.2 (by omega)
        generalize ls[k]'hlt = l at *
        obtain ⟨st, val, dead⟩ := l
        clear hl
        simp only at f0 f1 f2 hs hx
        subst hx
        go_wp2_with fail
        go_roundw
        case rel => exact ⟨k + 1, by omega, by go_num, by rw [kept_less hkm]; exact hR, hO.out⟩
        case measure => simp [intOf]; omega
      · by_cases hkm' : k = m
        · subst hkm'
          generalize ls[k]'hlt = l at *
          obtain ⟨st, val, dead⟩ := l
          clear hl
          simp only at f0 f1 f2 hx
          subst hx
          go_wp2_with (at_builtin; refine wpList_append_own _ rfl (.tmp 33) (.tmp 38) 56 rfl w.heap.size 71 i0 _ 3 32 Try.underlying56 hi hz0 hz1 hz2 rfl (by decide) _ (kept ls k k).length (flat (kept ls k k)) rfl (hR.alloc _) ⟨wr.heap.size, 0, none⟩ 1 1 [.int .i64 st, .string x, .bool dead] rfl rfl (World.news_of_block hN) (by simp [Value.oneCell']) (by unfold maxLen; omega) (by omega) (by simp; omega) ?_; intro v2 w2 hr2 hg2 _)
          go_roundw
          case rel => exact ⟨k + 1, by omega, by go_num, kept_row HLk.out (by omega) hr2, kept_only hO.out hR hg2⟩
          case measure => simp [intOf]; omega
        · have hs := HG.out k (by omega) _ hl
          have hb : ((k : Int) == (m : Int)) = false := beq_eq_false_iff_ne.2 (by omega)
          generalize ls[k]'hlt = l at *
          obtain ⟨st, val, dead⟩ := l
          clear hl
          simp only at f0 f1 f2 hs hx
          subst hx
          go_wp2_with (at_builtin; refine wpList_append_own _ rfl (.tmp 33) (.tmp 38) 56 rfl w.heap.size 71 i0 _ 3 32 Try.underlying56 hi hz0 hz1 hz2 rfl (by decide) _ (kept ls m k).length (flat (kept ls m k)) rfl (hR.alloc _) ⟨wr.heap.size, 0, none⟩ 1 1 [.int .i64 st, .string x, .bool dead] rfl rfl (World.news_of_block hN) (by simp [Value.oneCell']) (by unfold maxLen; omega) (by omega) (by simp; omega) ?_; intro v2 w2 hr2 hg2 _)
          go_roundw
          case rel => exact ⟨k + 1, by omega, by go_num, kept_row HLk.out (by omega) hr2, kept_only hO.out hR hg2⟩
          case measure => simp [intOf]; omega
    · obtain rfl : k = ls.length := by omega
      rw [kept_all] at hR
      obtain ⟨q, hq⟩ : ∃ q, (ls.drop m).length = q + 1 := ⟨ls.length - m - 1, by simp; omega⟩
      have hlen : ls.length = m + (q + 1) := by rw [List.length_drop] at hq; omega
      have hR1 := Lib.hid hR
      have HQ := Lib.hid hq
      have HLEN := Lib.hid hlen
      rw [hq] at hR
      obtain ⟨g', cap', hv⟩ := ownsRow_succ hR
      subst hv
      have hO := Lib.hid ho
      have hR1' := Lib.hid hR
      rw [hlen] at hcap hfew ⊢
      clear ho hR hq hlen hlt hkl hk hml
      go_wp2_with fail
      go_ret2
      exact ⟨_, rfl, ⟨(row_base (row_len hR1'.out HQ.out)).1, fun l hl => HH.out.vals l (List.mem_of_mem_drop hl), rising_drop HH.out.rise _, by have := HH.out.few; simp; omega⟩, hO.out, fun g hg => by have := (row_base hR1'.out).2 g hg; omega⟩
end Rf
end Go.Proofs.Ytkfihfipnbbfcaa
