/-
  Layer 13's reference (cloisterref13): At, Add.
-/
import Derived.Test.YtkfihfipnbbfcaaCAs
import Derived.Laws.AppendOwnNone
import Derived.StillTailTactics
namespace Go.Proofs.Ytkfihfipnbbfcaa
open Go.RowKit
namespace Rf
open Cs (IsV rising_snoc only_grown WalkPost)

theorem infoR : (Try.prog.info? 71).map (fun i => (i.zero, i.size, i.bytes)) = some (some (.agg #[.int .i64 0, .string ⟨#[]⟩, .bool false]), 3, 32) := by kernel_rfl

/-- The document's links, in a row of their own. -/
structure DocIs (w : World) (d : Value) (ls : List Lk) : Prop where
  row : w.ownsRow 0 71 3 d ls.length (flat ls)
  vals : ∀ l ∈ ls, IsV l.val
  rise : Rising ls
  few : ls.length ≤ 3518437208800

section
variable {w w' : World} {d : Value} {ls : List Lk} {S : Nat → Prop}
theorem row_only {base n : Nat} {xs : List Value} (h : w.ownsRow base 71 3 d n xs) (ho : Only S w w') (hg : ∀ g, d.ownBlock = some g → ¬ S g) : w'.ownsRow base 71 3 d n xs := by
  refine ⟨h.1, ?_⟩
  rcases h.2 with h0 | ⟨g, cap, cur, hv, hb, hh, r⟩
  · exact .inl h0
  · refine .inr ⟨g, cap, cur, hv, hb, ?_, r⟩
    exact Blk.only (t := 71) (cs := cur) hh ho (hg g (by rw [hv]; rfl))
theorem row_base {base n : Nat} {xs : List Value} (h : w.ownsRow base 71 3 d n xs) : w.ownsRow 0 71 3 d n xs ∧ ∀ g, d.ownBlock = some g → base ≤ g := by
  refine ⟨⟨h.1, ?_⟩, fun g hg => ?_⟩
  · rcases h.2 with h0 | ⟨g, cap, cur, hv, _, r⟩
    · exact .inl h0
    · exact .inr ⟨g, cap, cur, hv, Nat.zero_le _, r⟩
  · rcases h.2 with ⟨rfl, _⟩ | ⟨g', cap, cur, rfl, hb, _⟩
    · simp [Value.ownBlock] at hg
    · have : g' = g := by simpa [Value.ownBlock] using hg
      omega
theorem DocIs.lt (h : DocIs w d ls) {g : Nat} (hg : d.ownBlock = some g) : g < w.heap.size := by
  rcases h.row.2 with ⟨rfl, _⟩ | ⟨g', cap, cur, rfl, _, hb, _⟩
  · simp [Value.ownBlock] at hg
  · have : g' = g := by simpa [Value.ownBlock] using hg
    subst this
    exact Blk.lt (t := 71) (cs := cur) hb
theorem DocIs.only (h : DocIs w d ls) (ho : Only S w w') (hg : ∀ g, d.ownBlock = some g → ¬ S g) : DocIs w' d ls := ⟨row_only h.row ho hg, h.vals, h.rise, h.few⟩
theorem DocIs.keep (h : DocIs w d ls) (ho : Only NoneOf w w') : DocIs w' d ls := h.only ho (fun _ _ h => h)
theorem form {T : TypeId} (hr : w.ownsRow 0 T 3 d ls.length (flat ls)) (hv : ∀ l ∈ ls, IsV l.val) : (d = .slice none 0 0 ∧ ls = []) ∨ ∃ g cap, d = .slice (some ⟨g, 0, none⟩) ls.length cap ∧ ls.length ≤ cap ∧ g < w.heap.size ∧
    ∀ (i : Nat) (l : Lk), ls[i]? = some l → ∃ x : ByteArray, l.val = .string x ∧ w.cell? ⟨g, i * 3, none⟩ = some (.int .i64 l.stamp) ∧ w.cell? ⟨g, i * 3 + 1, none⟩ = some (.string x) ∧ w.cell? ⟨g, i * 3 + 2, none⟩ = some (.bool l.dead) := by
  rcases hr.2 with ⟨rfl, h0⟩ | ⟨g, cap, cur, hd, _, hb, hle, _, hsz, hcur⟩
  · exact .inl ⟨rfl, List.eq_nil_of_length_eq_zero h0⟩
  · refine .inr ⟨g, cap, hd, hle, Blk.lt (t := T) (cs := cur) hb, fun i l hl => ?_⟩
    obtain ⟨x, hx⟩ := hv l (List.mem_of_getElem? hl)
    have hi : i < ls.length := (List.getElem?_eq_some_iff.1 hl).1
    have hc : ∀ j, j < 3 → w.cell? ⟨g, i * 3 + j, none⟩ = l.cells[j]? := by
      intro j hj
      rw [Blk.cell (t := T) (cs := cur) hb, ← flat_get ls i j l hl hj, ← hcur, List.getElem?_take_of_lt (by omega), Array.getElem?_toList]
    exact ⟨x, hx, hc 0 (by omega), by rw [hc 1 (by omega), ← hx]; rfl, hc 2 (by omega)⟩
end

set_option maxHeartbeats 400000 in
theorem at_is (w : World) (d : Value) (ls : List Lk) (s : Int) (h : DocIs w d ls) :
    Calls Try.prog 52 #[d, .int .i64 s] w fun e w' => e = .returned (.int .i64 ((cnt ls s : Int) - 1)) ∧ w = w' := by
  have hle := cnt_le ls s
  have hfew := h.few
  have HL := Lib.hid (fun i (hi : i < cnt ls s) l hl => cnt_lt (ls := ls) (s := s) (i := i) (l := l) hi hl)
  have HG := Lib.hid (fun i (hi : cnt ls s ≤ i) l hl => cnt_ge (ls := ls) h.rise.2 (s := s) (i := i) (l := l) hi hl)
  generalize cnt ls s = c at *
  rcases form h.row h.vals with ⟨rfl, rfl⟩ | ⟨g, cap, rfl, hcap, hg, hcs⟩
  · go_enter Try.func52, Try.ntmps52
    go_wp2
    go_loop [5, 6] (fun a i => a = .int .i64 (-1) ∧ i = .int .i64 0) (fun _ _ => 0)
    case atStart => exact ⟨rfl, rfl⟩
    case round =>
      obtain ⟨rfl, rfl⟩ := hrel
      obtain rfl : c = 0 := by simpa using hle
      go_wp2
      go_ret
      exact ⟨rfl, rfl⟩
  · have HC := Lib.hid hcs
    clear hcs h
    go_enter Try.func52, Try.ntmps52
    go_wp2
    go_loop [5, 6] (fun a i => ∃ k : Nat, k ≤ ls.length ∧ i = .int .i64 k ∧ a = .int .i64 (((min k c : Nat) : Int) - 1)) (fun _ i => ls.length - (intOf i).toNat)
    case atStart => exact ⟨0, Nat.zero_le _, rfl, by simp⟩
    case round =>
      obtain ⟨k, hk, rfl, rfl⟩ := hrel
      by_cases hlt : k < ls.length
      · have hl : ls[k]? = some (ls[k]'hlt) := List.getElem?_eq_getElem _
        obtain ⟨x, hx, e0, _, _⟩ := HC.out k _ hl
        by_cases hkc : k < c
        · have hs := HL.out k hkc _ hl
          generalize (ls[k]'hlt).stamp = st at *
          clear hl hx
          rw [show ((min k c : Nat) : Int) = k by omega]
          go_wp2
          go_round
          case rel => exact ⟨k + 1, by omega, by go_num, by congr 1; omega⟩
          case measure => simp [intOf]; omega
        · have hs := HG.out k (by omega) _ hl
          generalize (ls[k]'hlt).stamp = st at *
          clear hl hx
          rw [show ((min k c : Nat) : Int) = c by omega]
          go_wp2
          go_round
          case rel => exact ⟨k + 1, by omega, by go_num, by congr 1; omega⟩
          case measure => simp [intOf]; omega
      · obtain rfl : k = ls.length := by omega
        rw [show ((min ls.length c : Nat) : Int) = c by omega]
        go_wp2
        go_ret
        exact ⟨rfl, rfl⟩

end Rf
end Go.Proofs.Ytkfihfipnbbfcaa
