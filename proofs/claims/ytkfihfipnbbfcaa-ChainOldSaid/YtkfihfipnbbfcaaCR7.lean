/-
  Layer 13's law: a step on both: Add.
-/
import Derived.Test.YtkfihfipnbbfcaaCR6
import Derived.Deep.RegionHeld3
namespace Go.Proofs.Ytkfihfipnbbfcaa
open Go.RowKit
namespace Rf
open Cs (IsV only_grown walked ChIs Foot AddPost NoPost PrunePost)

/-- How a step ends: both told alike; both are of the links ls'. -/
def StepPost (q p : Nat) (v d : Value) (ls' : List Lk) (w : World) (e : Ending) (w' : World) : Prop :=
  ∃ v' d', e = .returned (.bool true) ∧ PairIs w' q p v' d' ls' ∧ Only (PFoot q p v d) w w' ∧ ∀ k, PFoot q p v' d' k → PFoot q p v d k ∨ w.heap.size ≤ k

theorem slice_of {w : World} {d : Value} {ls : List Lk} (h : DocIs w d ls) : ∃ b n c, d = .slice b n c := by
  rcases h.row.2 with ⟨rfl, _⟩ | ⟨g, cap, _, rfl, _⟩
  · exact ⟨_, _, _, rfl⟩
  · exact ⟨_, _, _, rfl⟩

theorem pair_end {w W w3 w4 w5 : World} {q p : Nat} {v v' d d' : Value} {ls ls' : List Lk} (h : PairIs w q p v d ls) (hW : Only NoneOf w W) (hch : ChIs w3 p v' ls') (h3 : Only (Foot p v) W w3)
    (hft : ∀ k, Foot p v' k → Foot p v k ∨ W.heap.size ≤ k) (h4 : Only NoneOf w3 w4) (hdoc : DocIs w5 d' ls') (h5 : Only NoneOf w4 w5) (hnew : ∀ g, d'.ownBlock = some g → d.ownBlock = some g ∨ w4.heap.size ≤ g) :
    StepPost q p v d ls' w (.returned (.bool true)) (w5.setCell ⟨q, 1, none⟩ d') := by
  have hqs := h.blk.lt
  have s1 := hW.size
  have s3 := h3.size
  have s4 := h4.size
  have s5 := h5.size
  have h35 : Only NoneOf w3 w5 := h4.trans h5
  have hqf : ¬ Foot p v' q := fun hk => by
    rcases hft q hk with hk | hk
    · exact h.qf hk
    · omega
  have hltf : ∀ k, Foot p v' k → k < w3.heap.size := fun k hk => by
    rcases hk with rfl | hk
    · exact hch.blk.lt
    · exact (World.ownsRow.lt hch.row k hk).2
  have hblk : Blk w5 q 58 #[.pointer (some ⟨p, 0, none⟩), d] := (h.blk.only hW (fun h => h)).only h3 h.qf |>.only h35 (fun h => h)
  have hdq : ∀ g, d'.ownBlock = some g → ¬ Foot p v' g ∧ g ≠ q := fun g hg => by
    rcases hnew g hg with hd | hd
    · refine ⟨fun hk => ?_, (h.df g hd).2⟩
      have hlt := h.doc.lt hd
      rcases hft g hk with hk | hk
      · exact (h.df g hd).1 hk
      · omega
    · exact ⟨fun hk => by have := hltf g hk; omega, by omega⟩
  have hput : Only (· = q) w5 (w5.setCell ⟨q, 1, none⟩ d') := (Only.refl (· = q) w5).put (.inl rfl) _
  refine ⟨v', d', rfl, ⟨hblk.put 1 d', (hch.keep h35).only hput (fun k hk e => hqf (e ▸ hk)), hdoc.only hput (fun g hg e => (hdq g hg).2 e), hqf, hdq⟩, ?_, ?_⟩
  · refine Only.put (S := PFoot q p v d) ?_ (.inl (.inl rfl)) _
    exact ((hW.mono (S' := PFoot q p v d) (fun _ _ h => h.elim)).step h3 (fun k _ hk => .inr (.inl hk))).step h35 (fun _ _ h => h.elim)
  · rintro k (rfl | hk | hk)
    · exact .inl (.inl rfl)
    · rcases hft k hk with hk | hk
      · exact .inl (.inr (.inl hk))
      · exact .inr (by omega)
    · rcases hnew k hk with hk | hk
      · exact .inl (.inr (.inr hk))
      · exact .inr (by omega)

set_option maxRecDepth 100000 in
set_option maxHeartbeats 1000000 in
theorem step_add (w : World) (q p : Nat) (v d : Value) (ls : List Lk) (n : Int) (x : ByteArray) (dead : Bool) (h : PairIs w q p v d ls) (h0 : 0 ≤ n) (hst : ∀ a ∈ ls, a.stamp < n) (hfew : ls.length < 3518437208800) :
    Calls Try.prog 33 #[.pointer (some ⟨q, 0, none⟩), .agg #[.int .i64 1, .int .i64 n, .string x, .bool dead]] w (StepPost q p v d (ls ++ [⟨n, .string x, dead⟩]) w) := by
  have HST := Lib.hid hst
  have HH := Lib.hid h
  have hA := h.keep ((Only.refl NoneOf w).alloc (.cells #[.int .i64 1, .int .i64 n, .string x, .bool dead] 61))
  have hB := Blk.new w 61 #[.int .i64 1, .int .i64 n, .string x, .bool dead]
  have hO := Lib.hid ((Only.refl NoneOf w).alloc (.cells #[.int .i64 1, .int .i64 n, .string x, .bool dead] 61))
  have hql := h.blk.lt
  clear h hst
  go_enter Try.func33, Try.ntmps33
  go_wp2_with fail
  generalize w.alloc (.cells #[.int .i64 1, .int .i64 n, .string x, .bool dead] 61) = W at *
  have b1 := hB.cellv 1 rfl
  have b2 := hB.cellv 2 rfl
  have b3 := hB.cellv 3 rfl
  have q0 := hA.blk.cellv 0 rfl
  have q1 := hA.blk.cellv 1 rfl
  go_still_tail 11, (by kernel_rfl)
  change wpList _ _ _ _ _ W.drew
  have hO1 := Lib.hid hO.out.drew
  have hA1 := hA.keep (Only.drew (Only.refl NoneOf W))
  have hB1 := hB.drew
  generalize W.drew = W1 at *
  clear hA b1 b2 b3 q0 q1
  go_wp2_with fail
  refine (Cs.add_ok W1 p v ls n x dead hA1.ch h0 HST.out hfew).mono ?_; rintro e w3 ⟨v', rfl, hch, ho3, hft⟩
  have HCH := Lib.hid hch
  have HO3 := Lib.hid ho3
  have HFT := Lib.hid hft
  have hB3 := hB1.only ho3 (fun hk => by
    rcases hk with hk | hk
    · have := HH.out.ch.lt; omega
    · have := (World.ownsRow.lt HH.out.ch.row _ hk).2; omega)
  have hQ3 := hA1.blk.only ho3 HH.out.qf
  have hD3 := hA1.doc.only ho3 (fun g hg => (HH.out.df g hg).1)
  have b1 := hB3.cellv 1 rfl
  have b2 := hB3.cellv 2 rfl
  have b3 := hB3.cellv 3 rfl
  have q0 := hQ3.cellv 0 rfl
  have q1 := hQ3.cellv 1 rfl
  clear hch ho3 hft
  go_wp2_with fail
  go_region_held3 (fun w' => w'.cell? ⟨q, 0, none⟩ = some (.pointer (some ⟨p, 0, none⟩)) ∧ w'.cell? ⟨q, 1, none⟩ = some d ∧ w'.cell? ⟨w.heap.size, 1, none⟩ = some (.int .i64 n) ∧ w'.cell? ⟨w.heap.size, 2, none⟩ = some (.string x) ∧ w'.cell? ⟨w.heap.size, 3, none⟩ = some (.bool dead))
    (first | exact ⟨q0, q1, b1, b2, b3⟩ | exact ⟨q0', q1', b1', b2', b3'⟩)
    (first | (go_at_call 50; refine (add_take w3.drew d ls n x dead (hD3.keep (Only.refl NoneOf w3).drew) h0 HST.out hfew).mono ?_; rintro e w5 ⟨d', rfl, hdoc, ho5, hnew⟩; have hQ5 := hQ3.drew.only ho5 (fun h => h); have hB5 := hB3.drew.only ho5 (fun h => h); have q0' := hQ5.cellv 0 rfl; have q1' := hQ5.cellv 1 rfl; have b1' := hB5.cellv 1 rfl; have b2' := hB5.cellv 2 rfl; have b3' := hB5.cellv 3 rfl; have qf := hQ5.free 1; obtain ⟨bb, nn, cc, rfl⟩ := slice_of hdoc; have HD := Lib.hid hdoc; have HO5 := Lib.hid ho5; have HN := Lib.hid hnew; clear hdoc ho5 hnew))
  clear b1 b2 b3 b1' b2' b3' q0 q1
  go_wp2_with fail
  go_ret
  exact pair_end HH.out hO1.out HCH.out HO3.out HFT.out (Only.refl NoneOf w3).drew HD.out HO5.out (fun g hg => .inr (HN.out g hg))

end Rf
end Go.Proofs.Ytkfihfipnbbfcaa
