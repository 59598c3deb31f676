/-
  Layer 13's law: a step on both: a refused Add; Prune; Len; a step of no kind.
-/
import Derived.Test.YtkfihfipnbbfcaaCR7
namespace Go.Proofs.Ytkfihfipnbbfcaa
open Go.RowKit
namespace Rf
open Cs (IsV only_grown walked ChIs Foot AddPost NoPost PrunePost pruned)

theorem len_still (w : World) (k p : Nat) (v : Value) (ls : List Lk) (h : ChIs w p v ls) : Calls Try.prog 39 #[.pointer (some ⟨p, 0, none⟩)] (w.drewN k) fun e w' => e = .returned (.int .i64 ls.length) ∧ w' = w.drewN k :=
  (Cs.len_has (w.drewN k) p v ls _ (h.drewN k) rfl).mono fun _ _ h => ⟨h.1, h.2.symm⟩

theorem pair_same {w w' : World} {q p : Nat} {v d : Value} {ls : List Lk} (h : PairIs w q p v d ls) (ho : Only NoneOf w w') : StepPost q p v d ls w (.returned (.bool true)) w' :=
  ⟨v, d, rfl, h.keep ho, ho.mono (fun _ _ h => h.elim), fun _ hk => .inl hk⟩

set_option maxRecDepth 100000 in
set_option maxHeartbeats 1000000 in
theorem step_no (w : World) (q p : Nat) (v d : Value) (ls : List Lk) (n : Int) (x : ByteArray) (dead : Bool) (h : PairIs w q p v d ls)
    (HA : Hid (∀ u, PairIs u q p v d ls → Calls Try.prog 36 #[.pointer (some ⟨p, 0, none⟩), .agg #[.int .i64 n, .string x, .bool dead]] u (NoPost 130 u)))
    (HR : Hid (∀ u, PairIs u q p v d ls → Calls Try.prog 50 #[d, .agg #[.int .i64 n, .string x, .bool dead]] u (SamePost d 130 u))) :
    Calls Try.prog 33 #[.pointer (some ⟨q, 0, none⟩), .agg #[.int .i64 1, .int .i64 n, .string x, .bool dead]] w (StepPost q p v d ls w) := by
  have HH := Lib.hid h
  have hA := h.keep ((Only.refl NoneOf w).alloc (.cells #[.int .i64 1, .int .i64 n, .string x, .bool dead] 61))
  have hB := Blk.new w 61 #[.int .i64 1, .int .i64 n, .string x, .bool dead]
  have hO := Lib.hid ((Only.refl NoneOf w).alloc (.cells #[.int .i64 1, .int .i64 n, .string x, .bool dead] 61))
  have hql := h.blk.lt
  obtain ⟨bb, nn, cc, rfl⟩ := slice_of h.doc
  clear h
  go_enter Try.func33, Try.ntmps33
  go_wp2_with fail
  generalize w.alloc (.cells #[.int .i64 1, .int .i64 n, .string x, .bool dead] 61) = W at *
  have b1 := hB.cellv 1 rfl
  have b2 := hB.cellv 2 rfl
  have b3 := hB.cellv 3 rfl
  have q0 := hA.blk.cellv 0 rfl
  have q1 := hA.blk.cellv 1 rfl
  go_still_tail 11, (by kernel_rfl)
  change wpList _ _ _ _ _ W.drew
  have hO1 := Lib.hid hO.out.drew
  have hA1 := hA.keep (Only.drew (Only.refl NoneOf W))
  have hB1 := hB.drew
  generalize W.drew = W1 at *
  clear hA b1 b2 b3 q0 q1
  go_wp2_with fail
  refine (HA.out W1 hA1).mono ?_; rintro e w3 ⟨rfl, ho3⟩
  have HO3 := Lib.hid ho3
  have hB3 := hB1.only ho3 (fun h => h)
  have hP3 := hA1.keep ho3
  have b1 := hB3.cellv 1 rfl
  have b2 := hB3.cellv 2 rfl
  have b3 := hB3.cellv 3 rfl
  have q0 := hP3.blk.cellv 0 rfl
  have q1 := hP3.blk.cellv 1 rfl
  clear ho3
  go_wp2_with fail
  go_region_held3 (fun w' => w'.cell? ⟨q, 0, none⟩ = some (.pointer (some ⟨p, 0, none⟩)) ∧ w'.cell? ⟨q, 1, none⟩ = some (.slice bb nn cc) ∧ w'.cell? ⟨w.heap.size, 1, none⟩ = some (.int .i64 n) ∧ w'.cell? ⟨w.heap.size, 2, none⟩ = some (.string x) ∧ w'.cell? ⟨w.heap.size, 3, none⟩ = some (.bool dead))
    (first | exact ⟨q0, q1, b1, b2, b3⟩ | exact ⟨q0', q1', b1', b2', b3'⟩)
    (first | (go_at_call 50; refine (HR.out w3.drew (hP3.keep (Only.refl NoneOf w3).drew)).mono ?_; rintro e w5 ⟨rfl, ho5⟩; have hP5 := (hP3.keep (Only.refl NoneOf w3).drew).keep ho5; have hB5 := hB3.drew.only ho5 (fun h => h); have q0' := hP5.blk.cellv 0 rfl; have q1' := hP5.blk.cellv 1 rfl; have b1' := hB5.cellv 1 rfl; have b2' := hB5.cellv 2 rfl; have b3' := hB5.cellv 3 rfl; have qf := hP5.blk.free 1; have HO5 := Lib.hid ho5; clear ho5))
  clear b1 b2 b3 b1' b2' b3' q0 q1
  go_wp2_with fail
  go_ret
  exact pair_end HH.out hO1.out hP3.ch (HO3.out.mono (fun _ _ h => h.elim)) (fun _ hk => .inl hk) (Only.refl NoneOf w3).drew hP5.doc HO5.out (fun g hg => .inl hg)

set_option maxRecDepth 100000 in
set_option maxHeartbeats 1000000 in
theorem step_len (w : World) (q p : Nat) (v d : Value) (ls : List Lk) (n : Int) (x : ByteArray) (dead : Bool) (h : PairIs w q p v d ls) :
    Calls Try.prog 33 #[.pointer (some ⟨q, 0, none⟩), .agg #[.int .i64 5, .int .i64 n, .string x, .bool dead]] w (StepPost q p v d ls w) := by
  have HH := Lib.hid h
  have hA := h.keep ((Only.refl NoneOf w).alloc (.cells #[.int .i64 5, .int .i64 n, .string x, .bool dead] 61))
  have hB := Blk.new w 61 #[.int .i64 5, .int .i64 n, .string x, .bool dead]
  have hO := Lib.hid ((Only.refl NoneOf w).alloc (.cells #[.int .i64 5, .int .i64 n, .string x, .bool dead] 61))
  have hql := h.blk.lt
  have hfew := h.doc.few
  have hd : d = .slice none 0 0 ∧ ls = [] ∨ ∃ g cap, d = .slice g ls.length cap := by
    rcases form h.doc.row h.doc.vals with h | ⟨g, cap, h, _⟩
    · exact .inl h
    · exact .inr ⟨_, _, h⟩
  clear h
  rcases hd with ⟨rfl, rfl⟩ | ⟨gg, cap, rfl⟩
  all_goals
    go_enter Try.func33, Try.ntmps33
    go_wp2_with fail
    generalize w.alloc (.cells #[.int .i64 5, .int .i64 n, .string x, .bool dead] 61) = W at *
    have q0 := hA.blk.cellv 0 rfl
    have q1 := hA.blk.cellv 1 rfl
    have L := fun k => Lib.hid (len_still W k p v _ hA.ch)
    have hO' := Lib.hid hO.out
    clear hO hA hB
    go_quiet ((go_at_call 39; exact Calls.quiet_of_same (L _).out))
    go_wp2_with fail
    go_ret
    exact pair_same HH.out (hO'.out.drewN _)

set_option maxRecDepth 100000 in
set_option maxHeartbeats 1000000 in
theorem step_prune (w : World) (q p : Nat) (v d : Value) (ls : List Lk) (n : Int) (x : ByteArray) (dead : Bool) (h : PairIs w q p v d ls) (c : Int)
    (HA : Hid (∀ u, PairIs u q p v d ls → Calls Try.prog 38 #[.pointer (some ⟨p, 0, none⟩), .int .i64 n] u (fun e w' => ∃ v', e = .returned (.int .i64 c) ∧ ChIs w' p v' (pruned ls n) ∧ Only (Foot p v) u w' ∧ ∀ k, Foot p v' k → Foot p v k ∨ u.heap.size ≤ k)))
    (HR : Hid (∀ u, DocIs u d ls → Calls Try.prog 53 #[d, .int .i64 n] u (fun e w' => ∃ d', e = .returned (.tuple #[d', .int .i64 c]) ∧ DocIs w' d' (pruned ls n) ∧ Only NoneOf u w' ∧ ∀ g, d'.ownBlock = some g → d.ownBlock = some g ∨ u.heap.size ≤ g))) :
    Calls Try.prog 33 #[.pointer (some ⟨q, 0, none⟩), .agg #[.int .i64 4, .int .i64 n, .string x, .bool dead]] w (StepPost q p v d (pruned ls n) w) := by
  have HH := Lib.hid h
  have hA := h.keep ((Only.refl NoneOf w).alloc (.cells #[.int .i64 4, .int .i64 n, .string x, .bool dead] 61))
  have hB := Blk.new w 61 #[.int .i64 4, .int .i64 n, .string x, .bool dead]
  have hO := Lib.hid ((Only.refl NoneOf w).alloc (.cells #[.int .i64 4, .int .i64 n, .string x, .bool dead] 61))
  have hql := h.blk.lt
  clear h
  go_enter Try.func33, Try.ntmps33
  go_wp2_with fail
  generalize w.alloc (.cells #[.int .i64 4, .int .i64 n, .string x, .bool dead] 61) = W at *
  have b1 := hB.cellv 1 rfl
  have q0 := hA.blk.cellv 0 rfl
  have q1 := hA.blk.cellv 1 rfl
  go_still_tail 6, (by kernel_rfl)
  change wpList _ _ _ _ _ W.drew
  have hO1 := Lib.hid hO.out.drew
  have hA1 := hA.keep (Only.drew (Only.refl NoneOf W))
  have hB1 := hB.drew
  generalize W.drew = W1 at *
  clear hA b1 q0 q1
  go_wp2_with fail
  refine (HA.out W1 hA1).mono ?_; rintro e w3 ⟨v', rfl, hch, ho3, hft⟩
  have HCH := Lib.hid hch
  have HO3 := Lib.hid ho3
  have HFT := Lib.hid hft
  have hB3 := hB1.only ho3 (fun hk => by
    rcases hk with hk | hk
    · have := HH.out.ch.lt; omega
    · have := (World.ownsRow.lt HH.out.ch.row _ hk).2; omega)
  have hQ3 := hA1.blk.only ho3 HH.out.qf
  have hD3 := hA1.doc.only ho3 (fun g hg => (HH.out.df g hg).1)
  have b1 := hB3.cellv 1 rfl
  have q0 := hQ3.cellv 0 rfl
  have q1 := hQ3.cellv 1 rfl
  clear hch ho3 hft
  go_wp2_with fail
  go_region_held3 (fun w' => w'.cell? ⟨q, 0, none⟩ = some (.pointer (some ⟨p, 0, none⟩)) ∧ w'.cell? ⟨q, 1, none⟩ = some d ∧ w'.cell? ⟨w.heap.size, 1, none⟩ = some (.int .i64 n))
    (first | exact ⟨q0, q1, b1⟩ | exact ⟨q0', q1', b1'⟩)
    (first | (go_at_call 53; refine (HR.out w3.drew (hD3.keep (Only.refl NoneOf w3).drew)).mono ?_; rintro e w5 ⟨d', rfl, hdoc, ho5, hnew⟩; have hQ5 := hQ3.drew.only ho5 (fun h => h); have hB5 := hB3.drew.only ho5 (fun h => h); have q0' := hQ5.cellv 0 rfl; have q1' := hQ5.cellv 1 rfl; have b1' := hB5.cellv 1 rfl; have qf := hQ5.free 1; obtain ⟨bb, nn, cc, rfl⟩ := slice_of hdoc; have HD := Lib.hid hdoc; have HO5 := Lib.hid ho5; have HN := Lib.hid hnew; clear hdoc ho5 hnew))
  clear b1 b1' q0 q1
  go_wp2_with fail
  go_ret
  exact pair_end HH.out hO1.out HCH.out HO3.out HFT.out (Only.refl NoneOf w3).drew HD.out HO5.out HN.out

end Rf
end Go.Proofs.Ytkfihfipnbbfcaa
