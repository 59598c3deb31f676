/-
  Layer 14: a store that is not there.
-/
import Derived.Test.YtnonnencdhogiaaS27
import Derived.Test.YtnonnencdhogiaaS28
namespace Go.Proofs.Ytnonnencdhogiaa
open Go.RowKit Go.Shelf
open Cb (TellPost zeroLk)
attribute [local go_sem] Oper.semAt_some

set_option maxRecDepth 100000 in
set_option maxHeartbeats 1000000 in
theorem get_nil (w : World) (key : ByteArray) (st : Int) : Calls Try.prog 23 #[.pointer none, .string key, .int .i64 st] w fun e w' => e = .returned (.tuple #[.slice none 0 0, .bool false]) ∧ Only NoneOf w w' := by
  have HOf := Lib.hid (of_nil w key)
  have HA := fun u => Lib.hid (Cb.at_nil u st)
  go_enter Try.func23, Try.ntmps23
  go_wp2_with fail
  refine HOf.out.mono ?_; rintro e w1 ⟨rfl, rfl⟩
  go_wp2_with fail
  refine (HA _).out.mono ?_; rintro e w1 ⟨rfl, ho1⟩
  have hB := Blk.new w1 92 zeroLk
  have HO := Lib.hid (((ho1.alloc (.cells zeroLk 92)).row (b := w1.heap.size) (.inr ho1.size) zeroLk))
  clear ho1
  go_wp2_with (first | (refine wpList_store_row rfl 92 (.tmp 8) (.tmp 16) rfl w1.heap.size zeroLk rfl rfl 92 zeroLk hB info92 rfl (one_lk _ _ _ _ _) ?_) | fail)
  go_ret2
  exact ⟨rfl, HO.out⟩

set_option maxRecDepth 100000 in
set_option maxHeartbeats 1000000 in
theorem newest_nil (w : World) (key : ByteArray) : Calls Try.prog 26 #[.pointer none, .string key] w fun e w' => e = .returned (.tuple #[.int .i64 0, .bool false]) ∧ Only NoneOf w w' := by
  have HOf := Lib.hid (of_nil w key)
  have HA := fun u => Lib.hid (Cb.last_nil u)
  go_enter Try.func26, Try.ntmps26
  go_wp2_with fail
  refine HOf.out.mono ?_; rintro e w1 ⟨rfl, rfl⟩
  go_wp2_with fail
  refine (HA _).out.mono ?_; rintro e w1 ⟨rfl, ho1⟩
  have HO := Lib.hid (ho1.alloc (.cells zeroLk 92))
  clear ho1
  go_wp2_with fail
  go_ret2
  exact ⟨rfl, HO.out⟩

theorem vacuum_nil (w : World) (hz : Int) : Calls Try.prog 20 #[.pointer none, .int .i64 hz] w fun e w' => e = .returned (.int .i64 0) ∧ w = w' := by
  go_enter Try.func20, Try.ntmps20
  go_wp2_with fail
  go_ret
  exact ⟨rfl, rfl⟩
theorem len_nil (w : World) : Calls Try.prog 19 #[.pointer none] w fun e w' => e = .returned (.tuple #[.int .i64 0, .int .i64 0]) ∧ w = w' := by
  go_enter Try.func19, Try.ntmps19
  go_wp2_with fail
  go_ret2
  exact ⟨rfl, rfl⟩

set_option maxRecDepth 100000 in
set_option maxHeartbeats 1000000 in
theorem versions_nil (w : World) : Calls Try.prog 25 #[.pointer none] w fun e w' => e = .returned (.slice none 0 0) ∧ Only NoneOf w w' := by
  have HK := fun u => Lib.hid (keys_nil u)
  have a0 := (Blk.new w 31 #[.slice none 0 0]).cellv 0 rfl
  go_enter Try.func25, Try.ntmps25
  go_wp2_with fail
  refine (HK _).out.mono ?_; rintro e w1 ⟨rfl, rfl⟩
  go_wp2_with fail
  go_loopw [12] (fun v wr => v = .int .i64 0 ∧ wr = w.alloc (.cells #[.slice none 0 0] 31)) (fun _ _ => 0)
  case atStart => exact ⟨rfl, rfl⟩
  case round =>
    obtain ⟨rfl, rfl⟩ := hrel
    go_wp2_with fail
    go_ret
    exact ⟨rfl, (Only.refl _ _).alloc _⟩

set_option maxRecDepth 100000 in
set_option maxHeartbeats 1000000 in
theorem scan_iter_nil (W : World) (b : Nat) (hb0 : W.cell? ⟨b, 0, none⟩ = some (.pointer none)) : IterM Try.prog 56 (scanFn b) PairEnc [] NoneOf W := by
  intro l J Jx hJ hJx h0 hY
  have HJ0 := Lib.hid (h0 W.heap.size W (Nat.le_refl _) (Nat.le_refl _) (Only.refl _ _))
  have HK := fun u => Lib.hid (keys_nil u)
  clear hY hJ hJx h0
  refine callsIn_of_wp Try.func56 rfl trivial ?_ rfl
  simp only [Try.ntmps56, scanFn, List.size_toArray, List.length_cons, List.length_nil, Nat.reduceAdd, Nat.reduceSub, Array.replicate_succ, Array.replicate_zero, List.push_toArray, List.append_toArray, List.nil_append, List.cons_append]
  gi_wp2_with fail
  refine ⟨trivial, (callsIn_wide.2 (HK _).out).mono ?_⟩
  rintro e w1 ⟨rfl, rfl⟩
  gi_wp2_with fail
  gi_loopw [6, 16] (fun v vi wr => v = .slice none 0 0 ∧ vi = .int .i64 0 ∧ wr = W) (fun _ _ _ => 0)
  case atStart => exact ⟨rfl, rfl, rfl⟩
  case round =>
    obtain ⟨rfl, rfl, rfl⟩ := hrel
    gi_wp2_with fail
    gi_loopw [49] (fun v w2 => v = .int .i64 0 ∧ w2 = wr) (fun _ _ => 0)
    case atStart => exact ⟨rfl, rfl⟩
    case round =>
      obtain ⟨rfl, rfl⟩ := hrel
      gi_wp2_with fail
      go_end0
      exact ⟨⟨_, rfl⟩, _, Nat.le_refl _, .inl HJ0.out⟩

theorem scanned_nil (w : World) (fr tt : ByteArray) (st : Int) : Calls Try.prog 22 #[.pointer none, .string fr, .string tt, .int .i64 st] w fun e w' => (∃ A c, e = .returned (.slice A 0 c)) ∧ Only NoneOf w w' := by
  refine (scanned_any w none fr tt st [] (by simp) (fun W b _ h0 _ _ _ => scan_iter_nil W b h0)).mono ?_
  rintro e w' ⟨v, rs, rfl, hr, hpl, ho⟩
  have hrs : rs = [] := by simpa using hpl
  subst hrs
  obtain ⟨A, c, rfl⟩ := ownsRow_slice hr.own
  exact ⟨⟨A, c, rfl⟩, ho⟩

theorem live_nil2 (w : World) : Calls Try.prog 34 #[.pointer none] w fun e w' => e = .returned (.int .i64 0) ∧ Only NoneOf w w' := (live_nil w).mono fun _ _ ⟨he, hw⟩ => ⟨he, hw ▸ Only.refl _ _⟩
theorem vacuum_nil2 (w : World) (hz : Int) : Calls Try.prog 20 #[.pointer none, .int .i64 hz] w fun e w' => e = .returned (.int .i64 0) ∧ Only NoneOf w w' := (vacuum_nil w hz).mono fun _ _ ⟨he, hw⟩ => ⟨he, hw ▸ Only.refl _ _⟩
theorem len_nil2 (w : World) : Calls Try.prog 19 #[.pointer none] w fun e w' => e = .returned (.tuple #[.int .i64 0, .int .i64 0]) ∧ Only NoneOf w w' := (len_nil w).mono fun _ _ ⟨he, hw⟩ => ⟨he, hw ▸ Only.refl _ _⟩
theorem apply_nil2 (w : World) (key : ByteArray) (st : Int) (A : Option Addr) (nn cc : Nat) (dead : Bool) :
    Calls Try.prog 21 #[.pointer none, .agg (verC key st (.slice A nn cc) dead)] w fun e w' => e = .returned (.int .i64 1) ∧ Only NoneOf w w' := apply_nil w key st _ dead

/-- what no store tells -/
def ansN (x : Stp) : An := if x.kind = 0 then { e := 1 } else {}
def CallNil (x : Stp) (w : World) (e : Ending) (w' : World) : Prop := ∃ cs, e = .returned (.agg cs) ∧ TAt w' cs (ansN x) ∧ Only NoneOf w w'

end Go.Proofs.Ytnonnencdhogiaa
