/-
  Layer 15: the program's calls and the document's, side by side, of an account or of none.
-/
import Derived.Test.YtkfihfipnbbfcaaQS1
namespace Go.Proofs.Ytkfihfipnbbfcaa
open Go.RowKit

set_option maxHeartbeats 400000 in
theorem rnew_bad1 (q o : Int) (h : q < 0) (w : World) : Calls Try.prog 21 #[.int .i64 q, .int .i64 o] w (RefPost false Ac.zero 2 w) := by
  go_enter Try.func21, Try.ntmps21
  go_wp2_with fail
  exact bodyPost_ret (v := .tuple #[.agg (docAc false Ac.zero), .int .i64 2]) (by simp [results, Try.results21, go_sem, Ac.zero]) rfl
    ⟨rfl, by repeat (first | exact Only.refl _ _ | refine Only.drew ?_ | refine Only.drewN ?_ _ | refine Only.alloc ?_ _ | refine Only.put ?_ (.inr (by simp)) _)⟩

set_option maxHeartbeats 400000 in
theorem rnew_bad2 (q o : Int) (h0 : 0 ≤ q) (h : 1048576 < q) (w : World) : Calls Try.prog 21 #[.int .i64 q, .int .i64 o] w (RefPost false Ac.zero 2 w) := by
  go_enter Try.func21, Try.ntmps21
  go_wp2_with fail
  exact bodyPost_ret (v := .tuple #[.agg (docAc false Ac.zero), .int .i64 2]) (by simp [results, Try.results21, go_sem, Ac.zero]) rfl
    ⟨rfl, by repeat (first | exact Only.refl _ _ | refine Only.drew ?_ | refine Only.drewN ?_ _ | refine Only.alloc ?_ _ | refine Only.put ?_ (.inr (by simp)) _)⟩

set_option maxHeartbeats 400000 in
theorem rnew_bad3 (q o : Int) (h0 : 0 ≤ q) (h1 : q ≤ 1048576) (h : o < 0) (w : World) : Calls Try.prog 21 #[.int .i64 q, .int .i64 o] w (RefPost false Ac.zero 2 w) := by
  go_enter Try.func21, Try.ntmps21
  go_wp2_with fail
  exact bodyPost_ret (v := .tuple #[.agg (docAc false Ac.zero), .int .i64 2]) (by simp [results, Try.results21, go_sem, Ac.zero]) rfl
    ⟨rfl, by repeat (first | exact Only.refl _ _ | refine Only.drew ?_ | refine Only.drewN ?_ _ | refine Only.alloc ?_ _ | refine Only.put ?_ (.inr (by simp)) _)⟩

set_option maxHeartbeats 400000 in
theorem rnew_bad4 (q o : Int) (h0 : 0 ≤ q) (h1 : q ≤ 1048576) (h2 : 0 ≤ o) (h : 32 < o) (w : World) : Calls Try.prog 21 #[.int .i64 q, .int .i64 o] w (RefPost false Ac.zero 2 w) := by
  go_enter Try.func21, Try.ntmps21
  go_wp2_with fail
  exact bodyPost_ret (v := .tuple #[.agg (docAc false Ac.zero), .int .i64 2]) (by simp [results, Try.results21, go_sem, Ac.zero]) rfl
    ⟨rfl, by repeat (first | exact Only.refl _ _ | refine Only.drew ?_ | refine Only.drewN ?_ _ | refine Only.alloc ?_ _ | refine Only.put ?_ (.inr (by simp)) _)⟩

set_option maxHeartbeats 400000 in
theorem rnew_ok (q o : Int) (h0 : 0 ≤ q) (h1 : q ≤ 1048576) (h2 : 0 ≤ o) (h3 : o ≤ 32) (w : World) : Calls Try.prog 21 #[.int .i64 q, .int .i64 o] w (RefPost true ⟨q, o, 0, 0, 0⟩ 0 w) := by
  go_enter Try.func21, Try.ntmps21
  go_wp2_with fail
  exact bodyPost_ret (v := .tuple #[.agg (docAc true ⟨q, o, 0, 0, 0⟩), .int .i64 0]) (by simp [results, Try.results21, go_sem]) rfl
    ⟨rfl, by repeat (first | exact Only.refl _ _ | refine Only.drew ?_ | refine Only.drewN ?_ _ | refine Only.alloc ?_ _ | refine Only.put ?_ (.inr (by simp)) _)⟩

theorem rnew_bad (q o : Int) (w : World) (h : ¬ Limits q o) : Calls Try.prog 21 #[.int .i64 q, .int .i64 o] w (RefPost false Ac.zero 2 w) := by
  by_cases h0 : q < 0
  · exact rnew_bad1 q o h0 w
  by_cases h1 : 1048576 < q
  · exact rnew_bad2 q o (by omega) h1 w
  by_cases h2 : o < 0
  · exact rnew_bad3 q o (by omega) (by omega) h2 w
  by_cases h3 : 32 < o
  · exact rnew_bad4 q o (by omega) (by omega) (by omega) h3 w
  exact absurd ⟨by omega, by omega, by omega, by omega⟩ h

/-- An account at its block, or none. -/
abbrev Pl := Option (Nat × Ac)
def Pl.there : Pl → Bool | none => false | some _ => true
def Pl.ac : Pl → Ac | none => Ac.zero | some (_, s) => s
def Pl.at : Pl → Option Addr | none => none | some (b, _) => some ⟨b, 0, none⟩
def Pl.block : Pl → Option Nat | none => none | some (b, _) => some b
structure PlIs (w : World) (x : Pl) : Prop where
  cells : ∀ b s, x = some (b, s) → AcIs w b s
  ok : ∀ b s, x = some (b, s) → s.Ok

theorem PlIs.only {S : Nat → Prop} {w w' : World} {x : Pl} (h : PlIs w x) (ho : Only S w w') (hs : ∀ k, x.block = some k → ¬ S k) : PlIs w' x :=
  ⟨fun b s e => (h.cells b s e).only ho (hs b (by rw [e]; rfl)), h.ok⟩
theorem PlIs.lt {w : World} {x : Pl} (h : PlIs w x) (k : Nat) (hk : x.block = some k) : k < w.heap.size := by
  match x, hk with
  | some (b, s), hk =>
    injection hk with hk
    subst hk
    exact (h.cells b s rfl).lt

def Pl.on (f : Ac → Ac × Int) : Pl → Pl × Int | none => (none, 1) | some (b, s) => (some (b, (f s).1), (f s).2)
theorem Pl.on_block (f : Ac → Ac × Int) (x : Pl) : (x.on f).1.block = x.block := by cases x <;> rfl

/-- How a call of the program ends. -/
def DidPost (x : Pl) (r : Pl × Int) (w : World) (e : Ending) (w' : World) : Prop := e = .returned (.int .i64 r.2) ∧ PlIs w' r.1 ∧ Only (fun k => x.block = some k) w w'

set_option maxHeartbeats 400000 in
theorem nil22 (w : World) : Calls Try.prog 22 #[.pointer none] w fun e w' => e = .returned (.int .i64 1) ∧ Only NoneOf w w' := by
  go_enter Try.func22, Try.ntmps22
  go_wp2_with fail
  go_ret
  exact ⟨rfl, by repeat (first | exact Only.refl _ _ | refine Only.drew ?_ | refine Only.drewN ?_ _ | refine Only.alloc ?_ _)⟩

set_option maxHeartbeats 400000 in
theorem nil19 (a b : Int) (w : World) : Calls Try.prog 19 #[.pointer none, .int .i64 a, .int .i64 b] w fun e w' => e = .returned (.int .i64 1) ∧ Only NoneOf w w' := by
  go_enter Try.func19, Try.ntmps19
  go_wp2_with fail
  go_ret
  exact ⟨rfl, by repeat (first | exact Only.refl _ _ | refine Only.drew ?_ | refine Only.drewN ?_ _ | refine Only.alloc ?_ _)⟩

set_option maxHeartbeats 400000 in
theorem nil25 (a : Int) (w : World) : Calls Try.prog 25 #[.pointer none, .int .i64 a] w fun e w' => e = .returned (.int .i64 1) ∧ Only NoneOf w w' := by
  go_enter Try.func25, Try.ntmps25
  go_wp2_with fail
  go_ret
  exact ⟨rfl, by repeat (first | exact Only.refl _ _ | refine Only.drew ?_ | refine Only.drewN ?_ _ | refine Only.alloc ?_ _)⟩

set_option maxHeartbeats 400000 in
theorem nil17 (a : Int) (w : World) : Calls Try.prog 17 #[.pointer none, .int .i64 a] w fun e w' => e = .returned (.int .i64 1) ∧ Only NoneOf w w' := by
  go_enter Try.func17, Try.ntmps17
  go_wp2_with fail
  go_ret
  exact ⟨rfl, by repeat (first | exact Only.refl _ _ | refine Only.drew ?_ | refine Only.drewN ?_ _ | refine Only.alloc ?_ _)⟩

set_option maxHeartbeats 400000 in
theorem nil18 (w : World) : Calls Try.prog 18 #[.pointer none] w fun e w' => e = .returned (.int .i64 0) ∧ Only NoneOf w w' := by
  go_enter Try.func18, Try.ntmps18
  go_wp2_with fail
  go_ret
  exact ⟨rfl, by repeat (first | exact Only.refl _ _ | refine Only.drew ?_ | refine Only.drewN ?_ _ | refine Only.alloc ?_ _)⟩

set_option maxHeartbeats 400000 in
theorem nil20 (w : World) : Calls Try.prog 20 #[.pointer none] w fun e w' => e = .returned (.int .i64 0) ∧ Only NoneOf w w' := by
  go_enter Try.func20, Try.ntmps20
  go_wp2_with fail
  go_ret
  exact ⟨rfl, by repeat (first | exact Only.refl _ _ | refine Only.drew ?_ | refine Only.drewN ?_ _ | refine Only.alloc ?_ _)⟩

set_option maxHeartbeats 400000 in
theorem nil29 (w : World) : Calls Try.prog 29 #[.pointer none] w fun e w' => e = .returned (.int .i64 0) ∧ Only NoneOf w w' := by
  go_enter Try.func29, Try.ntmps29
  go_wp2_with fail
  go_ret
  exact ⟨rfl, by repeat (first | exact Only.refl _ _ | refine Only.drew ?_ | refine Only.drewN ?_ _ | refine Only.alloc ?_ _)⟩

theorem none_is (w : World) : PlIs w none := ⟨(fun b s e => by cases e), (fun b s e => by cases e)⟩
theorem some_is {w : World} {b : Nat} {s : Ac} (h : AcIs w b s) (ok : s.Ok) : PlIs w (some (b, s)) := ⟨(fun b' s' e => by cases e; exact h), (fun b' s' e => by cases e; exact ok)⟩

theorem did_none {w w' : World} {e : Ending} {f : Ac → Ac × Int} (h : e = .returned (.int .i64 1) ∧ Only NoneOf w w') : DidPost none (Pl.on f none) w e w' := ⟨h.1, none_is w', h.2.mono (fun _ _ h => h.elim)⟩
theorem did_some {w w' : World} {e : Ending} {f : Ac → Ac × Int} {b : Nat} {s : Ac} (h : AcPost b (f s).2 (f s).1 w e w') (ok : (f s).1.Ok) : DidPost (some (b, s)) (Pl.on f (some (b, s))) w e w' :=
  ⟨h.1, some_is h.2.1 ok, h.2.2.mono (fun k _ hk => by rw [hk]; rfl)⟩

theorem did_begin (x : Pl) (w : World) (h : PlIs w x) : Calls Try.prog 22 #[.pointer x.at] w (DidPost x (x.on Ac.doBegin) w) := by
  match x, h with
  | none, _ => exact (nil22 w).mono fun _ _ h => did_none h
  | some (b, s), h => exact (begin_is b s w (h.cells b s rfl) (h.ok b s rfl)).mono fun _ _ hp => did_some hp (h.ok b s rfl).doBegin.ok
theorem did_charge (x : Pl) (old now : Int) (w : World) (h : PlIs w x) : Calls Try.prog 19 #[.pointer x.at, .int .i64 old, .int .i64 now] w (DidPost x (x.on fun s => s.doCharge old now) w) := by
  match x, h with
  | none, _ => exact (nil19 old now w).mono fun _ _ h => did_none h
  | some (b, s), h => exact (charge_is b s old now w (h.cells b s rfl) (h.ok b s rfl)).mono fun _ _ hp => did_some (f := fun s => s.doCharge old now) hp ((h.ok b s rfl).doCharge old now).ok
theorem did_end (x : Pl) (n : Int) (w : World) (h : PlIs w x) : Calls Try.prog 25 #[.pointer x.at, .int .i64 n] w (DidPost x (x.on fun s => s.doEnd n) w) := by
  match x, h with
  | none, _ => exact (nil25 n w).mono fun _ _ h => did_none h
  | some (b, s), h => exact (end_is b s n w (h.cells b s rfl) (h.ok b s rfl)).mono fun _ _ hp => did_some (f := fun s => s.doEnd n) hp ((h.ok b s rfl).doEnd n).ok
theorem did_settle (x : Pl) (n : Int) (w : World) (h : PlIs w x) : Calls Try.prog 17 #[.pointer x.at, .int .i64 n] w (DidPost x (x.on fun s => s.doSettle n) w) := by
  match x, h with
  | none, _ => exact (nil17 n w).mono fun _ _ h => did_none h
  | some (b, s), h => exact (settle_is b s n w (h.cells b s rfl) (h.ok b s rfl)).mono fun _ _ hp => did_some (f := fun s => s.doSettle n) hp ((h.ok b s rfl).doSettle n).ok

/-- The same of the document. -/
def ToldPost (r : Pl × Int) (w : World) (e : Ending) (w' : World) : Prop := RefPost r.1.there r.1.ac r.2 w e w'

theorem told_begin (x : Pl) (w : World) (h : ∀ b s, x = some (b, s) → s.Ok) : Calls Try.prog 23 #[.agg (docAc x.there x.ac)] w (ToldPost (x.on Ac.doBegin) w) := by
  match x, h with
  | none, _ => exact rbegin_no Ac.zero w
  | some (b, s), h =>
    have ok := h b s rfl
    show Calls Try.prog 23 #[.agg (docAc true s)] w (RefPost true s.doBegin.1 s.doBegin.2 w)
    unfold Ac.doBegin
    split
    · exact rbegin_full s (by have := ok.n1; omega) w
    · exact rbegin_ok s ok (by omega) w
theorem told_charge (x : Pl) (old now : Int) (w : World) (h : ∀ b s, x = some (b, s) → s.Ok) : Calls Try.prog 24 #[.agg (docAc x.there x.ac), .int .i64 old, .int .i64 now] w (ToldPost (x.on fun s => s.doCharge old now) w) := by
  match x, h with
  | none, _ => exact rcharge_no Ac.zero old now w
  | some (b, s), h =>
    have ok := h b s rfl
    show Calls Try.prog 24 #[.agg (docAc true s), .int .i64 old, .int .i64 now] w (RefPost true (s.doCharge old now).1 (s.doCharge old now).2 w)
    unfold Ac.doCharge
    split
    · rename_i h1
      by_cases a : old < 0
      · exact rcharge_arg1 s old now a w
      by_cases a2 : now < 0
      · exact rcharge_arg2 s old now (by omega) a2 w
      by_cases a3 : 1048576 < now
      · exact rcharge_arg3 s old now (by omega) (by omega) a3 w
      exact rcharge_arg4 s old now (by omega) (by omega) (by omega) (by omega) w
    · split
      · rename_i h1 h2
        by_cases a2 : now < 0
        · exact rcharge_arg2 s old now (by omega) a2 w
        exact rcharge_arg3 s old now (by omega) (by omega) (by omega) w
      · split
        · exact rcharge_much s old now ok (by omega) (by omega) (by omega) (by omega) (by omega) w
        · rename_i h1 h2 h3
          have := rcharge_ok s old now ok (by omega) (by omega) (by omega) (by omega) (by omega) w
          rw [show s.pending - old + now = s.pending + (now - old) by omega] at this
          exact this
theorem told_end (x : Pl) (n : Int) (w : World) (h : ∀ b s, x = some (b, s) → s.Ok) : Calls Try.prog 26 #[.agg (docAc x.there x.ac), .int .i64 n] w (ToldPost (x.on fun s => s.doEnd n) w) := by
  match x, h with
  | none, _ => exact rend_no Ac.zero n w
  | some (b, s), h =>
    have ok := h b s rfl
    show Calls Try.prog 26 #[.agg (docAc true s), .int .i64 n] w (RefPost true (s.doEnd n).1 (s.doEnd n).2 w)
    unfold Ac.doEnd
    split
    · exact rend_none s n (by have := ok.n0; omega) w
    · split
      · by_cases a : n < 0
        · exact rend_arg1 s n (by omega) a w
        · exact rend_arg2 s n (by omega) (by omega) (by omega) w
      · exact rend_ok s n ok (by omega) (by omega) (by omega) w
theorem told_settle (x : Pl) (n : Int) (w : World) (h : ∀ b s, x = some (b, s) → s.Ok) : Calls Try.prog 27 #[.agg (docAc x.there x.ac), .int .i64 n] w (ToldPost (x.on fun s => s.doSettle n) w) := by
  match x, h with
  | none, _ => exact rsettle_no Ac.zero n w
  | some (b, s), h =>
    have ok := h b s rfl
    show Calls Try.prog 27 #[.agg (docAc true s), .int .i64 n] w (RefPost true (s.doSettle n).1 (s.doSettle n).2 w)
    unfold Ac.doSettle
    split
    · by_cases a : n < 0
      · exact rsettle_arg1 s n a w
      · exact rsettle_arg2 s n (by omega) (by omega) w
    · split
      · exact rsettle_much s n ok (by omega) (by omega) (by omega) w
      · exact rsettle_ok s n ok (by omega) (by omega) (by omega) w

end Go.Proofs.Ytkfihfipnbbfcaa
