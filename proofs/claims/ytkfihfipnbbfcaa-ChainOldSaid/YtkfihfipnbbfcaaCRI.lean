/-
  Layer 13's law: ChainOld walked.
-/
import Derived.Test.YtkfihfipnbbfcaaCRG
import Derived.Test.YtkfihfipnbbfcaaCRH
import Derived.Test.YtkfihfipnbbfcaaQuietRound
namespace Go.Proofs.Ytkfihfipnbbfcaa
open Go.RowKit Go.Shelf
namespace Rf
open Cs (IsV ChIs Foot TellPost WalkPost walked pruned PrunePost)
attribute [local go_sem] Oper.semAt_some

abbrev Cl := Nat × TypeId × Array Value

def Kc (B : World) (cs : List Cl) : Prop := ∀ c ∈ cs, Blk B c.1 c.2.1 c.2.2
theorem Kc.only {B B' : World} {cs : List Cl} (h : Kc B cs) (ho : Only NoneOf B B') : Kc B' cs := fun c hc => (h c hc).only ho (fun h => h)
theorem Kc.cons {B : World} {cs : List Cl} {b : Nat} {t : TypeId} {x : Array Value} (h : Kc B cs) (hb : Blk B b t x) : Kc B ((b, t, x) :: cs) := fun c hc => by
  rcases List.mem_cons.1 hc with rfl | hc
  · exact hb
  · exact h c hc
theorem Kc.nil (B : World) : Kc B [] := fun c hc => by cases hc
theorem Kc.get {B : World} {cs : List Cl} (h : Kc B cs) (i : Nat) {b : Nat} {t : TypeId} {x : Array Value} (hi : cs[i]? = some (b, t, x)) : Blk B b t x := h (b, t, x) (List.mem_of_getElem? hi)

/-- What ChainOld holds in a round: cells that stay (cs), the counter (ba), the chain, the row that was told. -/
structure OldIs (w B : World) (cs : List Cl) (ba : Nat) (a : Int) (p : Nat) (v : Value) (ls : List Lk) (v0 : Value) (xs : List Lk) : Prop where
  only : Only NoneOf w B
  cells : ∀ c ∈ cs, Blk B c.1 c.2.1 c.2.2
  count : Blk B ba 3 #[.int .i64 a]
  row : B.ownsRow 0 65 3 v0 xs.length (flat xs)
  ch : ChIs B p v ls
  far : ∀ c ∈ cs, c.1 ≠ ba ∧ w.heap.size ≤ c.1
  fara : w.heap.size ≤ ba ∧ v0.ownBlock ≠ some ba
  foot : ∀ k, Foot p v k → w.heap.size ≤ k ∧ k ≠ ba ∧ v0.ownBlock ≠ some k ∧ ∀ c ∈ cs, c.1 ≠ k

section
variable {w B B' : World} {cs : List Cl} {ba : Nat} {a : Int} {p : Nat} {v : Value} {ls : List Lk} {v0 : Value} {xs : List Lk}
theorem OldIs.keepS {S : Nat → Prop} (h : OldIs w B cs ba a p v ls v0 xs) (ho : Only S B B') (hw : ∀ k, k < w.heap.size → ¬ S k) (h1 : ∀ c ∈ cs, ¬ S c.1) (h2 : ¬ S ba) (h3 : ∀ g, v0.ownBlock = some g → ¬ S g) (h4 : ∀ k, Foot p v k → ¬ S k) : OldIs w B' cs ba a p v ls v0 xs :=
  ⟨h.only.step ho (fun k hk hh => absurd hh (hw k hk)), fun c hc => (h.cells c hc).only ho (h1 c hc), h.count.only ho h2, Cs.row_only h.row ho h3, h.ch.only ho h4, h.far, h.fara, h.foot⟩
theorem OldIs.keep (h : OldIs w B cs ba a p v ls v0 xs) (ho : Only NoneOf B B') : OldIs w B' cs ba a p v ls v0 xs :=
  h.keepS ho (fun _ _ h => h) (fun _ _ h => h) (fun h => h) (fun _ _ h => h) (fun _ _ h => h)
theorem OldIs.put (h : OldIs w B cs ba a p v ls v0 xs) (a' : Int) : OldIs w (B.setCell ⟨ba, 0, none⟩ (.int .i64 a')) cs ba a' p v ls v0 xs := by
  have ho : Only (· = ba) B (B.setCell ⟨ba, 0, none⟩ (.int .i64 a')) := (Only.refl (· = ba) B).put (.inl rfl) _
  exact ⟨h.only.step ho (fun k hk hh => by have := h.fara.1; omega), fun c hc => (h.cells c hc).only ho (h.far c hc).1, h.count.put 0 _, Cs.row_only h.row ho (fun g hg e => h.fara.2 (e ▸ hg)), h.ch.only ho (fun k hk e => (h.foot k hk).2.1 e), h.far, h.fara, h.foot⟩
theorem OldIs.chain {v' : Value} {ls' : List Lk} (h : OldIs w B cs ba a p v ls v0 xs) (hc : ChIs B' p v' ls') (ho : Only (Foot p v) B B') (hf : ∀ k, Foot p v' k → Foot p v k ∨ B.heap.size ≤ k) : OldIs w B' cs ba a p v' ls' v0 xs := by
  refine ⟨h.only.step ho (fun k hk hh => by have := (h.foot k hh).1; omega), fun c hc' => (h.cells c hc').only ho (fun hh => (h.foot _ hh).2.2.2 c hc' rfl), h.count.only ho (fun hh => (h.foot _ hh).2.1 rfl), Cs.row_only h.row ho (fun g hg hh => (h.foot _ hh).2.2.1 hg), hc, h.far, h.fara, fun k hk => ?_⟩
  rcases hf k hk with hk | hk
  · exact h.foot k hk
  · refine ⟨by have := h.only.size; omega, ?_, ?_, fun c hc' e => ?_⟩
    · rintro rfl; have := h.count.lt; omega
    · intro e; have := (World.ownsRow.lt h.row k e).2; omega
    · have := (h.cells c hc').lt; omega
end

theorem OldIs.renew {w B B1 : World} {cs : List Cl} {ba : Nat} {a : Int} {p : Nat} {v : Value} {ls : List Lk} {v0 v1 : Value} {xs xs1 : List Lk} (h : OldIs w B cs ba a p v ls v0 xs) (ho : Only NoneOf B B1) (hrow : B1.ownsRow 0 65 3 v1 xs1.length (flat xs1)) (hnew : ∀ g, v1.ownBlock = some g → B.heap.size ≤ g) :
    OldIs w (B1.alloc (.cells #[v1] 53)) ((B1.heap.size, 53, #[v1]) :: cs) ba a p v ls v1 xs1 := by
  have hs := ho.size
  have hws := h.only.size
  have h1 := h.keep ho
  have hal : Only NoneOf B1 (B1.alloc (.cells #[v1] 53)) := (Only.refl _ _).alloc _
  have hba := h.count.lt
  refine ⟨h1.only.alloc _, Kc.cons (Kc.only h1.cells hal) (Blk.new _ _ _), h1.count.alloc _, Cs.row_only hrow hal (fun _ _ h => h), h1.ch.keep hal, ?_, ⟨h.fara.1, fun e => by have := hnew _ e; omega⟩, fun k hk => ?_⟩
  · intro c hc
    rcases List.mem_cons.1 hc with rfl | hc
    · exact ⟨by simp only; omega, by simp only; omega⟩
    · exact h.far c hc
  · obtain ⟨f1, f2, _, f4⟩ := h.foot k hk
    have hlt := ch_lt h.ch k hk
    refine ⟨f1, f2, fun e => by have := hnew _ e; omega, fun c hc => ?_⟩
    rcases List.mem_cons.1 hc with rfl | hc
    · simp only; omega
    · exact f4 c hc

theorem lt_of_at {w : World} {i : Nat} {o : Obj} (h : w.heap[i]? = some o) : i < w.heap.size := by
  rcases Nat.lt_or_ge i w.heap.size with hl | hl
  · exact hl
  · rw [Array.getElem?_eq_none hl] at h; cases h

/-- How an Add ends, taken or refused. -/
def SomePost (p : Nat) (v : Value) (n : Nat) (w : World) (e : Ending) (w' : World) : Prop :=
  ∃ c v' ls', e = .returned (.int .i64 c) ∧ ChIs w' p v' ls' ∧ Only (Foot p v) w w' ∧ (∀ k, Foot p v' k → Foot p v k ∨ w.heap.size ≤ k) ∧ ls'.length ≤ n

theorem add_any (w : World) (p : Nat) (v : Value) (ls : List Lk) (st : Int) (x : ByteArray) (dead : Bool) (h : ChIs w p v ls) (hfew : ls.length < 3518437208800) :
    Calls Try.prog 36 #[.pointer (some ⟨p, 0, none⟩), .agg #[.int .i64 st, .string x, .bool dead]] w (SomePost p v (ls.length + 1) w) := by
  by_cases hn : st < 0
  · exact (Cs.add_low w p v ls st x dead h hn).mono fun e w' ⟨he, ho⟩ => ⟨_, v, ls, he, h.keep ho, ho.mono (fun _ _ h => h.elim), fun k hk => .inl hk, by omega⟩
  · by_cases hok : ∀ a ∈ ls, a.stamp < st
    · exact (Cs.add_ok w p v ls st x dead h (by omega) hok hfew).mono fun e w' ⟨v', he, hc, ho, hf⟩ => ⟨_, v', _, he, hc, ho, hf, by simp⟩
    · rcases List.eq_nil_or_concat ls with rfl | ⟨r, l, rfl⟩
      · exact absurd (fun a ha => by simp at ha) hok
      · rw [List.concat_eq_append] at *
        exact (Cs.add_old w p v r l st x dead h (by omega) (last_ge h.rise hok)).mono fun e w' ⟨he, ho⟩ => ⟨_, v, _, he, h.keep ho, ho.mono (fun _ _ h => h.elim), fun k hk => .inl hk, by omega⟩

theorem prune_some (w : World) (p : Nat) (v : Value) (ls : List Lk) (n : Int) (h : ChIs w p v ls) : Calls Try.prog 38 #[.pointer (some ⟨p, 0, none⟩), .int .i64 n] w (SomePost p v ls.length w) :=
  (prune_any w p v ls n h).mono fun e w' ⟨v', he, hc, ho, hf⟩ => ⟨_, v', _, he, hc, ho, hf, by have := pruned_len ls n; omega⟩

/-- What stands in a round of the first walk. -/
def OldI (w : World) (B0 : Nat) (cs : List Cl) (ba p : Nat) (v0 : Value) (xs : List Lk) (n : Nat) (E : Nat) (pre : List Lk) (B : World) : Prop :=
  B0 + 2 ≤ E ∧ ∃ v' ls', OldIs w B cs ba pre.length p v' ls' v0 xs ∧ (∀ k, Foot p v' k → k < B0 ∨ E ≤ k) ∧ ls'.length ≤ n + 1 ∧ (pre = [] → ls'.length ≤ n)

theorem OldI.zone {w : World} {B0 : Nat} {cs : List Cl} {ba p : Nat} {v0 : Value} {xs : List Lk} {n E : Nat} {pre : List Lk} {A B : World} (hlt : (∀ c ∈ cs, c.1 < B0) ∧ ba < B0 ∧ (∀ g, v0.ownBlock = some g → g < B0) ∧ w.heap.size ≤ B0)
    (h : OldI w B0 cs ba p v0 xs n E pre A) (ho : Only (Ours B0 E) A B) : OldI w B0 cs ba p v0 xs n E pre B := by
  obtain ⟨h1, v', ls', hold, hF, hl, hl0⟩ := h
  refine ⟨h1, v', ls', hold.keepS ho (fun k hk hh => by have := hh.1; omega) (fun c hc hh => by have := hh.1; have := hlt.1 c hc; omega) (fun hh => by have := hh.1; omega) (fun g hg hh => by have := hh.1; have := hlt.2.2.1 g hg; omega) (fun k hk hh => ?_), hF, hl, hl0⟩
  have := hh.1; have := hh.2
  rcases hF k hk with hk | hk <;> omega

/-- What stands in a round of the second walk. -/
def OldI2 (w : World) (B0 : Nat) (cs : List Cl) (ba p : Nat) (v : Value) (ls : List Lk) (v0 : Value) (xs : List Lk) (D : Nat) (E : Nat) (pre : List Lk) (B : World) : Prop :=
  B0 + 2 ≤ E ∧ OldIs w B cs ba pre.length p v ls v0 xs ∧ B.heap[D]? = some (.deferred (some []))

theorem OldI2.zone {w : World} {B0 : Nat} {cs : List Cl} {ba p : Nat} {v : Value} {ls : List Lk} {v0 : Value} {xs : List Lk} {D E : Nat} {pre : List Lk} {A B : World} (hlt : (∀ c ∈ cs, c.1 < B0) ∧ ba < B0 ∧ (∀ g, v0.ownBlock = some g → g < B0) ∧ w.heap.size ≤ B0 ∧ D < B0 ∧ ∀ k, Foot p v k → k < B0)
    (h : OldI2 w B0 cs ba p v ls v0 xs D E pre A) (ho : Only (Ours B0 E) A B) : OldI2 w B0 cs ba p v ls v0 xs D E pre B := by
  obtain ⟨h1, hold, hD⟩ := h
  refine ⟨h1, hold.keepS ho (fun k hk hh => by have := hh.1; omega) (fun c hc hh => by have := hh.1; have := hlt.1 c hc; omega) (fun hh => by have := hh.1; omega) (fun g hg hh => by have := hh.1; have := hlt.2.2.1 g hg; omega) (fun k hk hh => by have := hh.1; have := hlt.2.2.2.2.2 k hk; omega), ?_⟩
  have hda : D < A.heap.size := by
    rcases Nat.lt_or_ge D A.heap.size with h | h
    · exact h
    · rw [Array.getElem?_eq_none h] at hD; cases hD
  rw [ho.block D hda (fun hh => by have := hh.1; omega)]
  exact hD

set_option maxRecDepth 100000 in
set_option maxHeartbeats 2000000 in
theorem old_any (A : Option Addr) (cap : Nat) (s : List St) (horizon more : Int) (w : World) (hA : StepsIn w w.heap.size A s) (hn : s.length ≤ 3518437208780) :
    Calls Try.prog 13 #[.slice A s.length cap, .int .i64 horizon, .int .i64 more] w (fun e w' => e = .returned (.bool true) ∧ Only NoneOf w w') := by
  have A0 := fun u p => Lib.hid (Cs.all_any u p)
  have hfn := Cs.func_nil
  have HM := Lib.hid (played_is A cap s)
  have HA := Lib.hid hA
  have hfew : (playList [] s).length ≤ s.length := by have := playList_le s []; simpa using this
  generalize playList [] s = ls at *
  clear hA
  refine callsIn_wide (n := 1).1 (callsIn_of_wp_marks Try.func13 rfl trivial ?_ rfl)
  simp only [Try.ntmps13, List.size_toArray, List.length_cons, List.length_nil, Nat.reduceAdd, Nat.reduceSub, Array.replicate_succ, Array.replicate_zero, List.push_toArray, List.append_toArray, List.nil_append, List.cons_append]
  gi_wp2_with fail
  have hW0 : Only NoneOf w (((w.alloc (.cells #[.int .i64 horizon] 3)).alloc (.cells #[.int .i64 more] 3)).alloc (.cells #[.bool false] 4)) := (((Only.refl _ _).alloc _).alloc _).alloc _
  have K0 : Kc (((w.alloc (.cells #[.int .i64 horizon] 3)).alloc (.cells #[.int .i64 more] 3)).alloc (.cells #[.bool false] 4)) [(w.heap.size + 1 + 1, 4, #[.bool false]), (w.heap.size + 1, 3, #[.int .i64 more]), (w.heap.size, 3, #[.int .i64 horizon])] :=
    (((Kc.nil _).cons (((Blk.new w 3 #[.int .i64 horizon]).alloc (.cells #[.int .i64 more] 3)).alloc (.cells #[.bool false] 4))).cons
      ((Blk.new' (w.alloc (.cells #[.int .i64 horizon] 3)) 3 #[.int .i64 more] (n := w.heap.size + 1) (by simp)).alloc (.cells #[.bool false] 4))).cons
      (Blk.new' ((w.alloc (.cells #[.int .i64 horizon] 3)).alloc (.cells #[.int .i64 more] 3)) 4 #[.bool false] (n := w.heap.size + 1 + 1) (by simp))
  have hz0 : (((w.alloc (.cells #[.int .i64 horizon] 3)).alloc (.cells #[.int .i64 more] 3)).alloc (.cells #[.bool false] 4)).heap.size = w.heap.size + 3 := by simp
  generalize ((w.alloc (.cells #[.int .i64 horizon] 3)).alloc (.cells #[.int .i64 more] 3)).alloc (.cells #[.bool false] 4) = W0 at *
  have hS0 : StepsIn W0 W0.heap.size A s := fun i k n x dead hi => by
    obtain ⟨blk, off, hA, hb, r⟩ := (HA.out.only (Nat.le_refl _) hW0 (fun _ _ h => h)) i k n x dead hi
    exact ⟨blk, off, hA, by omega, r⟩
  refine ⟨trivial, (callsIn_wide.2 (HM.out W0 hS0 hn)).mono ?_⟩
  rintro e w1 ⟨rfl, v, h1, ho1, hf1⟩
  clear hS0 HA HM
  have hs1 : w.heap.size + 3 ≤ w1.heap.size := by have := ho1.size; omega
  rw [hz0] at *
  generalize hp : w.heap.size + 3 = p at *
  have K1 := Lib.hid (((K0.only ho1).only ((Only.refl NoneOf w1).alloc (.cells #[.pointer (some ⟨p, 0, none⟩)] 52))).cons (Blk.new w1 52 #[.pointer (some ⟨p, 0, none⟩)]))
  have HC1 := Lib.hid (h1.keep ((Only.refl NoneOf w1).alloc (.cells #[.pointer (some ⟨p, 0, none⟩)] 52)))
  have HW1 := Lib.hid ((hW0.trans ho1).alloc (.cells #[.pointer (some ⟨p, 0, none⟩)] 52))
  have HF1 := Lib.hid (fun k (hk : Foot p v k) => (⟨by have := hf1 k hk; omega, ch_lt h1 k hk⟩ : w.heap.size + 3 ≤ k ∧ k < w1.heap.size))
  have hsa : (w1.alloc (.cells #[.pointer (some ⟨p, 0, none⟩)] 52)).heap.size = w1.heap.size + 1 := by simp
  clear h1 ho1 hf1 K0 hW0 hz0
  gi_wp2_with fail
  generalize w1.alloc (.cells #[.pointer (some ⟨p, 0, none⟩)] 52) = W1 at *
  generalize w1.heap.size = b7 at *
  have hwk : walked ls.reverse (-1) = ls.reverse := by unfold walked; rw [if_pos (by decide)]
  have HWK := Lib.hid (Cs.walk_has W1 p v ls (-1) HC1.out)
  rw [hwk] at HWK
  refine ⟨trivial, (callsIn_wide.2 HWK.out).mono ?_⟩
  rintro e w2 ⟨v0, rfl, hra, ho2, hnew⟩
  have hv0 := Cs.walk_form hra
  have K2 := Lib.hid (((K1.out.only ho2).only ((Only.refl NoneOf w2).alloc (.cells #[v0] 53))).cons (Blk.new w2 53 #[v0]))
  have HC2 := Lib.hid ((HC1.out.keep ho2).keep ((Only.refl NoneOf w2).alloc (.cells #[v0] 53)))
  have HW2 := Lib.hid ((HW1.out.trans ho2).alloc (.cells #[v0] 53))
  have HRA2 := Lib.hid (Cs.row_only hra ((Only.refl NoneOf w2).alloc (.cells #[v0] 53)) (fun _ _ h => h))
  have HV0 := Lib.hid (fun k (hk : v0.ownBlock = some k) => (⟨hnew k hk, (World.ownsRow.lt hra k hk).2⟩ : W1.heap.size ≤ k ∧ k < w2.heap.size))
  have hs2 : b7 + 1 ≤ w2.heap.size := by have := ho2.size; omega
  have hsb : (w2.alloc (.cells #[v0] 53)).heap.size = w2.heap.size + 1 := by simp
  rw [List.length_reverse] at hv0
  obtain ⟨ag, acap, rfl⟩ := hv0
  have c7 := (K2.out.get 1 rfl).cellv 0 rfl
  clear hra ho2 hnew hwk K1 HC1 HW1 HWK
  gi_wp2_with fail
  generalize w2.alloc (.cells #[.slice ag ls.length acap] 53) = W2 at *
  generalize w2.heap.size = b8 at *
  refine ⟨trivial, (callsIn_wide.2 (A0 W2 (some ⟨p, 0, none⟩)).out).mono ?_⟩
  rintro e w3 ⟨rfl, rfl⟩
  have K3 := Lib.hid ((K2.out.only ((Only.refl NoneOf W2).alloc (.cells #[.pointer (some ⟨p, 0, none⟩)] 52))).cons (Blk.new W2 52 #[.pointer (some ⟨p, 0, none⟩)]))
  have HC3 := Lib.hid (HC2.out.keep ((Only.refl NoneOf W2).alloc (.cells #[.pointer (some ⟨p, 0, none⟩)] 52)))
  have HW3 := Lib.hid (HW2.out.alloc (.cells #[.pointer (some ⟨p, 0, none⟩)] 52))
  have HRA3 := Lib.hid (Cs.row_only HRA2.out ((Only.refl NoneOf W2).alloc (.cells #[.pointer (some ⟨p, 0, none⟩)] 52)) (fun _ _ h => h))
  have hs3 : (W2.alloc (.cells #[.pointer (some ⟨p, 0, none⟩)] 52)).heap.size = W2.heap.size + 1 := by simp
  clear K2 HC2 HW2 HRA2 c7
  gi_wp2_with fail
  generalize W2.alloc (.cells #[.pointer (some ⟨p, 0, none⟩)] 52) = W3 at *
  generalize W2.heap.size = bc at *
  refine ⟨trivial, (callsIn_wide.2 (Cs.awake_any W3)).mono ?_⟩
  rintro e w4 ⟨rfl, ho4⟩
  have K4 := Lib.hid ((K3.out.only ho4).only ((Only.refl NoneOf w4).alloc (.cells #[.int .i64 0] 3)))
  have HC4 := Lib.hid ((HC3.out.keep ho4).keep ((Only.refl NoneOf w4).alloc (.cells #[.int .i64 0] 3)))
  have HW4 := Lib.hid ((HW3.out.trans ho4).alloc (.cells #[.int .i64 0] 3))
  have HRA4 := Lib.hid (Cs.row_only (Cs.row_only HRA3.out ho4 (fun _ _ h => h)) ((Only.refl NoneOf w4).alloc (.cells #[.int .i64 0] 3)) (fun _ _ h => h))
  have hs4 : bc + 1 ≤ w4.heap.size := by have := ho4.size; omega
  have hs5 : (w4.alloc (.cells #[.int .i64 0] 3)).heap.size = w4.heap.size + 1 := by simp
  have hcnt := Blk.new w4 3 #[.int .i64 0]
  clear ho4 K3 HC3 HW3 HRA3
  gi_wp2_with fail
  generalize w4.alloc (.cells #[.int .i64 0] 3) = W4 at *
  generalize w4.heap.size = ba at *
  obtain rfl : bc = b8 + 1 := hsb
  have HOLD : Hid (OldIs w W4 [(b8 + 1, 52, #[.pointer (some ⟨p, 0, none⟩)]), (b8, 53, #[.slice ag ls.length acap]), (b7, 52, #[.pointer (some ⟨p, 0, none⟩)]), (w.heap.size + 1 + 1, 4, #[.bool false]), (w.heap.size + 1, 3, #[.int .i64 more]), (w.heap.size, 3, #[.int .i64 horizon])] ba 0 p v ls (.slice ag ls.length acap) ls.reverse) := Lib.hid (by
    have hb : ∀ c ∈ ([(b8 + 1, 52, #[.pointer (some ⟨p, 0, none⟩)]), (b8, 53, #[.slice ag ls.length acap]), (b7, 52, #[.pointer (some ⟨p, 0, none⟩)]), (w.heap.size + 1 + 1, 4, #[.bool false]), (w.heap.size + 1, 3, #[.int .i64 more]), (w.heap.size, 3, #[.int .i64 horizon])] : List Cl), w.heap.size ≤ c.1 ∧ c.1 < ba ∧ (c.1 < w.heap.size + 3 ∨ b7 ≤ c.1) ∧ (c.1 ≤ b7 ∨ b8 ≤ c.1) := by
      intro c hc
      simp only [List.mem_cons, List.not_mem_nil, or_false] at hc
      rcases hc with rfl | rfl | rfl | rfl | rfl | rfl <;> (refine ⟨?_, ?_, ?_, ?_⟩ <;> (simp only; omega))
    refine ⟨HW4.out, K4.out, hcnt, HRA4.out, HC4.out, fun c hc => ⟨by have := (hb c hc).2.1; omega, (hb c hc).1⟩, ⟨by omega, fun e => by have := HV0.out _ e; omega⟩, fun k hk => ?_⟩
    have hk1 := HF1.out k hk
    refine ⟨by omega, by omega, fun e => by have := HV0.out _ e; omega, fun c hc e => ?_⟩
    have := (hb c hc).2.2.1
    omega)
  have HLT : Hid ((∀ c ∈ ([(b8 + 1, 52, #[.pointer (some ⟨p, 0, none⟩)]), (b8, 53, #[.slice ag ls.length acap]), (b7, 52, #[.pointer (some ⟨p, 0, none⟩)]), (w.heap.size + 1 + 1, 4, #[.bool false]), (w.heap.size + 1, 3, #[.int .i64 more]), (w.heap.size, 3, #[.int .i64 horizon])] : List Cl), c.1 < W4.heap.size) ∧ ba < W4.heap.size ∧ (∀ g, (Value.slice ag ls.length acap).ownBlock = some g → g < W4.heap.size) ∧ w.heap.size ≤ W4.heap.size) :=
    Lib.hid ⟨fun c hc => (K4.out c hc).lt, hcnt.lt, fun g hg => (World.ownsRow.lt HRA4.out g hg).2, HW4.out.size⟩
  have HFL := Lib.hid (fun k (hk : Foot p v k) => ch_lt HC4.out k hk)
  have HV := Lib.hid HC4.out.vals
  clear K4 HC4 HW4 HRA4 hcnt HF1 HV0
  have HLN : Hid (ls.reverse.length = ls.length) := Lib.hid List.length_reverse
  generalize hcs : ([(b8 + 1, 52, #[.pointer (some ⟨p, 0, none⟩)]), (b8, 53, #[.slice ag ls.length acap]), (b7, 52, #[.pointer (some ⟨p, 0, none⟩)]), (w.heap.size + 1 + 1, 4, #[.bool false]), (w.heap.size + 1, 3, #[.int .i64 more]), (w.heap.size, 3, #[.int .i64 horizon])] : List Cl) = cs at *
  have HCS := Lib.hid hcs
  clear hcs
  refine range_own (α := Lk) (xs := ls.reverse) (encs := Cs.linkEnc) (Kp := NoneOf) (Nat.le_refl 1) rfl (fun _ _ => by kernel_rfl)
    (fun Wn hn _ => Cs.all_iter Wn (b8 + 1) p v ls (HOLD.out.ch.keep hn) (((Kc.only HOLD.out.cells hn).get 0 (by rw [← HCS.out]; rfl)).cellv 0 rfl)) (fun _ => rfl) (fun {k} _ hh => hh)
    (OldI w W4.heap.size cs ba p (.slice ag ls.length acap) ls.reverse s.length) (fun _ _ _ _ => False)
    (fun E pre A B hs ho => hs.zone HLT.out ho) (fun _ _ _ _ _ h _ => h)
    (fun E B hE hB ho => ⟨hE, v, ls, HOLD.out.keep ho, fun k hk => .inl (HFL.out k hk), by omega, fun _ => hfew⟩)
    (fun x a' B => ∃ b, W4.heap.size + 2 ≤ b ∧ Blk B b 65 x.cells.toArray ∧ a' = { tmps := #[.slice A s.length cap, .int .i64 horizon, .int .i64 more, undef, .pointer (some ⟨w.heap.size, 0, none⟩), .pointer (some ⟨w.heap.size + 1, 0, none⟩), .pointer (some ⟨w.heap.size + 1 + 1, 0, none⟩), .pointer (some ⟨b7, 0, none⟩), .pointer (some ⟨b8, 0, none⟩),
      .func (.func 58) #[] #[.pointer (some ⟨b8 + 1, 0, none⟩)], .pointer (some ⟨ba, 0, none⟩), .pointer (some ⟨b, 0, none⟩), undef, undef, .slice A s.length cap, .pointer (some ⟨p, 0, none⟩), .pointer (some ⟨p, 0, none⟩), .slice ag ls.length acap, .pointer (some ⟨p, 0, none⟩), .func (.func 58) #[] #[.pointer (some ⟨b8 + 1, 0, none⟩)],
      .func (.func 58) #[] #[.pointer (some ⟨b8 + 1, 0, none⟩)], .bool false, .bool false, .bool true, .bool false, .bool false, .func (.func 58) #[] #[.pointer (some ⟨b8 + 1, 0, none⟩)], .agg x.cells.toArray, undef, undef, undef, undef, undef, undef, undef, undef, undef, undef, undef, undef, undef, undef, undef, undef, undef, undef, undef, undef, undef, undef, undef, undef, undef, undef, undef, undef, undef, undef, undef, undef, undef, undef, undef, undef, undef, undef, undef, undef, undef, undef, undef, undef, undef, undef, undef, undef, undef, undef, undef, undef], defers := [] })
    (fun x a' A B hs ho => by obtain ⟨b, hb, hB, ha⟩ := hs; exact ⟨b, hb, hB.only ho (by omega), ha⟩)
    ?assign ?body ?done ?stop
  case assign =>
    rintro l0 Wa K hx hsz hK
    obtain ⟨y, hy⟩ := HV.out l0 (by simpa using hx)
    obtain ⟨st, val, dead⟩ := l0
    simp only at hy
    subst hy
    simp only [Cs.linkEnc, Lk.cells] at hK ⊢
    gi_wp2
    exact hK _ _ ((Only.refl _ _).alloc _) ⟨_, hsz, Blk.new _ _ _, rfl⟩
  case body =>
    rintro E pre l0 a' Wb _ hE hEW hpre ⟨_, v', ls', hold, hF, hln, hln0⟩ ⟨b, hb, hB, rfl⟩
    have hl0 : ls.reverse[pre.length]? = some l0 := by
      obtain ⟨r, hr⟩ := hpre
      rw [← hr, List.append_assoc]
      simp
    have hbnd : pre.length < ls.length := by have := (List.getElem?_eq_some_iff.1 hl0).1; rwa [HLN.out] at this
    obtain ⟨y, hy0⟩ := HV.out l0 (by have := List.mem_of_getElem? hl0; simpa using this)
    obtain ⟨g, hag, hg, hrow⟩ := rev_form hold.row (fun l hl => HV.out l (by simpa using hl)) hl0
    subst hag
    obtain ⟨y', hy', f0, f1, f2⟩ := hrow pre.length l0 hl0
    obtain rfl : y = y' := by rw [hy0] at hy'; injection hy'
    have c8 := (Kc.get hold.cells 1 (by rw [← HCS.out]; rfl)).cellv 0 rfl
    have c7 := (Kc.get hold.cells 2 (by rw [← HCS.out]; rfl)).cellv 0 rfl
    have c5 := (Kc.get hold.cells 4 (by rw [← HCS.out]; rfl)).cellv 0 rfl
    have c4 := (Kc.get hold.cells 5 (by rw [← HCS.out]; rfl)).cellv 0 rfl
    have ca := hold.count.cellv 0 rfl
    have cf := hold.count.free 0
    have hE1 := HLT.out
    obtain ⟨st, val, dead⟩ := l0
    simp only at hy0 f0 f1 f2
    subst hy0
    have b0 : Wb.cell? ⟨b, 0, none⟩ = some (.int .i64 st) := hB.cellv 0 rfl
    have b1 : Wb.cell? ⟨b, 1, none⟩ = some (.string y) := hB.cellv 1 rfl
    have b2 : Wb.cell? ⟨b, 2, none⟩ = some (.bool dead) := hB.cellv 2 rfl
    have hge : decide ((ls.length : Int) ≤ (pre.length : Int)) = false := decide_eq_false (by omega)
    have hge2 : decide (ls.length ≤ pre.length) = false := decide_eq_false (by omega)
    have HOLD2 := Lib.hid hold
    have HF := Lib.hid hF
    have HL0 := Lib.hid hln0
    have HB2 := Lib.hid hB
    clear hrow hy' hold hF hln0 hl0 hpre hE1 hB
    clear A0 hfn
    gi_wp2_with fail
    by_cases hq : pre.length = 0
    · have hq0 : ((pre.length : Int) == 0) = true := beq_iff_eq.2 (by omega)
      have HQ := Lib.hid hq
      clear hq
      refine wpIn_region_quiet_round (by kernel_rfl) (by kernel_rfl) (by kernel_rfl) ?_
      repeat (gi_big_quiet_step (fail))
      refine wpQuietIn_nil ?_
      intro _ hw'
      obtain ⟨nq, hw''⟩ := hw'
      subst hw''
      gi_wp2_with fail
      refine ⟨trivial, rfl, ((callsIn_wide.2 (prune_some (Wb.drewN nq) p v' ls' horizon (HOLD2.out.keep ((Only.refl NoneOf Wb).drewN nq)).ch)).inRound _).mono ?_⟩
      rintro e w5 ⟨c5', v5, ls5, rfl, hc5, ho5, hf5, hl5⟩
      have OLD5 := Lib.hid ((HOLD2.out.keep ((Only.refl NoneOf Wb).drewN nq)).chain hc5 ho5 hf5)
      have HO5 := Lib.hid ho5
      have HF5 := Lib.hid hf5
      clear c8 c7 c5 c4 ca cf f0 f1 f2 b0 b1 b2 hc5 ho5 hf5
      have c7 := (Kc.get OLD5.out.cells 2 (by rw [← HCS.out]; rfl)).cellv 0 rfl
      have c5 := (Kc.get OLD5.out.cells 4 (by rw [← HCS.out]; rfl)).cellv 0 rfl
      have hlen0 := HL0.out (List.eq_nil_of_length_eq_zero HQ.out)
      gi_wp2_with fail
      refine ⟨trivial, rfl, ((callsIn_wide.2 (add_any w5 p v5 ls5 more ⟨#[110, 101, 119]⟩ false OLD5.out.ch (by omega))).inRound _).mono ?_⟩
      rintro e w6 ⟨c6', v6, ls6, rfl, hc6, ho6, hf6, hl6⟩
      have OLD6 := Lib.hid (OLD5.out.chain hc6 ho6 hf6)
      have HO6 := Lib.hid ho6
      have HF6 := Lib.hid hf6
      clear c7 c5 hc6 ho6 hf6
      have ca := OLD6.out.count.cellv 0 rfl
      have cf := OLD6.out.count.free 0
      gi_wp2_with fail
      have hs5 := HO5.out.size
      have hs6 := HO6.out.size
      have hsd : (Wb.drewN nq).heap.size = Wb.heap.size := rfl
      refine ⟨Only.put (S := Theirs W4.heap.size E NoneOf) ((((Only.refl _ Wb).drewN nq).step HO5.out (fun k hk hh => ?_)).step HO6.out (fun k hk hh => ?_)) (.inl (.inl ⟨HLT.out.2.1, fun h => h⟩)) _, by omega, v6, ls6, ?_, fun k hk => ?_, by omega, fun h => by simp at h⟩
      · rcases HF.out k hh with h | h
        · exact .inl ⟨h, fun h => h⟩
        · exact .inr h
      · rcases HF5.out k hh with h | h
        · rcases HF.out k h with h | h
          · exact .inl ⟨h, fun h => h⟩
          · exact .inr h
        · omega
      · have e : ((pre ++ [(⟨st, .string y, dead⟩ : Lk)]).length : Int) = (pre.length : Int) + 1 := by simp
        rw [e]
        exact OLD6.out.put _
      · rcases HF6.out k hk with h | h
        · rcases HF5.out k h with h | h
          · exact HF.out k h
          · exact .inr (by omega)
        · exact .inr (by omega)
    · have hq0 : ((pre.length : Int) == 0) = false := beq_eq_false_iff_ne.2 (by omega)
      clear hq
      refine wpIn_region_quiet_round (by kernel_rfl) (by kernel_rfl) (by kernel_rfl) ?_
      repeat (gi_big_quiet_step (fail))
      refine wpQuietIn_nil ?_
      intro _ hw'
      obtain ⟨nq, hw''⟩ := hw'
      subst hw''
      gi_wp2_with fail
      refine ⟨Only.put (S := Theirs W4.heap.size E NoneOf) ((Only.refl _ Wb).drewN nq) (.inl (.inl ⟨HLT.out.2.1, fun h => h⟩)) _, by omega, v', ls', ?_, HF.out, by omega, fun h => by simp at h⟩
      have e : ((pre ++ [(⟨st, .string y, dead⟩ : Lk)]).length : Int) = (pre.length : Int) + 1 := by simp
      rw [e]
      exact (HOLD2.out.keep ((Only.refl NoneOf Wb).drewN nq)).put _
  case done =>
    rintro E Wd hE ⟨_, v', ls', hold, hF, hln, _⟩ hD
    have ca : Wd.cell? ⟨ba, 0, none⟩ = some (.int .i64 ls.length) := by rw [← HLN.out]; exact hold.count.cellv 0 rfl
    have c8 := (Kc.get hold.cells 1 (by rw [← HCS.out]; rfl)).cellv 0 rfl
    have c7 := (Kc.get hold.cells 2 (by rw [← HCS.out]; rfl)).cellv 0 rfl
    have HOLD2 := Lib.hid hold
    clear hold
    have hwk : walked ls'.reverse (-1) = ls'.reverse := by unfold walked; rw [if_pos (by decide)]
    have HWK := Lib.hid (Cs.walk_has Wd p v' ls' (-1) HOLD2.out.ch)
    rw [hwk] at HWK
    clear hwk
    gi_wp2_with fail
    refine ⟨trivial, (callsIn_wide.2 HWK.out).mono ?_⟩
    rintro e w7 ⟨v1, rfl, hra, ho7, hnew⟩
    have HOLD7 := Lib.hid (HOLD2.out.renew ho7 hra hnew)
    have hD7 : (w7.alloc (.cells #[v1] 53)).heap[W4.heap.size]? = some (.deferred (some [])) := by
      have hlt : W4.heap.size < Wd.heap.size := by
        rcases Nat.lt_or_ge W4.heap.size Wd.heap.size with h | h
        · exact h
        · rw [Array.getElem?_eq_none h] at hD; cases hD
      rw [(ho7.alloc (.cells #[v1] 53)).block _ hlt (fun h => h)]
      exact hD
    have ca7 := HOLD7.out.count.cellv 0 rfl
    have cf7 := HOLD7.out.count.free 0
    have hv1 := Cs.walk_form hra
    rw [List.length_reverse] at hv1
    obtain ⟨ag1, acap1, rfl⟩ := hv1
    have hbl := HOLD7.out.count.lt
    clear HWK ca c8 c7 hra ho7 hnew HOLD2
    gi_wp2_with fail
    have HOLD8 := Lib.hid (HOLD7.out.put 0)
    have hba4 : ba < W4.heap.size := HLT.out.2.1
    have hD8 : ((w7.alloc (.cells #[.slice ag1 ls'.length acap1] 53)).setCell ⟨ba, 0, none⟩ (.int .i64 0)).heap[W4.heap.size]? = some (.deferred (some [])) := by
      rw [Below.heap_setCell _ ⟨ba, 0, none⟩ _ W4.heap.size (by show W4.heap.size ≠ ba; omega)]
      exact hD7
    clear hD7 ca7 cf7 HOLD7 hbl
    generalize hb12 : w7.heap.size = b12 at *
    generalize (w7.alloc (.cells #[.slice ag1 ls'.length acap1] 53)).setCell ⟨ba, 0, none⟩ (.int .i64 0) = W8 at *
    have HLT8 : Hid ((∀ c ∈ ((b12, 53, #[.slice ag1 ls'.length acap1]) :: cs : List Cl), c.1 < W8.heap.size) ∧ ba < W8.heap.size ∧ (∀ g, (Value.slice ag1 ls'.length acap1).ownBlock = some g → g < W8.heap.size) ∧ w.heap.size ≤ W8.heap.size ∧ W4.heap.size < W8.heap.size ∧ ∀ k, Foot p v' k → k < W8.heap.size) :=
      Lib.hid ⟨fun c hc => (HOLD8.out.cells c hc).lt, HOLD8.out.count.lt, fun g hg => (World.ownsRow.lt HOLD8.out.row g hg).2, HOLD8.out.only.size, lt_of_at hD8, fun k hk => ch_lt HOLD8.out.ch k hk⟩
    have HV8 := Lib.hid HOLD8.out.ch.vals
    have HLN8 : Hid (ls'.reverse.length = ls'.length) := Lib.hid List.length_reverse
    have HD8 := Lib.hid hD8
    have hfew8 := HOLD8.out.ch.few
    clear hD8 hD
    refine range_own (α := Lk) (xs := ls'.reverse) (encs := Cs.linkEnc) (Kp := NoneOf) (Nat.le_refl 1) rfl (fun _ _ => by kernel_rfl)
      (fun Wn hn _ => Cs.all_iter Wn (b8 + 1) p v' ls' (HOLD8.out.ch.keep hn) (((Kc.only HOLD8.out.cells hn).get 1 (by rw [← HCS.out]; rfl)).cellv 0 rfl)) (fun _ => rfl) (fun {k} _ hh => hh)
      (OldI2 w W8.heap.size ((b12, 53, #[.slice ag1 ls'.length acap1]) :: cs) ba p v' ls' (.slice ag1 ls'.length acap1) ls'.reverse W4.heap.size) (fun _ _ _ _ => False)
      (fun E pre A B hs ho => hs.zone HLT8.out ho) (fun _ _ _ _ _ h _ => h)
      (fun E B hE hB ho => ⟨hE, HOLD8.out.keep ho, by rw [ho.block _ HLT8.out.2.2.2.2.1 (fun h => h)]; exact HD8.out⟩)
      (fun x a' B => ∃ b, W8.heap.size + 2 ≤ b ∧ Blk B b 65 x.cells.toArray ∧ a' = { tmps := #[.slice A s.length cap, .int .i64 horizon, .int .i64 more, undef, .pointer (some ⟨w.heap.size, 0, none⟩), .pointer (some ⟨w.heap.size + 1, 0, none⟩), .pointer (some ⟨w.heap.size + 1 + 1, 0, none⟩), .pointer (some ⟨b7, 0, none⟩), .pointer (some ⟨b8, 0, none⟩),
        .func (.func 58) #[] #[.pointer (some ⟨b8 + 1, 0, none⟩)], .pointer (some ⟨ba, 0, none⟩), undef, .pointer (some ⟨b12, 0, none⟩), .pointer (some ⟨b, 0, none⟩), .slice A s.length cap, .pointer (some ⟨p, 0, none⟩), .pointer (some ⟨p, 0, none⟩), .slice ag ls.length acap, .pointer (some ⟨p, 0, none⟩), .func (.func 58) #[] #[.pointer (some ⟨b8 + 1, 0, none⟩)],
        .func (.func 58) #[] #[.pointer (some ⟨b8 + 1, 0, none⟩)], .bool false, .bool false, .bool true, .bool false, .bool false, .func (.func 58) #[] #[.pointer (some ⟨b8 + 1, 0, none⟩)], undef, undef, undef, undef, undef, undef, undef, undef, undef, undef, undef, undef, undef, undef, undef, undef, undef, undef, undef, undef, undef, undef, undef, undef, .int .i64 ls.length, .slice ag ls.length acap, .int .i64 ls.length, .bool false, .pointer (some ⟨p, 0, none⟩), .slice ag1 ls'.length acap1,
        .func (.func 58) #[] #[.pointer (some ⟨b8 + 1, 0, none⟩)], .agg x.cells.toArray, undef, undef, undef, undef, undef, undef, undef, undef, undef, undef, undef, undef, undef, undef, undef, undef, undef, undef, undef, undef, undef], defers := [] })
      (fun x a' A B hs ho => by obtain ⟨b, hb, hB, ha⟩ := hs; exact ⟨b, hb, hB.only ho (by omega), ha⟩)
      ?assign2 ?body2 ?done2 ?stop2
    case assign2 =>
      rintro l0 Wa K hx hsz hK
      obtain ⟨y, hy⟩ := HV8.out l0 (by simpa using hx)
      obtain ⟨st, val, dead⟩ := l0
      simp only at hy
      subst hy
      simp only [Cs.linkEnc, Lk.cells] at hK ⊢
      gi_wp2
      exact hK _ _ ((Only.refl _ _).alloc _) ⟨_, hsz, Blk.new _ _ _, rfl⟩
    case body2 =>
      rintro E pre l0 a' Wb _ hE hEW hpre ⟨_, hold, hDb⟩ ⟨b, hb, hB, rfl⟩
      have hl0 : ls'.reverse[pre.length]? = some l0 := by
        obtain ⟨r, hr⟩ := hpre
        rw [← hr, List.append_assoc]
        simp
      have hbnd : pre.length < ls'.length := by have := (List.getElem?_eq_some_iff.1 hl0).1; rwa [HLN8.out] at this
      obtain ⟨y, hy0⟩ := HV8.out l0 (by have := List.mem_of_getElem? hl0; simpa using this)
      obtain ⟨g, hag, hg, hrow⟩ := rev_form hold.row (fun l hl => HV8.out l (by simpa using hl)) hl0
      subst hag
      obtain ⟨y', hy', f0, f1, f2⟩ := hrow pre.length l0 hl0
      obtain rfl : y = y' := by rw [hy0] at hy'; injection hy'
      have c12 := (Kc.get hold.cells 0 rfl).cellv 0 rfl
      have ca := hold.count.cellv 0 rfl
      have cf := hold.count.free 0
      obtain ⟨st, val, dead⟩ := l0
      simp only at hy0 f0 f1 f2
      subst hy0
      have b0 : Wb.cell? ⟨b, 0, none⟩ = some (.int .i64 st) := hB.cellv 0 rfl
      have b1 : Wb.cell? ⟨b, 1, none⟩ = some (.string y) := hB.cellv 1 rfl
      have b2 : Wb.cell? ⟨b, 2, none⟩ = some (.bool dead) := hB.cellv 2 rfl
      have hge : decide ((ls'.length : Int) ≤ (pre.length : Int)) = false := decide_eq_false (by omega)
      have hge2 : decide (ls'.length ≤ pre.length) = false := decide_eq_false (by omega)
      have HOLDB := Lib.hid hold
      have HDB := Lib.hid hDb
      clear hrow hy' hold hl0 hpre hB hDb A0 hfn
      gi_wp2_with fail
      refine wpIn_region_quiet_round (by kernel_rfl) (by kernel_rfl) (by kernel_rfl) ?_
      repeat (gi_big_quiet_step (fail))
      refine wpQuietIn_nil ?_
      intro _ hw'
      obtain ⟨nq, hw''⟩ := hw'
      subst hw''
      gi_wp2_with fail
      refine ⟨Only.put (S := Theirs W8.heap.size E NoneOf) ((Only.refl _ Wb).drewN nq) (.inl (.inl ⟨HLT8.out.2.1, fun h => h⟩)) _, by omega, ?_, ?_⟩
      · have e : ((pre ++ [(⟨st, .string y, dead⟩ : Lk)]).length : Int) = (pre.length : Int) + 1 := by simp
        rw [e]
        exact (HOLDB.out.keep ((Only.refl NoneOf Wb).drewN nq)).put _
      · rw [Below.heap_setCell _ ⟨ba, 0, none⟩ _ W4.heap.size (by show W4.heap.size ≠ ba; omega)]
        exact HDB.out
    case done2 =>
      rintro E We hE ⟨_, hold, hDe⟩ hD2
      have ca : We.cell? ⟨ba, 0, none⟩ = some (.int .i64 ls'.length) := by rw [← HLN8.out]; exact hold.count.cellv 0 rfl
      have c12 := (Kc.get hold.cells 0 rfl).cellv 0 rfl
      have HOLDE := Lib.hid hold
      have HDE := Lib.hid hDe
      have HD2 := Lib.hid hD2
      clear hold hDe hD2
      gi_wp2_with fail
      refine ⟨trivial, (callsIn_wide.2 (Cs.awake_any We)).mono ?_⟩
      rintro e w9 ⟨rfl, ho9⟩
      have HOLD9 := Lib.hid (HOLDE.out.keep ho9)
      have c6 := (Kc.get HOLD9.out.cells 4 (by rw [← HCS.out]; rfl)).cellv 0 rfl
      have cf6 := (Kc.get HOLD9.out.cells 4 (by rw [← HCS.out]; rfl)).free 0
      have HO9 := Lib.hid ho9
      clear ca c12 ho9
      gi_wp2_with fail
      have K6 := (Kc.get HOLD9.out.cells 4 (by rw [← HCS.out]; rfl)).put 0 (.bool true)
      have hs8 := HLT8.out.2.2.2.1
      have hs84 := HLT8.out.2.2.2.2.1
      have hw4 := HLT.out.2.2.2
      have hE9 := HO9.out.size
      have hlt8 := lt_of_at HD2.out
      have hb6 : w.heap.size + 1 + 1 < W4.heap.size := HLT.out.1 (w.heap.size + 1 + 1, 4, #[.bool false]) (by rw [← HCS.out]; simp)
      have hDa : (w9.setCell ⟨w.heap.size + 1 + 1, 0, none⟩ (.bool true)).heap[W8.heap.size]? = some (.deferred (some [])) := by
        rw [Below.heap_setCell _ ⟨w.heap.size + 1 + 1, 0, none⟩ _ W8.heap.size (by show W8.heap.size ≠ w.heap.size + 1 + 1; omega), HO9.out.block _ hlt8 (fun h => h)]
        exact HD2.out
      have hDb : ((w9.setCell ⟨w.heap.size + 1 + 1, 0, none⟩ (.bool true)).putObj W8.heap.size (.deferred none)).heap[W4.heap.size]? = some (.deferred (some [])) := by
        rw [World.putObj_heap_other (by omega), Below.heap_setCell _ ⟨w.heap.size + 1 + 1, 0, none⟩ _ W4.heap.size (by show W4.heap.size ≠ w.heap.size + 1 + 1; omega), HO9.out.block _ (lt_of_at HDE.out) (fun h => h)]
        exact HDE.out
      rw [hs5] at hDb
      have hO10 : Only NoneOf w (w9.setCell ⟨w.heap.size + 1 + 1, 0, none⟩ (.bool true)) := HOLD9.out.only.put (.inr (by show w.heap.size ≤ w.heap.size + 1 + 1; omega)) _
      have hO11 := Only.putObj hO10 (l := W8.heap.size) (.inr hs8) (.deferred none)
      have hO12 := Only.putObj hO11 (l := ba + 1) (.inr (by omega)) (.deferred none)
      have hP11 : Only (· = W8.heap.size) (w9.setCell ⟨w.heap.size + 1 + 1, 0, none⟩ (.bool true)) ((w9.setCell ⟨w.heap.size + 1 + 1, 0, none⟩ (.bool true)).putObj W8.heap.size (.deferred none)) := Only.putObj (S := (· = W8.heap.size)) (Only.refl _ _) (.inl rfl) _
      have hP12 : Only (· = ba + 1) ((w9.setCell ⟨w.heap.size + 1 + 1, 0, none⟩ (.bool true)).putObj W8.heap.size (.deferred none)) (((w9.setCell ⟨w.heap.size + 1 + 1, 0, none⟩ (.bool true)).putObj W8.heap.size (.deferred none)).putObj (ba + 1) (.deferred none)) := Only.putObj (S := (· = ba + 1)) (Only.refl _ _) (.inl rfl) _
      have c12' := ((K6.only hP11 (by omega)).only hP12 (by omega)).cellv 0 rfl
      refine ⟨by simp, .inl ⟨_, _, rfl, run_takeDeferred hDa, ?_⟩⟩
      refine ⟨by simp, .inl ⟨_, _, rfl, run_takeDeferred hDb, ?_⟩⟩
      refine ⟨.bool true, ?_, rfl, hO12⟩
      simp [results, Try.results13, go_sem, c12']
    case stop2 =>
      rintro E cd pre Wd hE hpre hs hD
      exact hs.elim
  case stop =>
    rintro E cd pre Wd hE hpre hs hD
    exact hs.elim

end Rf
end Go.Proofs.Ytkfihfipnbbfcaa
