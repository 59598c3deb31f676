/-
  Layer 14: what a store does, over the versions that came.
-/
import Derived.Test.YtnonnencdhogiaaS17
import Derived.Test.YtnonnencdhogiaaS8
import Derived.Test.YtnonnencdhogiaaS19
namespace Go.Proofs.Ytnonnencdhogiaa
open Go.RowKit

abbrev NMAX : Nat := 2513169434916
/-- the store s holds what is left of the versions that came; T are the blocks that it turns, U some that are not its; N bounds what came -/
def StoR (w : World) (s : Nat) (T U : Nat → Prop) (R : List KV) (N : Nat) : Prop :=
  ∃ m n D C, Sto w s m n D C (liveR R) (verR R) U ∧ ((∀ k, T k ↔ Ter s m C k) ∧ (∀ k, U k → k < w.heap.size ∧ ¬ T k)) ∧ GoodR R ∧ n ≤ N ∧ R.length ≤ N

theorem wgt_bound {R : List KV} (h : GoodR R) (k : List UInt8) : 0 ≤ wgt (keyB k) (verR R (keyB k)) ∧ wgt (keyB k) (verR R (keyB k)) ≤ 4351 := by
  unfold wgt
  cases hl : (verR R (keyB k)).getLast? with
  | none => simp
  | some x =>
    have hx := verR_mem.1 (List.mem_of_getLast? hl)
    have h1 := h.key _ hx
    have h2 := h.bs _ hx
    simp only at h1 h2 ⊢
    split <;> omega
theorem sumZ_bound (ks : List (List UInt8)) (f : List UInt8 → Int) (h : ∀ k ∈ ks, 0 ≤ f k ∧ f k ≤ 4351) : 0 ≤ sumZ ks f ∧ sumZ ks f ≤ 4351 * ks.length := by
  induction ks with
  | nil => simp [sumZ]
  | cons a ks ih =>
    have h1 := ih fun k hk => h k (by simp [hk])
    have h2 := h a (by simp)
    have e : sumZ (a :: ks) f = f a + sumZ ks f := rfl
    rw [e, List.length_cons]
    omega
theorem dedup_length : ∀ (l : List (List UInt8)), (dedup l).length ≤ l.length
  | [] => Nat.le_refl _
  | [_] => Nat.le_refl _
  | x :: y :: ls => by
    unfold dedup
    have := dedup_length (y :: ls)
    split
    · simp only [List.length_cons] at this ⊢; omega
    · simp only [List.length_cons] at this ⊢; omega
theorem keysR_length (R : List KV) : (keysR R).length ≤ R.length := by
  have := dedup_length ((R.map fun p => p.1.data.toList).mergeSort leB)
  rw [List.length_mergeSort, List.length_map] at this
  exact this
theorem liveR_bound {R : List KV} (h : GoodR R) : 0 ≤ liveR R ∧ liveR R ≤ 4351 * R.length := by
  have := sumZ_bound (keysR R) _ (fun k _ => wgt_bound h k)
  have h2 := keysR_length R
  unfold liveR
  omega

theorem Sto.keysR {w : World} {s m n : Nat} {D : MD} {C : ByteArray → Option Ch} {live : Int} {R : List KV} {U : Nat → Prop} (h : Sto w s m n D C live (verR R) U) (hg : GoodR R) : sortedKeys D = keysR R := by
  unfold sortedKeys
  refine sorted_unique _ _ ?_ (keysR_sorted R) fun k => ?_
  · have h1 := List.pairwise_mergeSort leB_trans leB_total (strKeys D)
    have h2 : ((strKeys D).mergeSort leB).Nodup := (List.mergeSort_perm _ _).nodup_iff.2 h.is.nodup
    refine (h1.and h2).imp fun {a b} ⟨ha, hb⟩ => ?_
    simp only [leB, decide_eq_true_eq] at ha
    exact (List.le_iff_lt_or_eq.1 ha).resolve_right hb
  · rw [List.mem_mergeSort, h.is.key_iff, keysR_mem, ← verR_ne]
    constructor
    · rintro ⟨_, hc⟩
      obtain ⟨c, hc⟩ := Option.ne_none_iff_exists'.1 hc
      exact h.has _ c hc
    · intro hv
      refine ⟨?_, fun hc => hv (h.nov _ hc)⟩
      obtain ⟨x, hx⟩ := verR_ne.1 hv
      have := (hg.key _ hx).2
      simp only [ByteArray.size, List.size_toArray] at this
      unfold maxLen
      omega
theorem Sto.fewR {w : World} {s m n : Nat} {D : MD} {C : ByteArray → Option Ch} {live : Int} {R : List KV} {U : Nat → Prop} (h : Sto w s m n D C live (verR R) U) (hg : GoodR R) : Go.Maps.size D ≤ R.length := by
  rw [← sorted_len, h.keysR hg]
  exact keysR_length R

theorem StoR.keep {w w' : World} {s N : Nat} {T U : Nat → Prop} {R : List KV} (h : StoR w s T U R N) (ho : Only NoneOf w w') : StoR w' s T U R N := by
  obtain ⟨m, n, D, C, h1, ⟨h2, h2'⟩, h3⟩ := h
  exact ⟨m, n, D, C, h1.keep ho, ⟨h2, fun k hk => ⟨Nat.lt_of_lt_of_le (h2' k hk).1 ho.size, (h2' k hk).2⟩⟩, h3⟩
theorem StoR.good {w : World} {s N : Nat} {T U : Nat → Prop} {R : List KV} (h : StoR w s T U R N) : GoodR R := by
  obtain ⟨m, n, D, C, h1, h2, h3, _⟩ := h
  exact h3
theorem StoR.lt {w : World} {s N : Nat} {T U : Nat → Prop} {R : List KV} (h : StoR w s T U R N) {k : Nat} (hk : T k) : k < w.heap.size := by
  obtain ⟨m, n, D, C, h1, h2, h3, _⟩ := h
  exact h1.is.ter_lt ((h2.1 k).1 hk)
theorem StoR.ult {w : World} {s N : Nat} {T U : Nat → Prop} {R : List KV} (h : StoR w s T U R N) {k : Nat} (hk : U k) : k < w.heap.size := by
  obtain ⟨m, n, D, C, h1, h2, h3, _⟩ := h
  exact (h2.2 k hk).1
theorem StoR.at {w : World} {s N : Nat} {T U : Nat → Prop} {R : List KV} (h : StoR w s T U R N) : s < w.heap.size := by
  obtain ⟨m, n, D, C, h1, h2, h3, _⟩ := h
  exact h1.is.blk.lt

theorem liveR_nil : liveR [] = 0 := by simp [liveR, keysR, dedup, sumZ]
set_option maxHeartbeats 400000 in
theorem newR (w : World) (U : Nat → Prop) (hU : ∀ k, U k → k < w.heap.size) : Calls Try.prog 29 #[] w fun e w' => e = .returned (.pointer (some ⟨w.heap.size + 1, 0, none⟩)) ∧ ∃ T, StoR w' (w.heap.size + 1) T U [] 0 ∧ Only NoneOf w w' ∧ ∀ k, T k → w.heap.size ≤ k := by
  refine (new_is w).mono ?_
  rintro e w' ⟨rfl, h, ho⟩
  have hT : ∀ k, Ter (w.heap.size + 1) w.heap.size (fun _ => none) k → w.heap.size ≤ k := fun k hk => by
    rcases hk with rfl | rfl | ⟨_, c, hc, _⟩
    · omega
    · omega
    · cases hc
  refine ⟨rfl, Ter (w.heap.size + 1) w.heap.size (fun _ => none), ⟨w.heap.size, 0, _, _, ⟨by rw [liveR_nil]; exact h, fun _ _ hc => (by cases hc), fun _ _ hc => (by cases hc), fun _ _ => rfl, fun _ _ hc => (by cases hc)⟩, ⟨fun _ => Iff.rfl, fun k hk => ⟨Nat.lt_of_lt_of_le (hU k hk) ho.size, fun ht => by have := hU k hk; have := hT k ht; omega⟩⟩, GoodR.nil, Nat.le_refl _, Nat.le_refl _⟩, ho, hT⟩

/-- Apply's answer -/
def codeR (R : List KV) (key : ByteArray) (x : Ver) : Int := applyC key x.bs.length x.st x.dead (verR R key)
/-- what came, behind it -/
def afterR (R : List KV) (key : ByteArray) (x : Ver) : List KV := if codeR R key x = 0 then R ++ [(key, x)] else R

theorem may_ok {key : ByteArray} {n : Nat} {st : Int} {dead : Bool} (h : mayI key.size n st dead = 0) : 1 ≤ key.size ∧ key.size ≤ 255 ∧ n ≤ 4096 ∧ (dead = true → n = 0) ∧ 0 ≤ st ∧ st ≤ 4611686018427387904 := by
  unfold mayI at h
  split at h
  · cases h
  · split at h
    · cases h
    · split at h
      · cases h
      · rename_i h1 h2 h3
        simp only [not_or, not_and] at h1 h2 h3
        refine ⟨by omega, by omega, by omega, fun hd => ?_, by omega, by omega⟩
        have := h2.2 hd
        omega

theorem wgt_upd (R : List KV) (key : ByteArray) (x : Ver) : upd (verR R) key (verR R key ++ [x]) = verR (R ++ [(key, x)]) := by
  funext k
  unfold upd
  rw [verR_append, verR_one]
  by_cases h : k = key
  · subst h; simp
  · rw [if_neg h, if_neg (Ne.symm h), List.append_nil]

theorem applyR (w : World) (s N : Nat) (T U : Nat → Prop) (R : List KV) (h : StoR w s T U R N) (hN : N < NMAX) (key : ByteArray) (st : Int) (A : Option Addr) (nn cc : Nat) (dead : Bool) (bs : List UInt8) (hnn : bs.length = nn) (hby : BytesAt w A bs) :
    Calls Try.prog 21 #[.pointer (some ⟨s, 0, none⟩), .agg (verC key st (.slice A nn cc) dead)] w fun e w' =>
      e = .returned (.int .i64 (codeR R key ⟨st, bs, dead⟩)) ∧ ∃ T', StoR w' s T' U (afterR R key ⟨st, bs, dead⟩) (N + 1) ∧ Only T w w' ∧ ∀ k, T' k → T k ∨ w.heap.size ≤ k := by
  obtain ⟨m, n, D, C, h1, h2, h3, h4, h5⟩ := h
  have hsame : ∀ w', Only NoneOf w w' → ∃ T', StoR w' s T' U R (N + 1) ∧ Only T w w' ∧ ∀ k, T' k → T k ∨ w.heap.size ≤ k := fun w' ho =>
    ⟨T, ⟨m, n, D, C, h1.keep ho, ⟨h2.1, fun k hk => ⟨Nat.lt_of_lt_of_le (h2.2 k hk).1 ho.size, (h2.2 k hk).2⟩⟩, h3, by omega, by omega⟩, ho.mono fun _ _ h => h.elim, fun k hk => .inl hk⟩
  by_cases hmay : mayI key.size nn st dead = 0
  · have hc : codeR R key ⟨st, bs, dead⟩ = match (verR R key).getLast? with | none => 0 | some x => if st ≤ x.st then 130 else 0 := by
      unfold codeR applyC
      simp only [hnn]
      rw [if_neg (fun hh => hh hmay)]
      cases (verR R key).getLast? <;> rfl
    obtain ⟨m1, m2, m3, m4, m5, m6⟩ := may_ok hmay
    have hbs : ∀ x ∈ verR R key, x.bs.length ≤ 4096 := fun x hx => h3.bs _ (verR_mem.1 hx)
    have hok : (∀ x ∈ verR R key, x.st < st) → codeR R key ⟨st, bs, dead⟩ = 0 → Calls Try.prog 21 #[.pointer (some ⟨s, 0, none⟩), .agg (verC key st (.slice A nn cc) dead)] w fun e w' =>
      e = .returned (.int .i64 (codeR R key ⟨st, bs, dead⟩)) ∧ ∃ T', StoR w' s T' U (afterR R key ⟨st, bs, dead⟩) (N + 1) ∧ Only T w w' ∧ ∀ k, T' k → T k ∨ w.heap.size ≤ k := fun hnew hz => by
      have hlen : (verR R key).length ≤ R.length := by unfold verR; rw [List.length_map]; exact List.length_filter_le _ _
      have hlb := liveR_bound h3
      unfold NMAX at hN
      refine (apply_ok w s m n D C (liveR R) (verR R) (fun k hk => (h2.2 k hk).1) key st A nn cc dead bs hnn hby hmay h1 hbs hnew (by omega) (by omega) (by omega) m2 m3 m5).mono ?_
      rintro e w' ⟨rfl, D', C', hs, ho, hk⟩
      rw [hz]
      unfold afterR
      rw [if_pos hz]
      have hk2 : ∀ k, Ter s m C' k → T k ∨ w.heap.size ≤ k := fun k hk' => by
        rcases hk k hk' with h | h
        · exact .inl ((h2.1 k).2 h)
        · exact .inr h
      refine ⟨rfl, Ter s m C', ⟨m, n + 1, D', C', ?_, ⟨fun _ => Iff.rfl, fun k hu => ⟨Nat.lt_of_lt_of_le (h2.2 k hu).1 ho.size, fun ht => by
        rcases hk2 k ht with h | h
        · exact (h2.2 k hu).2 h
        · have := (h2.2 k hu).1; omega⟩⟩, h3.snoc ⟨m1, m2⟩ (by simp only; omega) ⟨m5, m6⟩ hnew, by omega, by simp; omega⟩, ho.mono fun k _ hk' => (h2.1 k).2 hk', hk2⟩
      rw [liveR_snoc, ← wgt_upd]
      exact hs
    cases hl : (verR R key).getLast? with
    | none =>
      rw [List.getLast?_eq_none_iff] at hl
      exact hok (fun x hx => by rw [hl] at hx; cases hx) (by rw [hc, hl]; rfl)
    | some x =>
      obtain ⟨xs, hxs⟩ := List.getLast?_eq_some_iff.1 hl
      by_cases hle : st ≤ x.st
      · have hz : codeR R key ⟨st, bs, dead⟩ = 130 := by rw [hc, hl]; simp [hle]
        refine (apply_old w s m n D C (liveR R) (verR R) key st A nn cc dead bs hnn hby hmay h1 hbs xs x hxs hle m2 m3 m5).mono ?_
        rintro e w' ⟨rfl, ho⟩
        unfold afterR
        rw [hz, if_neg (by decide)]
        exact ⟨rfl, hsame w' ho⟩
      · refine hok (fun y hy => ?_) (by rw [hc, hl]; simp [hle])
        have hr := h3.rise key
        rw [hxs] at hy hr
        obtain ⟨_, _, h6⟩ := List.pairwise_append.1 hr
        rcases List.mem_append.1 hy with hy | hy
        · have := h6 y hy x (by simp); omega
        · obtain rfl : y = x := by simpa using hy
          omega
  · have hz : codeR R key ⟨st, bs, dead⟩ = mayI key.size nn st dead := by
      unfold codeR applyC
      simp only [hnn]
      rw [if_pos hmay]
    refine (apply_bad w s key st A nn cc dead hmay).mono ?_
    rintro e w' ⟨rfl, ho⟩
    unfold afterR
    rw [hz, if_neg hmay]
    exact ⟨rfl, hsame w' ho⟩

theorem getR (w : World) (s N : Nat) (T U : Nat → Prop) (R : List KV) (h : StoR w s T U R N) (key : ByteArray) (st : Int) (hk : key.size ≤ maxLen) :
    Calls Try.prog 23 #[.pointer (some ⟨s, 0, none⟩), .string key, .int .i64 st] w (GetIs (found (verR R key) st) w) := by
  obtain ⟨m, n, D, C, h1, h2, h3, h4, h5⟩ := h
  exact get_is w s m n D C _ (verR R) key st hk h1 (fun x hx => h3.bs _ (verR_mem.1 hx))

/-- Newest's answer -/
def newestT (xs : List Ver) : Value := match xs.getLast? with
  | none => .tuple #[.int .i64 0, .bool false]
  | some x => .tuple #[.int .i64 x.st, .bool true]
theorem newestR (w : World) (s N : Nat) (T U : Nat → Prop) (R : List KV) (h : StoR w s T U R N) (key : ByteArray) (hk : key.size ≤ maxLen) :
    Calls Try.prog 26 #[.pointer (some ⟨s, 0, none⟩), .string key] w fun e w' => e = .returned (newestT (verR R key)) ∧ Only NoneOf w w' := by
  obtain ⟨m, n, D, C, h1, h2, h3, h4, h5⟩ := h
  exact newest_is w s m n D C _ (verR R) key hk h1

theorem liveIs (w : World) (s N : Nat) (T U : Nat → Prop) (R : List KV) (h : StoR w s T U R N) : Calls Try.prog 34 #[.pointer (some ⟨s, 0, none⟩)] w fun e w' => e = .returned (.int .i64 (liveR R)) ∧ w = w' := by
  obtain ⟨m, n, D, C, h1, h2, h3, h4, h5⟩ := h
  exact live_is w s m n D C _ h1.is

/-- what a Scan tells -/
def scanR (R : List KV) (fr tt : ByteArray) (st : Int) : List (ByteArray × List UInt8) := (keysR R).filterMap (scanKey (verR R) fr tt st)
theorem scanIter (W : World) (b s N : Nat) (T U : Nat → Prop) (R : List KV) (fr tt : ByteArray) (st : Int) (h : StoR W s T U R N) (hN : N ≤ NMAX)
    (hb0 : W.cell? ⟨b, 0, none⟩ = some (.pointer (some ⟨s, 0, none⟩))) (hb1 : W.cell? ⟨b + 1, 0, none⟩ = some (.string fr)) (hb2 : W.cell? ⟨b + 2, 0, none⟩ = some (.string tt)) (hb3 : W.cell? ⟨b + 3, 0, none⟩ = some (.int .i64 st)) :
    IterM Try.prog 56 (scanFn b) PairEnc (scanR R fr tt st) NoneOf W := by
  obtain ⟨m, n, D, C, h1, h2, h3, h4, h5⟩ := h
  have := h1.fewR h3
  have := scan_iter W b s m n D C _ (verR R) fr tt st h1 (fun key x hx => h3.bs _ (verR_mem.1 hx)) (by unfold NMAX at hN; omega) hb0 hb1 hb2 hb3
  unfold scanOf at this
  rw [h1.keysR h3] at this
  exact this

/-- what Versions tells -/
def versR (R : List KV) : List KV := (keysR R).flatMap fun k => (verR R (keyB k)).map fun x => (keyB k, x)
theorem versR_length (R : List KV) : (versR R).length = R.length := by
  have h := sumN_len R (keysR R) (sorted_nodup (keysR_sorted _)) keysR_all
  rw [← h]
  unfold versR sumN
  rw [List.length_flatMap]
  simp
theorem versionsR (w : World) (s N : Nat) (T U : Nat → Prop) (R : List KV) (h : StoR w s T U R N) (hN : N ≤ NMAX) : Calls Try.prog 25 #[.pointer (some ⟨s, 0, none⟩)] w (VersPost (versR R) w) := by
  obtain ⟨m, n, D, C, h1, h2, h3, h4, h5⟩ := h
  have hf := h1.fewR h3
  have e : versOf D (verR R) = versR R := by unfold versOf; rw [h1.keysR h3]; rfl
  have hl := versR_length R
  rw [← e]
  exact versions_is w s m n D C _ (verR R) h1 (fun key x hx => h3.bs _ (verR_mem.1 hx)) (by unfold NMAX at hN; omega) (by rw [e, hl]; unfold NMAX at hN; omega)

theorem sumLeft_keys (f : Lit → Nat) (g : List UInt8 → Nat) (hfg : ∀ k, f (.string k) = g k) {w : World} {m n : Nat} {es : List (Lit × MD)} (h : w.ownsMap Try.prog 9 RP m n (.map es)) : sumLeft f es (fun _ => true) = sumN (strKeys (.map es : MD)) g := by
  obtain ⟨es', hD, _, hk⟩ := map_keys h
  injection hD with hD
  subst hD
  unfold sumLeft sumN strKeys
  rw [List.filter_eq_self.2 (fun _ _ => rfl), List.map_map]
  congr 1
  refine List.map_congr_left fun p hp => ?_
  obtain ⟨bs, h1, _⟩ := hk p hp
  simp only [Function.comp, h1, hfg, strOf]

theorem lenR (w : World) (s N : Nat) (T U : Nat → Prop) (R : List KV) (h : StoR w s T U R N) (hN : N ≤ NMAX) :
    Calls Try.prog 19 #[.pointer (some ⟨s, 0, none⟩)] w fun e w' => e = .returned (.tuple #[.int .i64 ((keysR R).length : Nat), .int .i64 (R.length : Nat)]) ∧ Only NoneOf w w' := by
  obtain ⟨m, n, D, C, h1, h2, h3, h4, h5⟩ := h
  obtain ⟨es, rfl, hpw, _⟩ := map_keys h1.is.map
  have hk := h1.keysR h3
  have hp : (strKeys (.map es : MD)).Perm (keysR R) := by rw [← hk]; exact (List.mergeSort_perm _ _).symm
  have hs : sumLeft (lensOf (verR R)) es (fun _ => true) = R.length := by
    rw [sumLeft_keys (lensOf (verR R)) (fun k => (verR R (keyB k)).length) (fun _ => rfl) h1.is.map, sumN_perm hp, sumN_len R _ (sorted_nodup (keysR_sorted _)) keysR_all]
  have hl : es.length = (keysR R).length := by rw [← hp.length_eq]; simp [strKeys]
  have := len_is w s m n _ C _ (verR R) es h1 rfl hpw (by rw [hs]; unfold NMAX at hN; omega)
  rw [hs, hl] at this
  exact this

theorem vacuumR (w : World) (s N : Nat) (T U : Nat → Prop) (R : List KV) (h : StoR w s T U R N) (hN : N ≤ NMAX) (hz : Int) :
    Calls Try.prog 20 #[.pointer (some ⟨s, 0, none⟩), .int .i64 hz] w fun e w' => e = .returned (.int .i64 ((R.length - (vacR R hz).length : Nat) : Int)) ∧ ∃ T', StoR w' s T' U (vacR R hz) N ∧ Only T w w' ∧ ∀ k, T' k → T k ∨ w.heap.size ≤ k := by
  obtain ⟨m, n, D, C, h1, h2, h3, h4, h5⟩ := h
  obtain ⟨es, rfl, hpw, _⟩ := map_keys h1.is.map
  have hk := h1.keysR h3
  have hp : (strKeys (.map es : MD)).Perm (keysR R) := by rw [← hk]; exact (List.mergeSort_perm _ _).symm
  have hg := gone_count h3 hz
  have hs : sumLeft (goneOf (verR R) hz) es (fun _ => true) = R.length - (vacR R hz).length := by
    rw [sumLeft_keys (goneOf (verR R) hz) (fun k => ((verR R (keyB k)).takeWhile fun x => decide (x.st ≤ hz)).length - 1) (fun _ => rfl) h1.is.map, sumN_perm hp]
    omega
  have hle : (vacR R hz).length ≤ R.length := List.length_filter_le _ _
  have hv := vacuum_is w s m n _ C _ (verR R) hz es h1 rfl hpw (by rw [hs]; unfold NMAX at hN; omega)
  rw [hs] at hv
  refine hv.mono ?_
  rintro e w' ⟨rfl, C', V', hs', hV', hVb, ho, hk'⟩
  have hnil : ∀ key : ByteArray, ¬ key.size ≤ maxLen → verR R key = [] := fun key hl => by
    cases hc : verR R key with
    | nil => rfl
    | cons y ys =>
      obtain ⟨z, hz⟩ := verR_ne.1 (show verR R key ≠ [] by rw [hc]; simp)
      have := (h3.key _ hz).2
      unfold maxLen at hl
      simp only at this
      omega
  have hVV : V' = verR (vacR R hz) := by
    funext key
    rw [verR_vac h3]
    by_cases hl : key.size ≤ maxLen
    · exact hV' key hl
    · rw [hVb key hl, hnil key hl]
      rfl
  rw [hVV] at hs'
  have hk2 : ∀ k, Ter s m C' k → T k ∨ w.heap.size ≤ k := fun k hk => by
    rcases hk' k hk with h | h
    · exact .inl ((h2.1 k).2 h)
    · exact .inr h
  exact ⟨rfl, Ter s m C', ⟨m, n, _, C', by rw [liveR_vac h3]; exact hs', ⟨fun _ => Iff.rfl, fun k hu => ⟨Nat.lt_of_lt_of_le (h2.2 k hu).1 ho.size, fun ht => by
    rcases hk2 k ht with h | h
    · exact (h2.2 k hu).2 h
    · have := (h2.2 k hu).1; omega⟩⟩, h3.vac hz, h4, by omega⟩, ho.mono fun k _ hk => (h2.1 k).2 hk, hk2⟩

theorem Holds.widen {w : World} {T T' : Nat → Prop} {l : Lk} {x : Ver} (h : Holds w T l x) (hT : ∀ g, g < w.heap.size → T' g → T g) : Holds w T' l x := by
  obtain ⟨h1, h2, A, c, h3, h4, h5⟩ := h
  refine ⟨h1, h2, A, c, h3, h4, fun hne g off hA ht => ?_⟩
  have h0 : x.bs[0]? = some (x.bs[0]'(List.length_pos_iff.2 hne)) := List.getElem?_eq_getElem _
  obtain ⟨g', off', hA', hg', _⟩ := h4 0 _ h0
  rw [hA] at hA'
  simp only [Option.some.injEq, Addr.mk.injEq, and_true] at hA'
  obtain ⟨rfl, rfl⟩ := hA'
  exact h5 hne g off hA (hT g hg' ht)
/-- What another one turns. -/
theorem StoR.other {w w' : World} {s N : Nat} {T U U' S : Nat → Prop} {R : List KV} (h : StoR w s T U R N) (ho : Only S w w') (hS : ∀ k, S k → U k) (hU : ∀ k, U' k → k < w'.heap.size ∧ (U k ∨ w.heap.size ≤ k)) : StoR w' s T U' R N := by
  obtain ⟨m, n, D, C, h1, ⟨h2, h2'⟩, h3⟩ := h
  have hTS : ∀ k, Ter s m C k → ¬ S k := fun k hk hs => (h2' k (hS k hs)).2 ((h2 k).2 hk)
  refine ⟨m, n, D, C, ⟨⟨h1.is.blk.only ho (hTS s (.inl rfl)), map_only h1.is.map ho (hTS m (.inr (.inl rfl))), h1.is.keys, fun key c hc => (h1.is.chains key c hc).only ho (fun k hk => hTS k (.inr (.inr ⟨key, c, hc, hk⟩))), h1.is.apart, h1.is.far, h1.is.sm⟩,
    h1.len, fun key c hc i l x hl hx => ?_, h1.nov, h1.has⟩, ⟨h2, fun k hk => ⟨(hU k hk).1, fun ht => ?_⟩⟩, h3⟩
  · have hh := h1.ver key c hc i l x hl hx
    exact hh.turn ho (fun g hg hn hs => hn (.inr (hS g hs))) (fun g hg hn ht => hn (by
      rcases ht with ht | ht
      · exact .inl ht
      · exact .inr ((hU g ht).2.resolve_right (by omega))))
  · rcases (hU k hk).2 with h | h
    · exact (h2' k h).2 ht
    · have := h1.is.ter_lt ((h2 k).1 ht)
      omega

end Go.Proofs.Ytnonnencdhogiaa
