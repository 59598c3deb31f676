/-
  Layer 14: the store's law, plain: Vacuum. No program here.
-/
import Derived.Test.YtnonnencdhogiaaS18
import Derived.Test.YtnonnencdhogiaaS10
namespace Go.Proofs.Ytnonnencdhogiaa

/-- does Vacuum keep it? -/
def keeps (R : List KV) (hz : Int) (p : KV) : Bool := decide (hz < p.2.st) || (match newest (verR R p.1) hz with | some b => decide (b.st = p.2.st) | none => false)
def vacR (R : List KV) (hz : Int) : List KV := R.filter (keeps R hz)

theorem kept_filter (hz : Int) : ∀ (xs : List Ver), xs.Pairwise (fun a b => a.st < b.st) →
    xs.filter (fun x => decide (hz < x.st) || (match newest xs hz with | some b => decide (b.st = x.st) | none => false)) = keptV xs hz := by
  intro xs h
  have hsplit : xs = (xs.takeWhile fun x => decide (x.st ≤ hz)) ++ (xs.dropWhile fun x => decide (x.st ≤ hz)) := List.takeWhile_append_dropWhile.symm
  have hd : ∀ x ∈ (xs.dropWhile fun x => decide (x.st ≤ hz)), hz < x.st := by
    clear hsplit
    induction xs with
    | nil => intro x hx; simp at hx
    | cons y ys ih =>
      intro x hx
      obtain ⟨h1, h2⟩ := List.pairwise_cons.1 h
      rw [List.dropWhile_cons] at hx
      split at hx
      · exact ih h2 x hx
      · rename_i hy
        simp only [decide_eq_true_eq] at hy
        rcases List.mem_cons.1 hx with rfl | hx
        · omega
        · have := h1 x hx; omega
  have ht : ∀ x ∈ (xs.takeWhile fun x => decide (x.st ≤ hz)), x.st ≤ hz := fun x hx => by
    have := List.all_takeWhile (p := fun x : Ver => decide (x.st ≤ hz)) (l := xs)
    have := List.all_eq_true.1 this x hx
    simpa using this
  unfold keptV newest
  generalize hT : (xs.takeWhile fun x => decide (x.st ≤ hz)) = T at *
  generalize (xs.dropWhile fun x => decide (x.st ≤ hz)) = Dr at *
  subst hsplit
  rw [List.filter_append]
  have hD : ∀ g : Ver → Bool, Dr.filter (fun x => decide (hz < x.st) || g x) = Dr := fun g => List.filter_eq_self.2 fun x hx => by simp [hd x hx]
  rw [hD]
  rcases List.eq_nil_or_concat T with rfl | ⟨ys, b, hb⟩
  · simp
  · rw [List.concat_eq_append] at hb
    subst hb
    have hlast : (ys ++ [b]).getLast? = some b := by simp
    rw [hlast]
    simp only [List.length_append, List.length_cons, List.length_nil, Nat.zero_add, Nat.add_sub_cancel]
    rw [List.append_assoc, List.drop_append_of_le_length (Nat.le_refl _), List.drop_length, List.nil_append, List.filter_append]
    rw [List.append_assoc] at h
    obtain ⟨_, _, h3⟩ := List.pairwise_append.1 h
    have hy : ys.filter (fun x => decide (hz < x.st) || decide (b.st = x.st)) = [] := List.filter_eq_nil_iff.2 fun x hx => by
      have h1 := ht x (by simp [hx])
      have h2 := h3 x hx b (by simp)
      simp
      omega
    rw [hy]
    simp

theorem verR_filter (R : List KV) (f : KV → Bool) (key : ByteArray) : verR (R.filter f) key = (verR R key).filter fun x => f (key, x) := by
  unfold verR
  rw [List.filter_map, List.filter_filter, List.filter_filter]
  congr 1
  refine List.filter_congr fun p _ => ?_
  obtain ⟨k, x⟩ := p
  simp only [Function.comp]
  by_cases h : k = key
  · subst h; simp
  · simp [h]

theorem verR_vac {R : List KV} (h : GoodR R) (hz : Int) (key : ByteArray) : verR (vacR R hz) key = keptV (verR R key) hz := by
  unfold vacR
  rw [verR_filter]
  exact kept_filter hz (verR R key) (h.rise key)

theorem kept_ne {xs : List Ver} (hz : Int) (h : xs ≠ []) : keptV xs hz ≠ [] := by
  unfold keptV
  intro e
  have := congrArg List.length e
  rw [List.length_drop] at this
  have h1 : (xs.takeWhile fun x => decide (x.st ≤ hz)).length ≤ xs.length := (List.takeWhile_prefix _).length_le
  have h2 := List.length_pos_iff.2 h
  simp at this
  omega
theorem kept_last {xs : List Ver} (hz : Int) : (keptV xs hz).getLast? = xs.getLast? := by
  by_cases h : xs = []
  · subst h; rfl
  · unfold keptV
    have h1 : (xs.takeWhile fun x => decide (x.st ≤ hz)).length ≤ xs.length := (List.takeWhile_prefix _).length_le
    have h2 := List.length_pos_iff.2 h
    rw [List.getLast?_drop, if_neg (by omega)]

theorem keysR_vac {R : List KV} (h : GoodR R) (hz : Int) : keysR (vacR R hz) = keysR R :=
  sorted_unique _ _ (keysR_sorted _) (keysR_sorted _) fun k => by
    rw [keysR_mem, keysR_mem, ← verR_ne, ← verR_ne, verR_vac h]
    constructor
    · intro h1 h2
      rw [h2] at h1
      exact h1 rfl
    · exact kept_ne hz

theorem liveR_vac {R : List KV} (h : GoodR R) (hz : Int) : liveR (vacR R hz) = liveR R := by
  unfold liveR
  rw [keysR_vac h]
  exact sumZ_congr fun k _ => by rw [verR_vac h]; unfold wgt; rw [kept_last]

theorem GoodR.sub {R S : List KV} (h : GoodR R) (hs : ∀ p ∈ S, p ∈ R) (hr : ∀ key, (verR S key).Sublist (verR R key)) : GoodR S :=
  ⟨fun p hp => h.key p (hs p hp), fun p hp => h.bs p (hs p hp), fun p hp => h.st p (hs p hp), fun key => (h.rise key).sublist (hr key)⟩
theorem GoodR.vac {R : List KV} (h : GoodR R) (hz : Int) : GoodR (vacR R hz) :=
  h.sub (fun p hp => (List.mem_filter.1 hp).1) fun key => by rw [verR_vac h]; exact List.drop_sublist _ _

theorem keysR_all {R : List KV} : ∀ p ∈ R, p.1.data.toList ∈ keysR R := fun p hp => keysR_mem.2 ⟨p.2, by rw [keyB_list]; exact hp⟩

/-- how many go -/
theorem gone_count {R : List KV} (h : GoodR R) (hz : Int) : sumN (keysR R) (fun k => ((verR R (keyB k)).takeWhile fun x => decide (x.st ≤ hz)).length - 1) + (vacR R hz).length = R.length := by
  have h1 := sumN_len R (keysR R) (sorted_nodup (keysR_sorted _)) keysR_all
  have h2 := sumN_len (vacR R hz) (keysR R) (sorted_nodup (keysR_sorted _)) (by rw [← keysR_vac h hz]; exact keysR_all)
  rw [← h2, ← sumN_add, ← h1]
  refine sumN_congr fun k _ => ?_
  rw [verR_vac h]
  unfold keptV
  rw [List.length_drop]
  have : ((verR R (keyB k)).takeWhile fun x => decide (x.st ≤ hz)).length ≤ (verR R (keyB k)).length := (List.takeWhile_prefix _).length_le
  omega

end Go.Proofs.Ytnonnencdhogiaa
