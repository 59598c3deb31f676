/-
  Layer 14: the store's law, plain: the versions that came, in order. No program here.
-/
import Derived.Test.YtnonnencdhogiaaS5
import Derived.Sort.KeysCollected
namespace Go.Proofs.Ytnonnencdhogiaa

abbrev KV := ByteArray × Ver
/-- a key of its bytes -/
abbrev keyB (k : List UInt8) : ByteArray := ⟨k.toArray⟩
theorem keyB_list (key : ByteArray) : keyB key.data.toList = key := by cases key; simp [keyB]
theorem keyB_inj {a b : List UInt8} (h : keyB a = keyB b) : a = b := by
  have := congrArg (fun x : ByteArray => x.data.toList) h
  simpa using this

/-- a key's versions -/
def verR (R : List KV) (key : ByteArray) : List Ver := (R.filter fun p => decide (p.1 = key)).map (·.2)
theorem verR_nil (key : ByteArray) : verR [] key = [] := rfl
theorem verR_append (R S : List KV) (key : ByteArray) : verR (R ++ S) key = verR R key ++ verR S key := by simp [verR]
theorem verR_one (key : ByteArray) (x : Ver) (k : ByteArray) : verR [(key, x)] k = if key = k then [x] else [] := by
  unfold verR
  by_cases h : key = k <;> simp [h]
theorem verR_mem {R : List KV} {key : ByteArray} {x : Ver} : x ∈ verR R key ↔ (key, x) ∈ R := by
  unfold verR
  rw [List.mem_map]
  constructor
  · rintro ⟨⟨k, y⟩, h, rfl⟩
    obtain ⟨h1, h2⟩ := List.mem_filter.1 h
    simp only [decide_eq_true_eq] at h2
    rw [← h2]
    exact h1
  · intro h
    exact ⟨(key, x), List.mem_filter.2 ⟨h, by simp⟩, rfl⟩
theorem verR_ne {R : List KV} {key : ByteArray} : verR R key ≠ [] ↔ ∃ x, (key, x) ∈ R := by
  constructor
  · intro h
    obtain ⟨x, hx⟩ := List.exists_mem_of_ne_nil _ h
    exact ⟨x, verR_mem.1 hx⟩
  · rintro ⟨x, hx⟩ h
    have := verR_mem.2 hx
    rw [h] at this
    cases this

structure GoodR (R : List KV) : Prop where
  key : ∀ p ∈ R, 1 ≤ p.1.size ∧ p.1.size ≤ 255
  bs : ∀ p ∈ R, p.2.bs.length ≤ 4096
  st : ∀ p ∈ R, 0 ≤ p.2.st ∧ p.2.st ≤ 4611686018427387904
  rise : ∀ key, (verR R key).Pairwise fun a b => a.st < b.st
theorem GoodR.nil : GoodR [] := ⟨fun _ h => (by cases h), fun _ h => (by cases h), fun _ h => (by cases h), fun _ => List.Pairwise.nil⟩
theorem GoodR.snoc {R : List KV} (h : GoodR R) {key : ByteArray} {x : Ver} (hk : 1 ≤ key.size ∧ key.size ≤ 255) (hb : x.bs.length ≤ 4096) (hs : 0 ≤ x.st ∧ x.st ≤ 4611686018427387904) (hn : ∀ y ∈ verR R key, y.st < x.st) : GoodR (R ++ [(key, x)]) := by
  refine ⟨fun p hp => ?_, fun p hp => ?_, fun p hp => ?_, fun k => ?_⟩
  · rcases List.mem_append.1 hp with hp | hp
    · exact h.key p hp
    · obtain rfl : p = (key, x) := by simpa using hp
      exact hk
  · rcases List.mem_append.1 hp with hp | hp
    · exact h.bs p hp
    · obtain rfl : p = (key, x) := by simpa using hp
      exact hb
  · rcases List.mem_append.1 hp with hp | hp
    · exact h.st p hp
    · obtain rfl : p = (key, x) := by simpa using hp
      exact hs
  · rw [verR_append, verR_one]
    by_cases e : key = k
    · rw [if_pos e, List.pairwise_append]
      exact ⟨h.rise k, List.pairwise_singleton _ _, fun a ha b hb => by
        obtain rfl : b = x := by simpa using hb
        exact hn a (e ▸ ha)⟩
    · rw [if_neg e, List.append_nil]
      exact h.rise k

/-! ### Keys -/

/-- the keys, as a sorted list tells them, each once -/
def dedup : List (List UInt8) → List (List UInt8)
  | [] => []
  | [k] => [k]
  | k :: l :: ls => if k = l then dedup (l :: ls) else k :: dedup (l :: ls)
def keysR (R : List KV) : List (List UInt8) := dedup ((R.map fun p => p.1.data.toList).mergeSort leB)

theorem dedup_mem : ∀ (l : List (List UInt8)) (k : List UInt8), k ∈ dedup l ↔ k ∈ l
  | [], _ => Iff.rfl
  | [x], _ => Iff.rfl
  | x :: y :: ls, k => by
    unfold dedup
    split
    · rename_i h
      rw [dedup_mem (y :: ls) k, h]
      simp
    · rw [List.mem_cons, dedup_mem (y :: ls) k, List.mem_cons (b := x)]
theorem leB_trans (a b c : List UInt8) (h1 : leB a b = true) (h2 : leB b c = true) : leB a c = true := by
  simp only [leB, decide_eq_true_eq] at *; exact List.le_trans h1 h2
theorem leB_total (a b : List UInt8) : (leB a b || leB b a) = true := by
  simp only [leB, Bool.or_eq_true, decide_eq_true_eq]; exact List.le_total a b
theorem dedup_sorted : ∀ (l : List (List UInt8)), l.Pairwise (fun a b => leB a b = true) → (dedup l).Pairwise (· < ·)
  | [], _ => List.Pairwise.nil
  | [x], _ => List.pairwise_singleton _ _
  | x :: y :: ls, h => by
    obtain ⟨h1, h2⟩ := List.pairwise_cons.1 h
    unfold dedup
    split
    · exact dedup_sorted (y :: ls) h2
    · rename_i hne
      refine List.pairwise_cons.2 ⟨fun z hz => ?_, dedup_sorted (y :: ls) h2⟩
      have hz' := (dedup_mem (y :: ls) z).1 hz
      have hxy : x < y := by
        have := h1 y (by simp)
        simp only [leB, decide_eq_true_eq] at this
        rcases List.le_iff_lt_or_eq.1 this with h | h
        · exact h
        · exact absurd h hne
      rcases List.mem_cons.1 hz' with rfl | hz'
      · exact hxy
      · have := (List.pairwise_cons.1 h2).1 z hz'
        simp only [leB, decide_eq_true_eq] at this
        rcases List.le_iff_lt_or_eq.1 this with h | rfl
        · exact List.lt_trans hxy h
        · exact hxy
theorem keysR_mem {R : List KV} {k : List UInt8} : k ∈ keysR R ↔ ∃ x, (keyB k, x) ∈ R := by
  unfold keysR
  rw [dedup_mem, List.mem_mergeSort, List.mem_map]
  constructor
  · rintro ⟨⟨key, x⟩, h, rfl⟩
    exact ⟨x, by rw [keyB_list]; exact h⟩
  · rintro ⟨x, h⟩
    exact ⟨_, h, by simp⟩
theorem keysR_sorted (R : List KV) : (keysR R).Pairwise (· < ·) := dedup_sorted _ (List.pairwise_mergeSort leB_trans leB_total _)
theorem sorted_unique : ∀ (l l' : List (List UInt8)), l.Pairwise (· < ·) → l'.Pairwise (· < ·) → (∀ k, k ∈ l ↔ k ∈ l') → l = l'
  | [], [], _, _, _ => rfl
  | [], y :: l', _, _, h => absurd ((h y).2 (by simp)) (by simp)
  | x :: l, [], _, _, h => absurd ((h x).1 (by simp)) (by simp)
  | x :: l, y :: l', h1, h2, h => by
    obtain ⟨a1, a2⟩ := List.pairwise_cons.1 h1
    obtain ⟨b1, b2⟩ := List.pairwise_cons.1 h2
    have hxy : x = y := by
      rcases List.mem_cons.1 ((h x).1 (by simp)) with e | hx
      · exact e
      · rcases List.mem_cons.1 ((h y).2 (by simp)) with e | hy
        · exact e.symm
        · exact absurd (List.lt_trans (a1 y hy) (b1 x hx)) (List.lt_irrefl x)
    subst hxy
    rw [sorted_unique l l' a2 b2 fun k => ?_]
    constructor
    · intro hk
      rcases List.mem_cons.1 ((h k).1 (by simp [hk])) with e | hk'
      · subst e; exact absurd (a1 k hk) (List.lt_irrefl k)
      · exact hk'
    · intro hk
      rcases List.mem_cons.1 ((h k).2 (by simp [hk])) with e | hk'
      · subst e; exact absurd (b1 k hk) (List.lt_irrefl k)
      · exact hk'
theorem sorted_nodup {l : List (List UInt8)} (h : l.Pairwise (· < ·)) : l.Nodup := h.imp fun {a b} hlt e => by subst e; exact List.lt_irrefl a hlt

/-! ### Sums over the keys -/

def sumN (ks : List (List UInt8)) (f : List UInt8 → Nat) : Nat := (ks.map f).sum
def sumZ (ks : List (List UInt8)) (f : List UInt8 → Int) : Int := ks.foldr (fun k s => f k + s) 0
theorem sumZ_perm {ks ks' : List (List UInt8)} (h : ks.Perm ks') (f : List UInt8 → Int) : sumZ ks f = sumZ ks' f := by
  induction h with
  | nil => rfl
  | cons a _ ih => simp only [sumZ, List.foldr_cons] at ih ⊢; rw [ih]
  | swap a b l => simp only [sumZ, List.foldr_cons]; omega
  | trans _ _ ih1 ih2 => exact ih1.trans ih2
theorem sumZ_congr {ks : List (List UInt8)} {f g : List UInt8 → Int} (h : ∀ k ∈ ks, f k = g k) : sumZ ks f = sumZ ks g := by
  induction ks with
  | nil => rfl
  | cons a ks ih => simp only [sumZ, List.foldr_cons] at ih ⊢; rw [h a (by simp), ih (fun k hk => h k (by simp [hk]))]
theorem sumN_add (ks : List (List UInt8)) (f g : List UInt8 → Nat) : sumN ks (fun k => f k + g k) = sumN ks f + sumN ks g := by
  induction ks with
  | nil => rfl
  | cons a ks ih => simp only [sumN, List.map_cons, List.sum_cons] at ih ⊢; rw [ih]; omega
theorem sumN_congr {ks : List (List UInt8)} {f g : List UInt8 → Nat} (h : ∀ k ∈ ks, f k = g k) : sumN ks f = sumN ks g := by
  induction ks with
  | nil => rfl
  | cons a ks ih => simp only [sumN, List.map_cons, List.sum_cons] at ih ⊢; rw [h a (by simp), ih (fun k hk => h k (by simp [hk]))]
theorem sumN_perm {ks ks' : List (List UInt8)} (h : ks.Perm ks') (f : List UInt8 → Nat) : sumN ks f = sumN ks' f := (h.map f).sum_nat
theorem sumN_one (a : List UInt8) : ∀ (ks : List (List UInt8)), ks.Nodup → a ∈ ks → sumN ks (fun k => if k = a then 1 else 0) = 1
  | [], _, h => by cases h
  | k :: ks, hn, h => by
    obtain ⟨h1, h2⟩ := List.nodup_cons.1 hn
    have e0 : sumN (k :: ks) (fun x => if x = a then 1 else 0) = (if k = a then 1 else 0) + sumN ks (fun x => if x = a then 1 else 0) := by simp [sumN]
    rw [e0]
    by_cases e : k = a
    · have : sumN ks (fun x => if x = a then 1 else 0) = sumN ks (fun _ => 0) := sumN_congr fun x hx => by rw [if_neg (fun e' => h1 (by rw [e, ← e']; exact hx))]
      rw [if_pos e, this]
      clear this e0 h1 h2 h hn
      induction ks with
      | nil => rfl
      | cons b ks ih => simp only [sumN, List.map_cons, List.sum_cons] at ih ⊢; omega
    · rw [if_neg e, sumN_one a ks h2 ((List.mem_cons.1 h).resolve_left fun e' => e e'.symm)]
/-- each version is some key's -/
theorem sumN_len : ∀ (R : List KV) (ks : List (List UInt8)), ks.Nodup → (∀ p ∈ R, p.1.data.toList ∈ ks) → sumN ks (fun k => (verR R (keyB k)).length) = R.length
  | [], ks, _, _ => by
    have : ∀ ks : List (List UInt8), sumN ks (fun k => (verR [] (keyB k)).length) = 0 := by
      intro ks
      induction ks with
      | nil => rfl
      | cons b ks ih => simp only [sumN, List.map_cons, List.sum_cons] at ih ⊢; rw [ih]; rfl
    exact this ks
  | (key, x) :: R, ks, hn, h => by
    have ih := sumN_len R ks hn (fun p hp => h p (by simp [hp]))
    have e : sumN ks (fun k => (verR ((key, x) :: R) (keyB k)).length) = sumN ks (fun k => (if k = key.data.toList then 1 else 0) + (verR R (keyB k)).length) := sumN_congr fun k _ => by
      rw [show (key, x) :: R = [(key, x)] ++ R from rfl, verR_append, verR_one, List.length_append]
      by_cases hk : key = keyB k
      · rw [if_pos hk, if_pos (by rw [hk])]
        rfl
      · rw [if_neg hk, if_neg (fun e => hk (by rw [e, keyB_list]))]
        rfl
    rw [e, sumN_add, ih, sumN_one _ ks hn (h (key, x) (by simp)), List.length_cons]
    omega

/-- the live bytes -/
def liveR (R : List KV) : Int := sumZ (keysR R) fun k => wgt (keyB k) (verR R (keyB k))

theorem perm_of_mem {l l' : List (List UInt8)} (h1 : l.Nodup) (h2 : l'.Nodup) (h : ∀ k, k ∈ l ↔ k ∈ l') : l.Perm l' := (List.perm_ext_iff_of_nodup h1 h2).2 h

theorem keysR_snoc (R : List KV) (key : ByteArray) (x : Ver) : (key.data.toList ∈ keysR R ∧ keysR (R ++ [(key, x)]) = keysR R) ∨ (key.data.toList ∉ keysR R ∧ (keysR (R ++ [(key, x)])).Perm (key.data.toList :: keysR R)) := by
  have hm : ∀ k, k ∈ keysR (R ++ [(key, x)]) ↔ k = key.data.toList ∨ k ∈ keysR R := fun k => by
    rw [keysR_mem, keysR_mem]
    constructor
    · rintro ⟨y, hy⟩
      rcases List.mem_append.1 hy with hy | hy
      · exact .inr ⟨y, hy⟩
      · have : keyB k = key := by simpa using congrArg Prod.fst (show (keyB k, y) = (key, x) by simpa using hy)
        exact .inl (by rw [← this])
    · rintro (rfl | ⟨y, hy⟩)
      · exact ⟨x, by rw [keyB_list]; simp⟩
      · exact ⟨y, by simp [hy]⟩
  by_cases hk : key.data.toList ∈ keysR R
  · refine .inl ⟨hk, sorted_unique _ _ (keysR_sorted _) (keysR_sorted _) fun k => ?_⟩
    rw [hm]
    exact ⟨fun h => h.elim (fun e => e ▸ hk) id, .inr⟩
  · refine .inr ⟨hk, perm_of_mem (sorted_nodup (keysR_sorted _)) (List.nodup_cons.2 ⟨hk, sorted_nodup (keysR_sorted _)⟩) fun k => ?_⟩
    rw [hm, List.mem_cons]

theorem sumZ_upd (ks : List (List UInt8)) (a : List UInt8) (hn : ks.Nodup) (ha : a ∈ ks) (f g : List UInt8 → Int) (h : ∀ k ∈ ks, k ≠ a → f k = g k) : sumZ ks g = sumZ ks f + (g a - f a) := by
  induction ks with
  | nil => cases ha
  | cons k ks ih =>
    obtain ⟨h1, h2⟩ := List.nodup_cons.1 hn
    have e : ∀ f : List UInt8 → Int, sumZ (k :: ks) f = f k + sumZ ks f := fun f => rfl
    rw [e, e]
    rcases List.mem_cons.1 ha with rfl | ha'
    · rw [sumZ_congr (f := f) (g := g) fun x hx => h x (by simp [hx]) fun e' => h1 (e' ▸ hx)]
      omega
    · rw [ih h2 ha' fun x hx hne => h x (by simp [hx]) hne, h k (by simp) fun e' => h1 (e' ▸ ha')]
      omega

/-- a version more: the live bytes -/
theorem liveR_snoc (R : List KV) (key : ByteArray) (x : Ver) : liveR (R ++ [(key, x)]) = liveR R + (wgt key (verR R key ++ [x]) - wgt key (verR R key)) := by
  have hv : ∀ k, keyB k ≠ key → verR (R ++ [(key, x)]) (keyB k) = verR R (keyB k) := fun k hk => by
    rw [verR_append, verR_one, if_neg (Ne.symm hk), List.append_nil]
  have hs : verR (R ++ [(key, x)]) key = verR R key ++ [x] := by rw [verR_append, verR_one, if_pos rfl]
  have hne : ∀ k : List UInt8, k ≠ key.data.toList → keyB k ≠ key := fun k hk e => hk (by rw [← e])
  unfold liveR
  rcases keysR_snoc R key x with ⟨hk, e⟩ | ⟨hk, e⟩
  · rw [e, sumZ_upd (keysR R) key.data.toList (sorted_nodup (keysR_sorted _)) hk (fun k => wgt (keyB k) (verR R (keyB k))) (fun k => wgt (keyB k) (verR (R ++ [(key, x)]) (keyB k))) fun k _ hne' => by rw [hv k (hne k hne')]]
    rw [keyB_list, hs]
  · rw [sumZ_perm e]
    have e0 : ∀ f : List UInt8 → Int, sumZ (key.data.toList :: keysR R) f = f key.data.toList + sumZ (keysR R) f := fun f => rfl
    rw [e0, keyB_list, hs, sumZ_congr (f := fun k => wgt (keyB k) (verR (R ++ [(key, x)]) (keyB k))) (g := fun k => wgt (keyB k) (verR R (keyB k))) fun k hk' => by rw [hv k (hne k fun e' => hk (e' ▸ hk'))]]
    have hnil : verR R key = [] := by
      cases hc : verR R key with
      | nil => rfl
      | cons y ys =>
        obtain ⟨z, hz⟩ := verR_ne.1 (show verR R key ≠ [] by rw [hc]; simp)
        exact absurd (keysR_mem.2 ⟨z, by rw [keyB_list]; exact hz⟩) hk
    rw [hnil]
    simp only [wgt, List.getLast?_nil]
    omega

end Go.Proofs.Ytnonnencdhogiaa
