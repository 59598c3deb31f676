/-
  Texts of this proof, laid together: T10, T11, Q1, Q2, Q4, T12, T13, T14, T15, T16, T17, T18.
-/
import Derived.Test.YtbhihbhjmmeibaaGreatM3
import Derived.Test.YtbhihbhjmmeibaaGreatM2
import Derived.Laws.EntriesVeiled
import Derived.Test.YtbhihbhjmmeibaaGreatM1
import Derived.WalkKit
import Derived.WalkSpells
import Derived.WalkLawsBesides
import Derived.Deep.QuietTactic
import Derived.BigQuiet
import Derived.Lib.Hide
/-
  Layer 16: Over: pairs with the writes laid over them.
-/
namespace Go.Proofs.YtbhihbhjmmeibaaGreat
open Go.RowKit Go.Shelf
attribute [local go_sem] Oper.semAt_some

/-- the puts that a key tells, by the pairs alone -/
def ahQ (c : ByteArray → Bool) (qs : List (ByteArray × List UInt8)) (k : Nat) : Nat := ((qs.drop k).takeWhile fun p => c p.1).length
theorem ahN_eq (c : ByteArray → Bool) (ps : List PRow) (k : Nat) : ahN c ps k = ahQ c (ps.map PRow.plain) k := by
  unfold ahN ahQ
  rw [← List.map_drop, List.takeWhile_map, List.length_map]
  rfl

theorem takeWhile_all {α : Type} : ∀ l : List α, (l.takeWhile fun _ => true) = l
  | [] => rfl
  | a :: l => by rw [List.takeWhile_cons, takeWhile_all l]; rfl

/-- below a pair's key -/
def lessOf (u : ByteArray × List UInt8) : ByteArray → Bool := fun key => Op.bytesLess key.toList u.1.toList
/-- behind a pair: how many puts are told, and what -/
def ovStep (ws : List We) (qs : List (ByteArray × List UInt8)) (s : Nat × List (ByteArray × List UInt8)) (u : ByteArray × List UInt8) : Nat × List (ByteArray × List UInt8) :=
  (s.1 + ahQ (lessOf u) qs s.1, s.2 ++ (qs.drop s.1).take (ahQ (lessOf u) qs s.1) ++ (if (look ws u.1.data.toList).isSome then [] else [u]))
def ovAt (ws : List We) (qs us : List (ByteArray × List UInt8)) : Nat × List (ByteArray × List UInt8) := us.foldl (ovStep ws qs) (0, [])
/-- what a walk with the writes laid over tells -/
def overW (ws : List We) (fr tt : ByteArray) (us : List (ByteArray × List UInt8)) : List (ByteArray × List UInt8) :=
  (ovAt ws (putsW ws fr tt) us).2 ++ (putsW ws fr tt).drop (ovAt ws (putsW ws fr tt) us).1

theorem ovAt_snoc (ws : List We) (qs us : List (ByteArray × List UInt8)) (u : ByteArray × List UInt8) : ovAt ws qs (us ++ [u]) = ovStep ws qs (ovAt ws qs us) u := by
  unfold ovAt
  rw [List.foldl_append]
  rfl
theorem ovFold_prefix (ws : List We) (qs : List (ByteArray × List UInt8)) : ∀ (r : List (ByteArray × List UInt8)) (s : Nat × List (ByteArray × List UInt8)), s.2 <+: (r.foldl (ovStep ws qs) s).2
  | [], s => List.prefix_rfl
  | u :: r, s => by
    rw [List.foldl_cons]
    refine List.IsPrefix.trans ?_ (ovFold_prefix ws qs r _)
    show s.2 <+: (s.2 ++ _) ++ _
    rw [List.append_assoc]
    exact List.prefix_append _ _
theorem ovAt_prefix {ws : List We} {qs pre us : List (ByteArray × List UInt8)} (h : pre <+: us) : (ovAt ws qs pre).2 <+: (ovAt ws qs us).2 := by
  obtain ⟨r, rfl⟩ := h
  unfold ovAt
  rw [List.foldl_append]
  exact ovFold_prefix ws qs r _
theorem ahQ_le (c : ByteArray → Bool) (qs : List (ByteArray × List UInt8)) (k : Nat) (hk : k ≤ qs.length) : k + ahQ c qs k ≤ qs.length := by
  have := (List.takeWhile_prefix (l := qs.drop k) fun p => c p.1).length_le
  unfold ahQ
  rw [List.length_drop] at this
  omega
theorem ovAt_le (ws : List We) (qs : List (ByteArray × List UInt8)) (us : List (ByteArray × List UInt8)) : (ovAt ws qs us).1 ≤ qs.length := by
  unfold ovAt
  have key : ∀ (us : List (ByteArray × List UInt8)) (s : Nat × List (ByteArray × List UInt8)), s.1 ≤ qs.length → (us.foldl (ovStep ws qs) s).1 ≤ qs.length := by
    intro us
    induction us with
    | nil => intro s h; exact h
    | cons u us ih =>
      intro s h
      rw [List.foldl_cons]
      exact ih _ (ahQ_le _ _ _ h)
  exact key us _ (Nat.zero_le _)

theorem ownsRow_ne {w : World} {B n sz b : Nat} {t t' : TypeId} {v : Value} {xs : List Value} {cs : Array Value} (h : w.ownsRow B t sz v n xs) (hb : Blk w b t' cs) (ht : t ≠ t') : v.ownBlock ≠ some b := fun e => by
  rcases h.2 with ⟨rfl, _⟩ | ⟨g, cap, cur, rfl, _, hh, _⟩
  · simp [Value.ownBlock] at e
  · have : g = b := by simpa [Value.ownBlock] using e
    subst this
    unfold Blk at hb
    rw [hb] at hh
    injection hh with hh
    injection hh with _ hh _
    exact ht hh.symm
theorem blk_ne {w : World} {b b' : Nat} {t t' : TypeId} {cs cs' : Array Value} (h : Blk w b t cs) (h' : Blk w b' t' cs') (ht : t ≠ t') : b ≠ b' := fun e => by
  subst e
  unfold Blk at h h'
  rw [h] at h'
  injection h' with h'
  injection h' with _ h' _
  exact ht h'
theorem map_ne {w : World} {b m n : Nat} {t : TypeId} {cs : Array Value} {D : MW} (h : Blk w b t cs) (h' : w.ownsMap Tryz.prog 9 RW m n D) : b ≠ m := fun e => by
  subst e
  obtain ⟨es, clock, hb, _⟩ := h'
  unfold Blk at h
  rw [h] at hb
  cases hb

/-- what Over$1's first region has made -/
def OvT (p : Nat) (fr tt : ByteArray) (ws : List We) (B : Nat) : Nat → Value → World → Prop
  | 0, x, _ => x = .pointer (some ⟨p, 0, none⟩)
  | 1, x, _ => x = .string fr
  | 2, x, _ => x = .string tt
  | 3, x, u => ∃ ps, PRows u B x ps ∧ ps.map PRow.plain = putsW ws fr tt
  | 4, x, _ => x = .pointer (some ⟨p, 0, none⟩)
  | 5, x, u => ∃ mm n D, x = .map (some mm) ∧ Written u mm n D ws ∧ B ≤ mm
  | 6, x, u => ∃ b6, x = .pointer (some ⟨b6, 0, none⟩) ∧ Blk u b6 54 #[.slice none 0 0] ∧ B ≤ b6
  | 7, x, u => ∃ b7, x = .pointer (some ⟨b7, 0, none⟩) ∧ Blk u b7 177 #[.map none] ∧ B ≤ b7
  | _, _, _ => True
theorem OvT_keep (p : Nat) (fr tt : ByteArray) (ws : List We) (B : Nat) (i : Nat) (x : Value) (w w' : World) (h : OvT p fr tt ws B i x w) (ho : Only NoneOf w w') : OvT p fr tt ws B i x w' :=
  match i, h with
  | 0, h | 1, h | 2, h | 4, h => h
  | 3, ⟨ps, h1, h2⟩ => ⟨ps, h1.keep ho, h2⟩
  | 5, ⟨mm, n, D, h1, h2, h3⟩ => ⟨mm, n, D, h1, h2.only ho (fun h => h), h3⟩
  | 6, ⟨b6, h1, h2, h3⟩ => ⟨b6, h1, h2.only ho (fun h => h), h3⟩
  | 7, ⟨b7, h1, h2, h3⟩ => ⟨b7, h1, h2.only ho (fun h => h), h3⟩
  | _ + 8, _ => trivial

/-- how a pair is told whose bytes are new memory, or stay -/
def PairK (Kp : Nat → Prop) (n : Nat) (x : ByteArray × List UInt8) (args : Array Value) (w : World) : Prop :=
  ∃ A c, args = #[.agg #[.string x.1, .slice A x.2.length c]] ∧ BytesAt w A x.2 ∧ (x.2 ≠ [] → ∀ g off, A = some ⟨g, off, none⟩ → n ≤ g ∨ Kp g)

/-- where Over's things lie, within [B, E0) -/
structure OvA where
  B : Nat
  E0 : Nat
  y0 : Nat
  bp : Nat
  b7 : Nat
  ba : Nat
  mm : Nat
  nm : Nat
  g : Nat
structure OvA.Ok (a : OvA) : Prop where
  le : a.B ≤ a.E0
  p1 : a.B ≤ a.bp ∧ a.bp < a.E0
  a1 : a.B ≤ a.ba ∧ a.ba < a.E0
  w1 : a.B ≤ a.b7 ∧ a.b7 < a.E0
  m1 : a.B ≤ a.mm ∧ a.mm < a.E0
  nb : a.b7 ≠ a.bp ∧ a.ba ≠ a.bp ∧ a.mm ≠ a.bp
def OvSt (a : OvA) (l : Nat) (Dm : MW) (ws : List We) (ps : List PRow) (v : Value) (k : Nat) (w : World) : Prop :=
  AhSt a.B a.E0 l a.y0 a.bp ps v a.g k w ∧ Blk w a.ba 179 #[.func (.func 95) #[] #[.pointer (some ⟨a.bp, 0, none⟩), .pointer (some ⟨a.y0, 0, none⟩)]] ∧ Blk w a.b7 177 #[.map (some a.mm)] ∧ Written w a.mm a.nm Dm ws
theorem OvSt.only {a : OvA} {l : Nat} {Dm : MW} {ws : List We} {ps : List PRow} {v : Value} {k : Nat} {w w' : World} {S : Nat → Prop} (h : OvSt a l Dm ws ps v k w) (ok : a.Ok) (ho : Only S w w') (hS : ∀ j, a.B ≤ j → j < a.E0 → ¬ S j) : OvSt a l Dm ws ps v k w' :=
  ⟨h.1.only ho hS, h.2.1.only ho (hS _ ok.a1.1 ok.a1.2), h.2.2.1.only ho (hS _ ok.w1.1 ok.w1.2), h.2.2.2.only ho (hS _ ok.m1.1 ok.m1.2)⟩
/-- Over's own blocks -/
def ZoF (a : OvA) (Zu X : Nat → Prop) : Nat → Prop := fun j => (a.B ≤ j ∧ j < a.E0 + 2) ∨ Zu j ∨ X j
def OvI (a : OvA) (l : Nat) (Dm : MW) (ws : List We) (ps : List PRow) (v : Value) (J : (Nat → Prop) → List (ByteArray × List UInt8) → World → Prop) (Zu : Nat → Prop) (pre : List (ByteArray × List UInt8)) (A : World) : Prop :=
  (∀ j, Zu j → a.E0 + 2 ≤ j ∧ j < A.heap.size) ∧ a.E0 + 2 ≤ A.heap.size ∧ ∃ X : Nat → Prop, (∀ j, X j → a.B ≤ j ∧ j < A.heap.size) ∧ J (ZoF a Zu X) (ovAt ws (ps.map PRow.plain) pre).2 A ∧ OvSt a l Dm ws ps v (ovAt ws (ps.map PRow.plain) pre).1 A
def OvX (a : OvA) (L : List (ByteArray × List UInt8)) (Jx : (Nat → Prop) → List (ByteArray × List UInt8) → World → Prop) (c : Code) (Zu : Nat → Prop) (_ : List (ByteArray × List UInt8)) (A : World) : Prop :=
  c = .ret ∧ ∃ (Z : Nat → Prop) (pr : List (ByteArray × List UInt8)), (∀ j, Z j → a.B ≤ j) ∧ (∀ j, Zw Zu a.E0 j → Z j) ∧ pr <+: L ∧ Jx Z pr A

section
variable {a : OvA} {l : Nat} {Dm : MW} {ws : List We} {ps : List PRow} {v : Value} {J Jx : (Nat → Prop) → List (ByteArray × List UInt8) → World → Prop} {L : List (ByteArray × List UInt8)}
theorem OvI.only (ok : a.Ok) (hJ : ∀ Z pre A B, J Z pre A → Only Z A B → J Z pre B) {Zu : Nat → Prop} {pre : List (ByteArray × List UInt8)} {A B : World} (h : OvI a l Dm ws ps v J Zu pre A) (ho : Only (Zw Zu a.E0) A B) : OvI a l Dm ws ps v J Zu pre B := by
  obtain ⟨h1, h2, X, h3, h4, h5⟩ := h
  refine ⟨fun j hj => ⟨(h1 j hj).1, Nat.lt_of_lt_of_le (h1 j hj).2 ho.size⟩, Nat.le_trans h2 ho.size, X, fun j hj => ⟨(h3 j hj).1, Nat.lt_of_lt_of_le (h3 j hj).2 ho.size⟩, hJ _ _ A B h4 (ho.mono fun j _ hj => ?_), h5.only ok ho fun j hj1 hj2 hj => ?_⟩
  · rcases hj with hj | hj | hj
    · exact .inr (.inl hj)
    · exact .inl ⟨by have := ok.le; omega, by omega⟩
    · exact .inl ⟨by have := ok.le; omega, by omega⟩
  · rcases hj with hj | hj | hj
    · have := (h1 j hj).1; omega
    · omega
    · omega
theorem OvI.grow (ok : a.Ok) (hE : ∀ (Z Z' : Nat → Prop) pre A0 A, J Z pre A0 → Only Z A0 A → (∀ k, Z k → Z' k) → (∀ k, Z' k → Z k ∨ A0.heap.size ≤ k ∧ k < A.heap.size) → J Z' pre A) {Zu Zu' : Nat → Prop} {pre : List (ByteArray × List UInt8)} {A0 A : World}
    (h : OvI a l Dm ws ps v J Zu pre A0) (ho : Only Zu A0 A) (h1 : ∀ k, Zu k → Zu' k) (h2 : ∀ k, Zu' k → Zu k ∨ A0.heap.size ≤ k ∧ k < A.heap.size) : OvI a l Dm ws ps v J Zu' pre A := by
  obtain ⟨g1, g2, X, g3, g4, g5⟩ := h
  refine ⟨fun j hj => ?_, Nat.le_trans g2 ho.size, X, fun j hj => ⟨(g3 j hj).1, Nat.lt_of_lt_of_le (g3 j hj).2 ho.size⟩, hE _ _ _ A0 A g4 (ho.mono fun j _ hj => .inr (.inl hj)) (fun j hj => ?_) (fun j hj => ?_), g5.only ok ho fun j hj1 hj2 hj => ?_⟩
  · rcases h2 j hj with h | h
    · exact ⟨(g1 j h).1, Nat.lt_of_lt_of_le (g1 j h).2 ho.size⟩
    · exact ⟨by omega, h.2⟩
  · rcases hj with hj | hj | hj
    · exact .inl hj
    · exact .inr (.inl (h1 j hj))
    · exact .inr (.inr hj)
  · rcases hj with hj | hj | hj
    · exact .inl (.inl hj)
    · rcases h2 j hj with h | h
      · exact .inl (.inr (.inl h))
      · exact .inr h
    · exact .inl (.inr (.inr hj))
  · have := (g1 j hj).1; omega
theorem OvX.only (hJx : ∀ Z pre A B, Jx Z pre A → Only Z A B → Jx Z pre B) {c : Code} {Zu : Nat → Prop} {pre : List (ByteArray × List UInt8)} {A B : World} (h : OvX a L Jx c Zu pre A) (ho : Only (Zw Zu a.E0) A B) : OvX a L Jx c Zu pre B := by
  obtain ⟨h1, Z, pr, h2, h3, h4, h5⟩ := h
  exact ⟨h1, Z, pr, h2, h3, h4, hJx Z pr A B h5 (ho.mono fun j _ hj => h3 j hj)⟩
end

theorem func_nil103 (u : World) (f : Nat) (c : Array Value) : (binOp .neq 151 (.func (.func f) #[] c) .nilFunc).run Tryz.prog u = .ok (.bool true) u := by kernel_rfl

set_option maxRecDepth 100000 in
set_option maxHeartbeats 8000000 in
theorem over_iter {Kp : Nat → Prop} (W : World) (hKp : ∀ k, Kp k → k < W.heap.size) (b p m N : Nat) (U : Nat → Prop) (ws : List We) (fr tt : ByteArray) (gf : Nat) (lb : Array Value) (us : List (ByteArray × List UInt8)) (h : SetR W p m U ws N) (hN : N ≤ 1048576)
    (hb0 : W.cell? ⟨b, 0, none⟩ = some (.pointer (some ⟨p, 0, none⟩))) (hb1 : W.cell? ⟨b + 1, 0, none⟩ = some (.string fr)) (hb2 : W.cell? ⟨b + 2, 0, none⟩ = some (.string tt)) (hb3 : W.cell? ⟨b + 3, 0, none⟩ = some (.func (.func gf) #[] lb))
    (eg : ∀ args w, (callFunc gf args).run Tryz.prog w = .ok (.enter gf args) w) (hus : ∀ x ∈ us, x.1.size ≤ maxLen) (hit : ∀ W', Only NoneOf W W' → IterZ Tryz.prog gf lb (PairK Kp) us Kp W') :
    IterZ Tryz.prog 92 (scanFn b) PairE (overW ws fr tt us) Kp W := by
  obtain ⟨L, hL⟩ : ∃ L, overW ws fr tt us = L := ⟨_, rfl⟩
  rw [hL]
  have HL := Lib.hid hL
  clear hL
  intro l J Jx hJ hJx hE h0 hY
  have HJ := Lib.hid hJ
  have HJx := Lib.hid hJx
  have HE := Lib.hid hE
  have H0 := Lib.hid h0
  have HY := Lib.hid (show YieldsZ Kp l W.heap.size L J Jx from hY)
  have HIT := Lib.hid hit
  have hfn := func_nil103
  clear hY hJ hJx h0 hE hit
  have hOy : Only NoneOf W (W.alloc (.cells #[.func (.yield l) #[] #[]] 175)) := (Only.refl _ _).alloc _
  have hYb := Blk.new W 175 #[.func (.yield l) #[] #[]]
  have hS1 := h.keep hOy
  have k0 := (hOy.cell (p := ⟨b, 0, none⟩) (World.block_lt_of_cell? _ _ hb0) (fun h => h)).trans hb0
  have k1 := (hOy.cell (p := ⟨b + 1, 0, none⟩) (World.block_lt_of_cell? _ _ hb1) (fun h => h)).trans hb1
  have k2 := (hOy.cell (p := ⟨b + 2, 0, none⟩) (World.block_lt_of_cell? _ _ hb2) (fun h => h)).trans hb2
  have k3 := (hOy.cell (p := ⟨b + 3, 0, none⟩) (World.block_lt_of_cell? _ _ hb3) (fun h => h)).trans hb3
  have hz1 : (W.alloc (.cells #[.func (.yield l) #[] #[]] 175)).heap.size = W.heap.size + 1 := by simp
  obtain ⟨W1, hW1⟩ : ∃ W1, W.alloc (.cells #[.func (.yield l) #[] #[]] 175) = W1 := ⟨_, rfl⟩
  rw [hW1] at hOy hYb hS1 k0 k1 k2 k3 hz1
  have HW1 := Lib.hid hW1
  have HS1 := Lib.hid hS1
  have HOY := Lib.hid hOy
  have HYB := Lib.hid hYb
  have HZ1 := Lib.hid hz1
  have K0 := Lib.hid k0
  have K1 := Lib.hid k1
  have K2 := Lib.hid k2
  have K3 := Lib.hid k3
  clear h hb0 hb1 hb2 hb3 hOy hYb hS1 k0 k1 k2 k3 hz1 hW1
  refine callsIn_of_wp_marks Tryz.func92 rfl trivial ?_ rfl
  simp only [Tryz.ntmps92, scanFn, List.size_toArray, List.length_cons, List.length_nil, Nat.reduceAdd, Nat.reduceSub, Array.replicate_succ, Array.replicate_zero, List.push_toArray, List.append_toArray, List.nil_append, List.cons_append]
  gi_upto_region 1 with (fail)
  rw [HW1.out]
  refine wpIn_region_headT 8 44 (OvT p fr tt ws W1.heap.size) (fun _ => false) rfl (by kernel_rfl) (by kernel_rfl) (OvT_keep p fr tt ws _) (fun _ _ _ h => by cases h) ?_ ?_
  · intro i o hi ho a u hu hs ht
    have e1 : a.tmps.getD 1 undef = .pointer (some ⟨b, 0, none⟩) := hs 1 (of_decide_eq_true (by kernel_rfl))
    have e2 : a.tmps.getD 2 undef = .pointer (some ⟨b + 1, 0, none⟩) := hs 2 (of_decide_eq_true (by kernel_rfl))
    have e3 : a.tmps.getD 3 undef = .pointer (some ⟨b + 2, 0, none⟩) := hs 3 (of_decide_eq_true (by kernel_rfl))
    have c0 := (hu.cell (p := ⟨b, 0, none⟩) (World.block_lt_of_cell? _ _ K0.out) (fun h => h)).trans K0.out
    have c1 := (hu.cell (p := ⟨b + 1, 0, none⟩) (World.block_lt_of_cell? _ _ K1.out) (fun h => h)).trans K1.out
    have c2 := (hu.cell (p := ⟨b + 2, 0, none⟩) (World.block_lt_of_cell? _ _ K2.out) (fun h => h)).trans K2.out
    have : i = 0 ∨ i = 1 ∨ i = 2 ∨ i = 3 ∨ i = 4 ∨ i = 5 ∨ i = 6 ∨ i = 7 := by omega
    rcases this with rfl | rfl | rfl | rfl | rfl | rfl | rfl | rfl
    · obtain rfl := Option.some.inj (ho : some _ = some o)
      exact left_value (.pointer (some ⟨p, 0, none⟩)) (by simp [go_sem, e1, c0]) rfl rfl
    · obtain rfl := Option.some.inj (ho : some _ = some o)
      exact left_value (.string fr) (by simp [go_sem, e2, c1]) rfl rfl
    · obtain rfl := Option.some.inj (ho : some _ = some o)
      exact left_value (.string tt) (by simp [go_sem, e3, c2]) rfl rfl
    · obtain rfl := Option.some.inj (ho : some _ = some o)
      have s0 : a.tmps.getD 12 undef = .pointer (some ⟨p, 0, none⟩) := ht 0 (by omega) (by kernel_rfl)
      have s1 : a.tmps.getD 13 undef = .string fr := ht 1 (by omega) (by kernel_rfl)
      have s2 : a.tmps.getD 14 undef = .string tt := ht 2 (by omega) (by kernel_rfl)
      have s0 : a.tmps.getD 12 undef = .pointer (some ⟨p, 0, none⟩) := ht 0 (by omega) (by kernel_rfl)
      refine left_calls 93 #[.pointer (some ⟨p, 0, none⟩), .string fr, .string tt] (by simp [go_sem, s0, s1, s2]) ((puts_is u p m N U ws (HS1.out.keep hu) hN fr tt).mono ?_) rfl
      rintro e u' ⟨v', rs, rfl, hr, hpl, ho'⟩
      exact ⟨_, rfl, ⟨rs, hr.base hu.size, hpl⟩, ho'⟩
    · obtain rfl := Option.some.inj (ho : some _ = some o)
      exact left_value (.pointer (some ⟨p, 0, none⟩)) (by simp [go_sem, e1, c0]) rfl rfl
    · obtain rfl := Option.some.inj (ho : some _ = some o)
      have s4 : a.tmps.getD 16 undef = .pointer (some ⟨p, 0, none⟩) := ht 4 (by omega) (by kernel_rfl)
      refine left_calls 94 #[.pointer (some ⟨p, 0, none⟩)] (by simp [go_sem, s4]) ((keysW_is u p m N U ws (HS1.out.keep hu) hN).mono ?_) rfl
      rintro e u' ⟨n, D, rfl, hw, ho'⟩
      exact ⟨_, rfl, ⟨_, n, D, rfl, hw, hu.size⟩, ho'⟩
    · obtain rfl := Option.some.inj (ho : some _ = some o)
      exact left_to (.pointer (some ⟨u.heap.size, 0, none⟩)) (u.alloc (.cells #[.slice none 0 0] 54)) (by simp [go_sem]) rfl ⟨_, rfl, Blk.new _ _ _, hu.size⟩ ((Only.refl _ _).alloc _)
    · obtain rfl := Option.some.inj (ho : some _ = some o)
      exact left_to (.pointer (some ⟨u.heap.size, 0, none⟩)) (u.alloc (.cells #[.map none] 177)) (by simp [go_sem]) rfl ⟨_, rfl, Blk.new _ _ _, hu.size⟩ ((Only.refl _ _).alloc _)
  · intro V' u hu hV' _
    have v0 : V' 0 = .pointer (some ⟨p, 0, none⟩) := hV' 0 (by omega)
    have v1 : V' 1 = .string fr := hV' 1 (by omega)
    have v2 : V' 2 = .string tt := hV' 2 (by omega)
    obtain ⟨ps, hps, hpl⟩ : ∃ ps, PRows u W1.heap.size (V' 3) ps ∧ ps.map PRow.plain = putsW ws fr tt := hV' 3 (by omega)
    obtain ⟨v3, v3e⟩ : ∃ v3, V' 3 = v3 := ⟨_, rfl⟩
    rw [v3e] at hps
    have v4 : V' 4 = .pointer (some ⟨p, 0, none⟩) := hV' 4 (by omega)
    obtain ⟨mm, nm, Dm, v5e, hwr, hmm⟩ : ∃ mm n D, V' 5 = .map (some mm) ∧ Written u mm n D ws ∧ W1.heap.size ≤ mm := hV' 5 (by omega)
    obtain ⟨b6, v6e, hb6, hl6⟩ : ∃ b6, V' 6 = .pointer (some ⟨b6, 0, none⟩) ∧ Blk u b6 54 #[.slice none 0 0] ∧ W1.heap.size ≤ b6 := hV' 6 (by omega)
    obtain ⟨b7, v7e, hb7, hl7⟩ : ∃ b7, V' 7 = .pointer (some ⟨b7, 0, none⟩) ∧ Blk u b7 177 #[.map none] ∧ W1.heap.size ≤ b7 := hV' 7 (by omega)
    change wpListIn _ _ _ _ _ _ (Act.put (Act.put (Act.put (Act.put (Act.put (Act.put (Act.put (Act.put _ (some 12) (V' 0)) (some 13) (V' 1)) (some 14) (V' 2)) (some 15) (V' 3)) (some 16) (V' 4)) (some 17) (V' 5)) (some 6) (V' 6)) (some 7) (V' 7)) _
    rw [v0, v1, v2, v3e, v4, v5e, v6e, v7e]
    simp only [Act.put, List.setIfInBounds_toArray, List.set_cons_zero, List.set_cons_succ]
    simp only [List.drop_succ_cons, List.drop_zero]
    clear hV' v0 v1 v2 v3e v4 v5e v6e v7e
    obtain ⟨A3, c3, rfl⟩ := ownsRow_slice hps.own
    have hyu := HYB.out.only hu (fun h => h)
    have hn67 : b6 ≠ b7 := blk_ne hb6 hb7 (by decide)
    have hny6 : W.heap.size ≠ b6 := blk_ne hyu hb6 (by decide)
    have hny7 : W.heap.size ≠ b7 := blk_ne hyu hb7 (by decide)
    have hm6 := map_ne hb6 hwr.1
    have hm7 := map_ne hb7 hwr.1
    have hr6 : ∀ j, PBlocks (.slice A3 ps.length c3) ps j → j ≠ b6 ∧ j ≠ b7 := fun j hj => by
      rcases hj with hj | ⟨r, hr, hj⟩
      · exact ⟨fun e => ownsRow_ne hps.own hb6 (by decide) (e ▸ hj), fun e => ownsRow_ne hps.own hb7 (by decide) (e ▸ hj)⟩
      · exact ⟨fun e => ownsRow_ne (hps.vals r hr) hb6 (by decide) (e ▸ hj), fun e => ownsRow_ne (hps.vals r hr) hb7 (by decide) (e ▸ hj)⟩
    have x6 := hb6.cellv 0 rfl
    have f6 := hb6.free 0
    have x7 := hb7.cellv 0 rfl
    have f7 := hb7.free 0
    have k3 := (hu.cell (p := ⟨b + 3, 0, none⟩) (World.block_lt_of_cell? _ _ K3.out) (fun h => h)).trans K3.out
    have hk3 : b + 3 < W1.heap.size := World.block_lt_of_cell? _ _ K3.out
    have hn36 : b + 3 ≠ b6 := by omega
    have hn37 : b + 3 ≠ b7 := by omega
    have hl3 := hu.size
    have hk3u : b + 3 < u.heap.size := by omega
    have hmf : ∀ (fn : Fn) (first cap : Array Value) (w : World), (Instr.makeFunc fn first cap).run Tryz.prog w = .ok (.func fn first cap) w := fun _ _ _ _ => rfl
    have HU := Lib.hid hu
    have HPS := Lib.hid hps
    have HWRI := Lib.hid hwr
    have HB6 := Lib.hid hb6
    have HB7 := Lib.hid hb7
    have HYU := Lib.hid hyu
    have HR6 := Lib.hid hr6
    have HPL := Lib.hid hpl
    clear hu hps hwr hb6 hb7 hyu hr6 hpl
    gi_wp2_with fail
    have hOs : Only (fun j => j = b6 ∨ j = b7) u ((u.setCell ⟨b6, 0, none⟩ (.slice A3 ps.length c3)).setCell ⟨b7, 0, none⟩ (.map (some mm))) := ((Only.refl (fun j => j = b6 ∨ j = b7) u).put (.inl (.inl rfl)) _).put (.inl (.inr rfl)) _
    have hB6s := ((HB6.out.put 0 (.slice A3 ps.length c3)).far (p := ⟨b7, 0, none⟩) hn67 (.map (some mm)))
    have hB7s := ((HB7.out.far (p := ⟨b6, 0, none⟩) (Ne.symm hn67) (.slice A3 ps.length c3)).put 0 (.map (some mm)))
    have hyus := HYU.out.only hOs (fun e => by rcases e with e | e; exact hny6 e; exact hny7 e)
    have hpss := HPS.out.only hOs (fun j hj e => by rcases e with e | e; exact (HR6.out j hj).1 e; exact (HR6.out j hj).2 e)
    have hwrs := HWRI.out.only hOs (fun e => by rcases e with e | e; exact hm6 e.symm; exact hm7 e.symm)
    have hzs : ((u.setCell ⟨b6, 0, none⟩ (.slice A3 ps.length c3)).setCell ⟨b7, 0, none⟩ (.map (some mm))).heap.size = u.heap.size := by simp [World.setCell]
    have hB6l := HB6.out.lt
    have hB7l := HB7.out.lt
    have hmml := HWRI.out.1.lt
    obtain ⟨us', hus⟩ : ∃ us', ((u.setCell ⟨b6, 0, none⟩ (.slice A3 ps.length c3)).setCell ⟨b7, 0, none⟩ (.map (some mm))) = us' := ⟨_, rfl⟩
    have hOWs : Only NoneOf W us' := by
      rw [← hus]
      exact (HOY.out.trans HU.out).step hOs (fun k hk e => by have := HZ1.out; rcases e with e | e <;> omega)
    rw [hus] at hOs hB6s hB7s hyus hpss hwrs hzs ⊢
    clear hus
    have hBA := Blk.new' us' 179 #[.func (.func 95) #[] #[.pointer (some ⟨b6, 0, none⟩), .pointer (some ⟨W.heap.size, 0, none⟩)]] (n := u.heap.size) hzs.symm
    have hz2 : (us'.alloc (.cells #[.func (.func 95) #[] #[.pointer (some ⟨b6, 0, none⟩), .pointer (some ⟨W.heap.size, 0, none⟩)]] 179)).heap.size = u.heap.size + 1 := by simp [hzs]
    have hO2 : Only NoneOf us' (us'.alloc (.cells #[.func (.func 95) #[] #[.pointer (some ⟨b6, 0, none⟩), .pointer (some ⟨W.heap.size, 0, none⟩)]] 179)) := (Only.refl _ _).alloc _
    obtain ⟨w2, hw2⟩ : ∃ w2, us'.alloc (.cells #[.func (.func 95) #[] #[.pointer (some ⟨b6, 0, none⟩), .pointer (some ⟨W.heap.size, 0, none⟩)]] 179) = w2 := ⟨_, rfl⟩
    rw [hw2] at hBA hz2 hO2 ⊢
    clear hw2
    have HOW := Lib.hid (hOWs.trans hO2)
    have hg : ∃ g, (ps ≠ [] → A3 = some ⟨g, 0, none⟩) ∧ ps.length ≤ c3 := by
      rcases Nat.eq_zero_or_pos ps.length with h0 | h0
      · exact ⟨0, fun h => absurd (List.eq_nil_of_length_eq_zero h0) h, by omega⟩
      · obtain ⟨g, cap, hv, _, _, hle⟩ := own_at hpss.own h0
        injection hv with e1 _ e3
        exact ⟨g, fun _ => e1, by omega⟩
    obtain ⟨g, hg1, hg2⟩ := hg
    obtain ⟨a, ha⟩ : ∃ a : OvA, a = ⟨W.heap.size, w2.heap.size, W.heap.size, b6, b7, u.heap.size, mm, nm, g⟩ := ⟨_, rfl⟩
    have hW1l := HZ1.out
    have ok : a.Ok := by
      subst ha
      refine ⟨?_, ?_, ?_, ?_, ?_, Ne.symm hn67, by simp only; omega, by simp only; exact fun e => hm6 e.symm⟩ <;> simp only <;> omega
    have hst : OvSt a l Dm ws ps (.slice A3 ps.length c3) 0 w2 := by
      subst ha
      refine ⟨⟨hyus.only hO2 (fun h => h), ⟨A3, c3, hB6s.only hO2 (fun h => h), hg2, fun h => ?_⟩, (hpss.keep hO2).base (show W.heap.size ≤ W1.heap.size by omega), fun h => ⟨c3, by rw [hg1 h]⟩, by simp only; omega, by simp only; omega, by simp only; exact hny6, fun j hj => ⟨?_, (HR6.out j hj).1⟩⟩, hBA, hB7s.only hO2 (fun h => h), hwrs.only hO2 (fun h => h)⟩
      · rw [hg1 (fun e => by rw [e] at h; simp at h)]
      · have := (hpss.lt hj).2
        simp only
        omega
    have HST := Lib.hid hst
    have HA := Lib.hid ha
    have hqs := HPL.out
    clear hst hOs hB6s hB7s hyus hpss hwrs hBA hO2 hOWs hg1 hg2
    have HWZ := Lib.hid (show w2.heap.size = a.E0 by rw [ha])
    have HWB := Lib.hid (show W.heap.size = a.B by rw [ha])
    have hbp : a.bp = b6 := by rw [ha]
    have hba : a.ba = u.heap.size := by rw [ha]
    have hb7e : a.b7 = b7 := by rw [ha]
    have hy0 : a.y0 = W.heap.size := by rw [ha]
    have hmme : a.mm = mm := by rw [ha]
    have HOK := Lib.hid ok
    obtain ⟨v3, hv3⟩ : ∃ v3, v3 = Value.slice A3 ps.length c3 := ⟨_, rfl⟩
    rw [← hv3] at HST
    clear hv3 ok ha HPS HWRI HB6 HB7 HYU HR6 x6 f6 x7 f7 k3 hk3 hn36 hn37 hl3 hk3u hB6l hB7l hmml hW1l hz2 hzs hl6 hl7 hn67 hny6 hny7 hm6 hm7 HU HA hmm
    have hov : L = (ovAt ws (ps.map PRow.plain) us).2 ++ (ps.map PRow.plain).drop (ovAt ws (ps.map PRow.plain) us).1 := by rw [hqs]; exact HL.out.symm
    have HOV := Lib.hid hov
    clear hov hqs HPL HL
    refine range_ownZ (α := ByteArray × List UInt8) (xs := us) (Enc := PairK Kp) (Kp := Kp) (Nat.le_refl 1) rfl eg
      (fun Wn hn _ => HIT.out Wn (HOW.out.trans hn)) (fun n x args A h => by obtain ⟨v, c, rfl, _⟩ := h; rfl) (fun {k} hk hh => by have := hKp k hh; have := HOW.out.size; omega)
      (OvI a l Dm ws ps v3 J) (OvX a L Jx)
      (fun Z pre A B hs ho => OvI.only HOK.out HJ.out hs (by rw [← HWZ.out]; exact ho))
      (fun c Z pre A B hs ho => OvX.only HJx.out hs (by rw [← HWZ.out]; exact ho))
      (fun Z Z' pre A0 A _ _ hs ho h1 h2 => OvI.grow HOK.out HE.out hs ho h1 h2)
      (fun Z B hZ hB ho => ⟨fun j hj => by rw [← HWZ.out]; exact hZ j hj, by rw [← HWZ.out]; exact hB, fun _ => False, fun _ h => h.elim, H0.out _ B (fun j hj => by
          rw [HWB.out]
          have hle := HOK.out.le
          rcases hj with hj | hj | hj
          · exact ⟨hj.1, by have := hj.2; rw [← HWZ.out] at this; omega⟩
          · have := hZ j hj; rw [HWZ.out] at this; exact ⟨by omega, this.2⟩
          · exact hj.elim) (HOW.out.trans ho), HST.out.only HOK.out ho (fun _ _ _ h => h)⟩)
      (fun n x a' A => ∃ bb vA vc, n ≤ bb ∧ a.E0 + 2 ≤ n ∧ Blk A bb 98 #[.string x.1, .slice vA x.2.length vc] ∧ BytesAt A vA x.2 ∧ (x.2 ≠ [] → ∀ g off, vA = some ⟨g, off, none⟩ → (n ≤ g ∨ Kp g) ∧ g ≠ a.E0 + 1) ∧ a' = { tmps := #[.func (.yield l) #[] #[], .pointer (some ⟨b, 0, none⟩), .pointer (some ⟨b + 1, 0, none⟩), .pointer (some ⟨b + 2, 0, none⟩), .pointer (some ⟨b + 3, 0, none⟩), .pointer (some ⟨W.heap.size, 0, none⟩), .pointer (some ⟨b6, 0, none⟩), .pointer (some ⟨b7, 0, none⟩), .pointer (some ⟨u.heap.size, 0, none⟩), .pointer (some ⟨bb, 0, none⟩), undef, undef, .pointer (some ⟨p, 0, none⟩), .string fr, .string tt, .slice A3 ps.length c3, .pointer (some ⟨p, 0, none⟩), .map (some mm), .func (.func 95) #[] #[.pointer (some ⟨b6, 0, none⟩), .pointer (some ⟨W.heap.size, 0, none⟩)], .func (.func gf) #[] lb, .bool true, .func (.func gf) #[] lb, .agg #[.string x.1, .slice vA x.2.length vc], undef, undef, undef, undef, undef, undef, undef, undef, undef, undef, undef, undef, undef, undef, undef, undef, undef, undef, undef, undef, undef], defers := [] })
      (fun n x a' A B hs ho => by
        rw [HWZ.out] at ho
        obtain ⟨bb, vA, vc, h1, h2, h3, h4, h5, h6⟩ := hs
        exact ⟨bb, vA, vc, h1, h2, h3.only ho (by omega), h4.turn ho (fun hne g off hA => (h5 hne g off hA).2), h5, h6⟩)
      ?assign ?body ?done ?stop
    case assign =>
      rintro ⟨key, bs⟩ args A0 Wa K hx hsz ⟨rl, hlp⟩ hA0 ⟨vA, vc, rfl, hby, hpr⟩ hK
      simp only at hby hpr ⊢
      gi_wp2
      refine hK _ _ ((Only.refl _ _).alloc _) ⟨Wa.heap.size, vA, vc, hA0.size, by rw [← HWZ.out]; exact hsz, Blk.new _ _ _, hby.keep ((Only.refl _ _).alloc _), fun hne g off hA => ⟨hpr hne g off hA, fun e => ?_⟩, rfl⟩
      obtain ⟨g', off', hA', hg', hc'⟩ := hby 0 _ (List.getElem?_eq_getElem (List.length_pos_iff.2 hne))
      rw [hA] at hA'
      simp only [Option.some.injEq, Addr.mk.injEq, and_true] at hA'
      rw [← hA'.1, e, ← HWZ.out] at hc'
      unfold World.cell? at hc'
      rw [hlp] at hc'
      simp at hc'
    case body =>
      rintro Zu pre ⟨xk, xb⟩ a' A0 Wb ⟨rl, hlp⟩ hszA hZu hpre hI0 hoAW ⟨bb, vA, vc, hbb, hn, hB, hby, hprot, rfl⟩
      rw [HWZ.out] at hszA hoAW
      have hxk := hus (xk, xb) (hpre.subset (by simp))
      simp only at hxk
      obtain ⟨z1, z2, X, z3, hJ0, hS0⟩ := hI0
      have ok := HOK.out
      have hle := ok.le
      have hsz := hoAW.size
      have hbl := hB.lt
      simp only at hB hby hprot
      have havoid : ∀ j, a.B ≤ j → j < a.E0 → ¬ Zw Zu a.E0 j := fun j h1 h2 hj => by
        rcases hj with hj | hj | hj
        · have := (z1 j hj).1; omega
        · omega
        · omega
      obtain ⟨X', hX'e⟩ : ∃ X' : Nat → Prop, X' = fun j => X j ∨ j = bb ∨ (A0.heap.size ≤ j ∧ xb ≠ [] ∧ ∃ off, vA = some ⟨j, off, none⟩) := ⟨_, rfl⟩
      have hX' : ∀ j, X' j → a.B ≤ j ∧ j < Wb.heap.size := fun j hj => by
        rw [hX'e] at hj
        rcases hj with hj | hj | ⟨h1, h2, off, h3⟩
        · have := z3 j hj; omega
        · omega
        · have := hby.lt h2 h3; omega
      have hJ1 : J (ZoF a Zu X') (ovAt ws (ps.map PRow.plain) pre).2 Wb := HE.out (ZoF a Zu X) _ _ A0 Wb hJ0 (hoAW.mono fun j _ hj => by
          rcases hj with hj | hj | hj
          · exact .inr (.inl hj)
          · exact .inl ⟨by omega, by omega⟩
          · exact .inl ⟨by omega, by omega⟩) (fun j hj => by
          rcases hj with hj | hj | hj
          · exact .inl hj
          · exact .inr (.inl hj)
          · exact .inr (.inr (by rw [hX'e]; exact .inl hj))) (fun j hj => by
          rcases hj with hj | hj | hj
          · exact .inl (.inl hj)
          · exact .inl (.inr (.inl hj))
          · have h9 := hX' j hj
            rw [hX'e] at hj
            rcases hj with hj | hj | hj
            · exact .inl (.inr (.inr hj))
            · exact .inr ⟨by omega, h9.2⟩
            · exact .inr ⟨hj.1, h9.2⟩)
      have hS1 := hS0.only ok hoAW havoid
      have hZB : ∀ j, ZoF a Zu X' j → a.B ≤ j ∧ j < Wb.heap.size := fun j hj => by
        rcases hj with hj | hj | hj
        · exact ⟨hj.1, by omega⟩
        · have := z1 j hj; omega
        · exact hX' j hj
      have hkl : (ovAt ws (ps.map PRow.plain) pre).1 ≤ ps.length := by have := ovAt_le ws (ps.map PRow.plain) pre; rwa [List.length_map] at this
      have hstep := ovAt_snoc ws (ps.map PRow.plain) pre (xk, xb)
      have hpx : (ovAt ws (ps.map PRow.plain) (pre ++ [(xk, xb)])).2 <+: L := by
        rw [HOV.out]
        exact (ovAt_prefix hpre).trans (List.prefix_append _ _)
      obtain ⟨kk, hkk⟩ : ∃ kk, (ovAt ws (ps.map PRow.plain) pre).1 = kk := ⟨_, rfl⟩
      obtain ⟨told, htold⟩ : ∃ told, (ovAt ws (ps.map PRow.plain) pre).2 = told := ⟨_, rfl⟩
      rw [hkk] at hS1 hkl
      rw [htold] at hJ1
      unfold ovStep at hstep
      rw [hkk, htold, ← ahN_eq] at hstep
      obtain ⟨nn, hnn⟩ : ∃ nn, ahN (lessOf (xk, xb)) ps kk = nn := ⟨_, rfl⟩
      have htk : ((ps.map PRow.plain).drop kk).take nn = ((ps.drop kk).take nn).map PRow.plain := by rw [List.map_take, List.map_drop]
      rw [hnn, htk] at hstep
      have hL1 : told ++ ((ps.drop kk).take nn).map PRow.plain <+: L := by
        rw [hstep] at hpx
        exact (List.prefix_append _ _).trans hpx
      have hhold : ∀ u u' : World, (Blk u bb 98 #[.string xk, .slice vA xb.length vc] ∧ BytesAt u vA xb) → Only (fun j => j = a.bp ∨ Rest (ZoF a Zu X') Kp j) u u' → (Blk u' bb 98 #[.string xk, .slice vA xb.length vc] ∧ BytesAt u' vA xb) := fun u u' hh ho => by
        have hbpE := ok.p1
        refine ⟨hh.1.only ho fun e => ?_, hh.2.turn ho fun hne g off hA e => ?_⟩
        · rcases e with e | e
          · omega
          · exact e.1 (.inr (.inr (by rw [hX'e]; exact .inr (.inl rfl))))
        · rcases (hprot hne g off hA).1 with h1 | h1
          · rcases e with e | e
            · omega
            · exact e.1 (.inr (.inr (by rw [hX'e]; exact .inr (.inr ⟨h1, hne, off, hA⟩))))
          · rcases e with e | e
            · have := hKp g h1; rw [HWB.out] at this; omega
            · exact e.2 h1
      have hYB := HY.out
      rw [HWB.out] at hYB
      have HAH := Lib.hid (ahead_is (Kp := Kp) a.B a.E0 l a.y0 a.bp ps v3 a.g L J Jx HJ.out hYB 96 #[.pointer (some ⟨bb, 0, none⟩)] (fun _ _ => by kernel_rfl) (lessOf (xk, xb)) (fun u => Blk u bb 98 #[.string xk, .slice vA xb.length vc] ∧ BytesAt u vA xb) (ZoF a Zu X')
        (fun u key hh => below_is u bb key xk _ hh.1) hhold (fun j h1 h2 => .inl ⟨h1, by omega⟩) (fun j hj => (hZB j hj).1) kk told Wb (fun j hj => (hZB j hj).2) hkl hS1.1 hJ1 ⟨hB, hby⟩ (by rw [hnn]; exact hL1))
      rw [hnn] at HAH
      have HH := Lib.hid hhold
      have HHB := Lib.hid (show Blk Wb bb 98 #[.string xk, .slice vA xb.length vc] ∧ BytesAt Wb vA xb from ⟨hB, hby⟩)
      have HS1 := Lib.hid hS1
      have HZB := Lib.hid hZB
      have HSTEP := Lib.hid hstep
      have HPX := Lib.hid hpx
      have HZ1 := Lib.hid z1
      have HKK := Lib.hid hkk
      have hbac := hS1.2.1.cellv 0 rfl
      rw [hba, hbp, hy0] at hbac
      rw [hbp, hy0] at HAH
      have hsz2 : a.E0 + 2 ≤ Wb.heap.size := by omega
      clear hJ0 hS0 hJ1 hS1 hB hby hprot hhold hZB hstep hpx hL1 hYB hX' z1 z2 z3 hZu hpre hoAW havoid hkl hkk htold hnn htk hle hsz
      have FINO := Lib.hid (show ∀ u1, Only (fun j => j = b6 ∨ Rest (ZoF a Zu X') Kp j) Wb u1 → Only (Rest (Zw Zu w2.heap.size) Kp) Wb u1 from fun u1 h => h.mono fun j _ hj => by
        have hbpE := ok.p1
        have hle := ok.le
        rw [hbp] at hbpE
        rcases hj with hj | hj
        · subst hj
          refine ⟨fun hz => ?_, fun hk => by have := hKp _ hk; rw [HWB.out] at this; omega⟩
          rw [HWZ.out] at hz
          rcases hz with hz | hz | hz
          · have := (HZ1.out _ hz).1; omega
          · omega
          · omega
        · refine ⟨fun hz => hj.1 ?_, hj.2⟩
          rw [HWZ.out] at hz
          rcases hz with hz | hz | hz
          · exact .inr (.inl hz)
          · exact .inl ⟨by omega, by omega⟩
          · exact .inl ⟨by omega, by omega⟩)
      have FINX := Lib.hid (show ∀ u1 pr, pr <+: L → Jx (ZoF a Zu X') pr u1 → OvX a L Jx .ret Zu (pre ++ [(xk, xb)]) u1 from fun u1 pr h1 h2 => ⟨rfl, ZoF a Zu X', pr, fun j hj => (HZB.out j hj).1, fun j hz => by
        have hle := ok.le
        rcases hz with hz | hz | hz
        · exact .inr (.inl hz)
        · exact .inl ⟨by omega, by omega⟩
        · exact .inl ⟨by omega, by omega⟩, h1, h2⟩)
      have FINI := Lib.hid (show ∀ u1, Wb.heap.size ≤ u1.heap.size → J (ZoF a Zu X') (ovAt ws (ps.map PRow.plain) (pre ++ [(xk, xb)])).2 u1 → OvSt a l Dm ws ps v3 (ovAt ws (ps.map PRow.plain) (pre ++ [(xk, xb)])).1 u1 → OvI a l Dm ws ps v3 J Zu (pre ++ [(xk, xb)]) u1 from fun u1 h1 h2 h3 =>
        ⟨fun j hj => ⟨(HZ1.out j hj).1, by have := (HZB.out j (.inr (.inl hj))).2; omega⟩, by omega, X', fun j hj => ⟨(HZB.out j (.inr (.inr hj))).1, by have := (HZB.out j (.inr (.inr hj))).2; omega⟩, h2, h3⟩)
      have HFS := Lib.hid (show ∀ u1, Only (fun j => j = b6 ∨ Rest (ZoF a Zu X') Kp j) Wb u1 → AhSt a.B a.E0 l a.y0 a.bp ps v3 a.g (kk + nn) u1 → OvSt a l Dm ws ps v3 (kk + nn) u1 from fun u1 h h2 => by
        have hav : ∀ j, a.B ≤ j → j < a.E0 → j ≠ a.bp → ¬ (j = b6 ∨ Rest (ZoF a Zu X') Kp j) := fun j h3 h4 h5 e => by
          rcases e with e | e
          · rw [hbp] at h5; exact h5 e
          · exact e.1 (.inl ⟨h3, by omega⟩)
        exact ⟨h2, HS1.out.2.1.only h (hav _ ok.a1.1 ok.a1.2 ok.nb.2.1), HS1.out.2.2.1.only h (hav _ ok.w1.1 ok.w1.2 ok.nb.1), HS1.out.2.2.2.only h (hav _ ok.m1.1 ok.m1.2 ok.nb.2.2)⟩)
      gi_wp2_with fail
      refine ⟨trivial, rfl, ((CallsIn.deep 0 HAH.out).inRound _).mono ?_⟩
      rintro e u1 ⟨hoa, (⟨rfl, hS2, hJ2⟩ | ⟨rfl, pr, hpr, hJx2⟩)⟩
      · have hh2 := HH.out Wb u1 HHB.out (by rw [hbp]; exact hoa)
        rw [← hbp, ← hy0] at hS2
        have hS3 := HFS.out u1 hoa hS2
        have c0 := hh2.1.cellv 0 rfl
        have c1 := hh2.1.cellv 1 rfl
        have w0 := hS3.2.2.1.cellv 0 rfl
        have yc := hS2.yb.cellv 0 rfl
        rw [hb7e, hmme] at w0
        rw [hy0] at yc
        obtain ⟨vl, psl, hlook, _⟩ := hS3.2.2.2.1.look_ok law9 Tryz.underlying177 (zero3 u1) (zd := .held (.int .i64 0)) (zp := []) rfl (Go.WideMaps.keyOf_string_mk Tryz.underlying9 hxk)
        rw [hS3.2.2.2.2, hmme] at hlook
        have HS3 := Lib.hid hS3
        have HJ2 := Lib.hid hJ2
        have HOA := Lib.hid hoa
        have hsz1 := hoa.size
        cases hlk : (look ws xk.data.toList).isSome with
        | true =>
          rw [hlk] at hlook
          have hst := HSTEP.out
          rw [if_pos (by simpa using hlk), List.append_nil] at hst
          have HFIN := Lib.hid (FINI.out u1 hsz1 (by rw [hst]; exact hJ2) (by rw [hst]; exact hS3))
          have HFO := Lib.hid (FINO.out u1 hoa)
          clear hst hS3 hJ2 hoa hh2 hS2 hlk
          gi_wp2
          refine ⟨fun _ h => (by cases h), ?_⟩
          gi_wp2
          exact ⟨HFO.out, HFIN.out⟩
        | false =>
          rw [hlk] at hlook
          have hst := HSTEP.out
          rw [if_neg (by simp [hlk])] at hst
          have hYB := HY.out
          rw [HWB.out] at hYB
          have hpx := HPX.out
          have hst2 := congrArg Prod.snd hst
          simp only at hst2
          rw [hst2] at hpx
          have hYl := YieldAt.deep 0 (hYB (ZoF a Zu X') _ (xk, xb) #[.agg #[.string xk, .slice vA xb.length vc]] u1 u1 (fun j hj => ⟨(HZB.out j hj).1, Nat.lt_of_lt_of_le (HZB.out j hj).2 hsz1⟩) hJ2 (Only.refl _ _) ⟨vA, vc, rfl, hh2.2⟩ hpx)
          obtain ⟨fn, tmps, assign, body, hy, hR⟩ := hYl
          have HRR := Lib.hid hR
          have HST2 := Lib.hid hst
          have HPX2 := Lib.hid hpx
          clear hst hS3 hJ2 hoa hh2 hS2 hlk hYB hpx hst2 hR
          gi_wp2
          refine ⟨rfl, RoundIn.mono (F := Fence.wide.inRound _) HRR.out ?_⟩
          rintro e B' (⟨rfl, hJ3, ho3⟩ | ⟨rfl, hJx3, ho3⟩)
          · have hoB := HOA.out.trans (ho3.mono (S' := fun j => j = b6 ∨ Rest (ZoF a Zu X') Kp j) fun j _ hj => .inr hj)
            have HFO := Lib.hid (FINO.out B' hoB)
            have HFIN := Lib.hid (FINI.out B' hoB.size (by rw [HST2.out]; exact hJ3) (by rw [HST2.out]; exact HS3.out.only ok ho3 (fun j h1 h2 hj => hj.1 (.inl ⟨h1, by omega⟩))))
            clear hoB hJ3 ho3 hy
            gi_wp2
            exact ⟨HFO.out, HFIN.out⟩
          · have hoB := HOA.out.trans (ho3.mono (S' := fun j => j = b6 ∨ Rest (ZoF a Zu X') Kp j) fun j _ hj => .inr hj)
            have HFO := Lib.hid (FINO.out B' hoB)
            have HFX := Lib.hid (FINX.out B' _ HPX2.out hJx3)
            clear hoB hJx3 ho3 hy
            gi_wp2
            exact ⟨HFO.out, HFX.out⟩
      · have HFO := Lib.hid (FINO.out u1 hoa)
        have HFX := Lib.hid (FINX.out u1 pr hpr hJx2)
        clear hoa hpr hJx2
        gi_wp2
        exact ⟨HFO.out, HFX.out⟩
    case done =>
      rintro Zu Wd hZu hsz ⟨z1, z2, X, z3, hJ0, hS0⟩ hD
      have ok := HOK.out
      have hle := ok.le
      have hbpE := ok.p1
      rw [HWZ.out] at hD hsz
      have hZB : ∀ j, ZoF a Zu X j → a.B ≤ j ∧ j < Wd.heap.size := fun j hj => by
        rcases hj with hj | hj | hj
        · exact ⟨hj.1, by omega⟩
        · have := z1 j hj; omega
        · exact z3 j hj
      have hkl : (ovAt ws (ps.map PRow.plain) us).1 ≤ ps.length := by have := ovAt_le ws (ps.map PRow.plain) us; rwa [List.length_map] at this
      have hov := HOV.out
      obtain ⟨kk, hkk⟩ : ∃ kk, (ovAt ws (ps.map PRow.plain) us).1 = kk := ⟨_, rfl⟩
      obtain ⟨told, htold⟩ : ∃ told, (ovAt ws (ps.map PRow.plain) us).2 = told := ⟨_, rfl⟩
      rw [hkk] at hS0 hkl
      rw [htold] at hJ0
      rw [hkk, htold] at hov
      have hnn : ahN (fun _ => true) ps kk = (ps.drop kk).length := by unfold ahN; rw [takeWhile_all]
      have htk : told ++ ((ps.drop kk).take (ahN (fun _ => true) ps kk)).map PRow.plain = L := by rw [hnn, List.take_length, hov, List.map_drop]
      have hYB := HY.out
      rw [HWB.out] at hYB
      have hah := ahead_is (Kp := Kp) a.B a.E0 l a.y0 a.bp ps v3 a.g L J Jx HJ.out hYB 97 #[] (fun _ _ => by kernel_rfl) (fun _ => true) (fun _ => True) (ZoF a Zu X)
        (fun u key _ => always_is u key) (fun _ _ _ _ => trivial) (fun j h1 h2 => .inl ⟨h1, by omega⟩) (fun j hj => (hZB j hj).1) kk told Wd (fun j hj => (hZB j hj).2) hkl hS0.1 hJ0 trivial (by rw [htk]; exact List.prefix_rfl)
      unfold AhPost at hah
      rw [htk] at hah
      have hbac := hS0.2.1.cellv 0 rfl
      rw [hba, hbp, hy0] at hbac
      rw [hbp, hy0] at hah
      rw [hbp] at hbpE
      have HAH := Lib.hid hah
      have HD := Lib.hid hD
      have hdl : a.E0 < Wd.heap.size := by omega
      have hfin : ∀ (u1 : World), Only (fun j => j = b6 ∨ Rest (ZoF a Zu X) Kp j) Wd u1 → u1.heap[w2.heap.size]? = some (.deferred (some [])) := fun u1 ho => by
        rw [HWZ.out, ho.block a.E0 hdl (fun e => by
          rcases e with e | e
          · omega
          · exact e.1 (.inl ⟨by omega, by omega⟩))]
        exact hD
      have HFD := Lib.hid hfin
      have HZB2 := Lib.hid (show ∀ j, ZoF a Zu X j → W.heap.size ≤ j from fun j hj => by rw [HWB.out]; exact (hZB j hj).1)
      have HZE := Lib.hid (show ZoF a Zu X w2.heap.size from .inl ⟨by rw [HWZ.out]; exact hle, by rw [HWZ.out]; omega⟩)
      clear hah hD hZB hS0 hJ0 hov hnn htk hYB hkl z1 z2 z3 hZu hfin hkk htold hsz hdl hle
      gi_wp2_with fail
      refine ⟨trivial, (CallsIn.deep 0 HAH.out).mono ?_⟩
      rintro e u1 ⟨hoa, (⟨rfl, _, hJ2⟩ | ⟨rfl, pr, hpr, hJx2⟩)⟩
      · have hD1 := HFD.out u1 hoa
        have HJ2 := Lib.hid hJ2
        clear hJ2 hoa
        gi_wp2
        refine ⟨by simp, .inl ⟨_, _, rfl, run_takeDeferred hD1, ?_⟩⟩
        exact ⟨_, results_none rfl _ _ _, ⟨_, rfl⟩, ZoF a Zu X, HZB2.out, .inl (HJ.out _ _ _ _ HJ2.out ((Only.refl _ _).putObj (.inl HZE.out) _))⟩
      · have hD1 := HFD.out u1 hoa
        have HJ2 := Lib.hid hJx2
        have HPR := Lib.hid hpr
        clear hJx2 hoa hpr
        gi_wp2
        refine ⟨by simp, .inl ⟨_, _, rfl, run_takeDeferred hD1, ?_⟩⟩
        exact ⟨_, results_none rfl _ _ _, ⟨_, rfl⟩, ZoF a Zu X, HZB2.out, .inr ⟨pr, HPR.out, HJx.out _ _ _ _ HJ2.out ((Only.refl _ _).putObj (.inl HZE.out) _)⟩⟩
    case stop =>
      rintro Zu cd pre Wd hZu hpre ⟨rfl, Z, pr, h1, h2, h3, h4⟩ hD
      have HH4 := Lib.hid h4
      have HZZ := Lib.hid (show Z w2.heap.size from h2 _ (by rw [HWZ.out]; exact .inr (.inl rfl)))
      have HZ1 := Lib.hid (show ∀ j, Z j → W.heap.size ≤ j from fun j hj => by rw [HWB.out]; exact h1 j hj)
      have HPR := Lib.hid h3
      clear h1 h2 h3 h4 hpre hZu
      gi_wp2
      refine ⟨by simp, .inl ⟨_, _, rfl, run_takeDeferred hD, ?_⟩⟩
      exact ⟨_, results_none rfl _ _ _, ⟨_, rfl⟩, Z, HZ1.out, .inr ⟨pr, HPR.out, HJx.out _ _ _ _ HH4.out ((Only.refl _ _).putObj (.inl HZZ.out) _)⟩⟩

end Go.Proofs.YtbhihbhjmmeibaaGreat

/-
  Layer 17: a transaction in memory; New, Ended, isKey, open, Snapshot, Writes, Over's boxes.
-/
namespace Go.Proofs.YtbhihbhjmmeibaaGreat
open Go.RowKit Go.Shelf

/-- whole numbers in memory, from a slice's place on -/
def IntsAt (w : World) (A : Option Addr) (xs : List Int) : Prop := ∀ (i : Nat) (x : Int), xs[i]? = some x → ∃ g off, A = some ⟨g, off, none⟩ ∧ g < w.heap.size ∧ w.cell? ⟨g, off + i, none⟩ = some (.int .i64 x)
theorem IntsAt.turn {w w' : World} {A : Option Addr} {xs : List Int} {S : Nat → Prop} (h : IntsAt w A xs) (ho : Only S w w') (hS : ∀ g off, A = some ⟨g, off, none⟩ → ¬ S g) : IntsAt w' A xs := fun i c hc => by
  obtain ⟨g, off, hA, hg, h1⟩ := h i c hc
  exact ⟨g, off, hA, Nat.lt_of_lt_of_le hg ho.size, (ho.cell (p := ⟨g, off + i, none⟩) hg (hS g off hA)).trans h1⟩
theorem IntsAt.keep {w w' : World} {A : Option Addr} {xs : List Int} (h : IntsAt w A xs) (ho : Only NoneOf w w') : IntsAt w' A xs := h.turn ho (fun _ _ _ h => h)
abbrev intV (x : Int) : Value := .int .i64 x
/-- a slice of whole numbers that is its own -/
def RowI (w : World) (B : Nat) (v : Value) (xs : List Int) : Prop := w.ownsRow B 3 1 v xs.length (xs.map intV)
theorem RowI.at {w : World} {B : Nat} {v : Value} {xs : List Int} (h : RowI w B v xs) : ∃ A cap, v = .slice A xs.length cap ∧ IntsAt w A xs ∧ ∀ g off, A = some ⟨g, off, none⟩ → B ≤ g ∧ g < w.heap.size := by
  rcases h.2 with ⟨rfl, h0⟩ | ⟨g, cap, cur, rfl, hB, hb, hle, _, hsz, hcur⟩
  · obtain rfl : xs = [] := List.eq_nil_of_length_eq_zero h0
    exact ⟨none, 0, rfl, fun i x hx => by simp at hx, fun g off h => (by cases h)⟩
  · refine ⟨_, cap, rfl, fun i c hi => ⟨g, 0, rfl, Blk.lt (t := 3) (cs := cur) hb, ?_⟩, fun g' off h => ?_⟩
    · have hil : i < xs.length := (List.getElem?_eq_some_iff.1 hi).1
      have : (xs.map intV)[i]? = some (intV c) := by rw [List.getElem?_map, hi]; rfl
      rw [Nat.zero_add, Blk.cell (t := 3) (cs := cur) hb, ← this, ← hcur, List.getElem?_take_of_lt (by omega), Array.getElem?_toList]
    · injection h with h
      injection h with h _ _
      subst h
      exact ⟨hB, Blk.lt (t := 3) (cs := cur) hb⟩
theorem info3i : (Tryz.prog.info? 3).map (fun i => (i.zero, i.size, i.bytes)) = some (some (.int .i64 0), 1, 8) := by kernel_rfl

set_option maxRecDepth 100000 in
set_option maxHeartbeats 1000000 in
theorem clone_ints (w : World) (A : Option Addr) (n c : Nat) (xs : List Int) (hn : xs.length = n) (h0 : 0 < n) (hA : IntsAt w A xs) (hfew : n * 8 ≤ 140737488355328) :
    Calls Tryz.prog 35 #[.slice A n c] w fun e w' => ∃ v, e = .returned v ∧ RowI w' w.heap.size v xs ∧ Only NoneOf w w' := by
  obtain ⟨i0, hi, hz0, hz1, hz3⟩ := info_parts info3i
  obtain ⟨g, off, rfl, hg, _⟩ := hA 0 (xs[0]'(by omega)) (List.getElem?_eq_getElem (by omega))
  have hnil := fun (u : World) a n c => Lib.run_eql_slice_nil (P := Tryz.prog) u 22 3 a n c 0 0 Tryz.underlying22
  have hown := own_empty (B := w.heap.size) (sz := 1) (Blk.new w 3 #[]) (Nat.le_refl _)
  have HOWN := Lib.hid hown
  have HN := Lib.hid hn
  have HA := Lib.hid (hA.keep ((Only.refl NoneOf w).alloc (.cells #[] 3)))
  clear hA hown
  go_enter Tryz.func35, Tryz.ntmps35
  go_wp2_with (at_builtin; refine wpList_append_any rfl (.tmp 5) (.tmp 6) 22 rfl w.heap.size 3 i0 _ 1 8 Tryz.underlying22 hi hz0 hz1 hz3 rfl (by decide) _ 0 [] rfl HOWN.out (some ⟨g, off, none⟩) n c (xs.map intV) rfl (by rw [List.length_map, HN.out, Nat.mul_one]) (fun j u hj => by rw [List.getElem?_map] at hj; obtain ⟨x, hx, rfl⟩ := Option.map_eq_some_iff.1 hj; obtain ⟨g', off', e, _, h1⟩ := HA.out j x hx; exact ⟨g', off', e, h1⟩) (fun u hu => by obtain ⟨x, _, rfl⟩ := List.mem_map.1 hu; rfl) (by unfold maxLen; omega) (by omega) (by simp) ?_; intro v' w3 hown' ho3 hat; have HOWN2 := Lib.hid hown'; have HO3 := Lib.hid ho3; obtain ⟨Av', cv', rfl⟩ := ownsRow_slice hown'; clear hown' ho3 hat)
  go_ret
  refine ⟨_, rfl, ?_, ((Only.refl NoneOf w).alloc (.cells #[] 3)).step HO3.out (fun k hk e => by
    have e1 : (Value.slice (some ⟨w.heap.size, 0, none⟩) 0 0).ownBlock = some k := e
    simp [Value.ownBlock] at e1
    omega)⟩
  have := HOWN2.out
  rw [Nat.zero_add, List.nil_append] at this
  unfold RowI
  rw [HN.out]
  exact this

/-- a transaction: block t, its set p with the map m; U are blocks that others turn -/
structure TxR (w : World) (t p m : Nat) (U : Nat → Prop) (place : Nat) (snap : List Int) (ws : List We) (ended : Bool) (N : Nat) : Prop where
  blk : ∃ A c, Blk w t 92 #[.int .i64 place, .slice A snap.length c, .pointer (some ⟨p, 0, none⟩), .bool ended] ∧ IntsAt w A snap ∧ ∀ g off, A = some ⟨g, off, none⟩ → g ≠ t ∧ g ≠ p ∧ g ≠ m ∧ ¬ U g
  set : SetR w p m (fun k => k = t ∨ U k) ws N
  ult : ∀ k, U k → k < w.heap.size ∧ k ≠ t
  pl : place < snap.length
  sn : ∀ x, snap[place]? = some x → 0 ≤ x
  few : snap.length * 8 ≤ 140737488355328
theorem TxR.other {w w' : World} {t p m place N : Nat} {snap : List Int} {ws : List We} {ended : Bool} {U U' S : Nat → Prop} (h : TxR w t p m U place snap ws ended N) (ho : Only S w w') (hS : ∀ k, S k → U k) (hU : ∀ k, U' k → k < w'.heap.size ∧ (U k ∨ w.heap.size ≤ k)) : TxR w' t p m U' place snap ws ended N := by
  obtain ⟨A, c, h1, h2, h3⟩ := h.blk
  have htl := h1.lt
  refine ⟨⟨A, c, h1.only ho (fun hs => (h.ult t (hS t hs)).2 rfl), h2.turn ho (fun g off hA hs => (h3 g off hA).2.2.2 (hS g hs)), fun g off hA => ⟨(h3 g off hA).1, (h3 g off hA).2.1, (h3 g off hA).2.2.1, fun hu => ?_⟩⟩, h.set.other ho (fun k hk => .inr (hS k hk)) (fun k hk => ?_), fun k hk => ⟨(hU k hk).1, ?_⟩, h.pl, h.sn, h.few⟩
  · rcases (hU g hu).2 with h4 | h4
    · exact (h3 g off hA).2.2.2 h4
    · obtain ⟨g', off', hA', hg', _⟩ := h2 0 _ (List.getElem?_eq_getElem (by have := h.pl; omega))
      rw [hA] at hA'
      simp only [Option.some.injEq, Addr.mk.injEq, and_true] at hA'
      omega
  · rcases hk with rfl | hk
    · exact ⟨Nat.lt_of_lt_of_le htl ho.size, .inl (.inl rfl)⟩
    · exact ⟨(hU k hk).1, (hU k hk).2.imp_left .inr⟩
  · rcases (hU k hk).2 with h4 | h4
    · exact (h.ult k h4).2
    · omega
theorem TxR.keep {w w' : World} {t p m place N : Nat} {snap : List Int} {ws : List We} {ended : Bool} {U : Nat → Prop} (h : TxR w t p m U place snap ws ended N) (ho : Only NoneOf w w') : TxR w' t p m U place snap ws ended N :=
  h.other ho (fun _ h => h.elim) (fun k hk => ⟨Nat.lt_of_lt_of_le (h.ult k hk).1 ho.size, .inl hk⟩)

theorem isKey_is (w : World) (key : ByteArray) : Calls Tryz.prog 64 #[.string key] w fun e w' => e = .returned (.bool (decide (1 ≤ key.size ∧ key.size ≤ 255))) ∧ w = w' := by
  obtain ⟨nk, hnk⟩ : ∃ nk, key.size = nk := ⟨_, rfl⟩
  rw [hnk]
  by_cases h1 : nk < 1
  · rw [decide_eq_false (by omega)]
    go_enter Tryz.func64, Tryz.ntmps64
    go_wp2_with fail
    go_ret
    exact ⟨rfl, rfl⟩
  · by_cases h2 : 255 < nk
    · rw [decide_eq_false (by omega)]
      have e255 : decide ((nk : Int) ≤ 255) = false := decide_eq_false (by omega)
      go_enter Tryz.func64, Tryz.ntmps64
      go_wp2_with fail
      go_ret
      exact ⟨rfl, rfl⟩
    · rw [decide_eq_true (by omega)]
      have h3 : 1 ≤ nk := by omega
      have h4 : nk ≤ 255 := by omega
      have e255 : decide ((nk : Int) ≤ 255) = true := decide_eq_true (by omega)
      clear h1 h2
      go_enter Tryz.func64, Tryz.ntmps64
      go_wp2_with fail
      go_ret
      exact ⟨rfl, rfl⟩

theorem ended_is (w : World) (t p m place N : Nat) (snap : List Int) (ws : List We) (ended : Bool) (U : Nat → Prop) (h : TxR w t p m U place snap ws ended N) : Calls Tryz.prog 15 #[.pointer (some ⟨t, 0, none⟩)] w fun e w' => e = .returned (.bool ended) ∧ w = w' := by
  obtain ⟨A, c, h1, _⟩ := h.blk
  have c3 := h1.cellv 3 rfl
  clear h h1
  go_enter Tryz.func15, Tryz.ntmps15
  go_wp2_with fail
  go_ret
  exact ⟨rfl, rfl⟩
theorem ended_nil (w : World) : Calls Tryz.prog 15 #[.pointer none] w fun e w' => e = .returned (.bool true) ∧ w = w' := by
  go_enter Tryz.func15, Tryz.ntmps15
  go_wp2_with fail
  go_ret
  exact ⟨rfl, rfl⟩

/-- what open answers -/
def openC (ended : Bool) (n : Nat) (x : Int) : Int := if ended = true then 173 else if x < 0 ∨ (n : Int) ≤ x then 2 else 0
theorem open_is (w : World) (t p m place N : Nat) (snap : List Int) (ws : List We) (ended : Bool) (U : Nat → Prop) (h : TxR w t p m U place snap ws ended N) (x : Int) : Calls Tryz.prog 63 #[.pointer (some ⟨t, 0, none⟩), .int .i64 x] w fun e w' => e = .returned (.int .i64 (openC ended snap.length x)) ∧ w = w' := by
  have HE := Lib.hid (ended_is w t p m place N snap ws ended U h)
  obtain ⟨A, c, h1, _⟩ := h.blk
  have c1 := h1.cellv 1 rfl
  obtain ⟨n, hn⟩ : ∃ n, snap.length = n := ⟨_, rfl⟩
  rw [hn] at c1 ⊢
  clear h h1 hn
  unfold openC
  cases ended with
  | true =>
    rw [if_pos rfl]
    go_enter Tryz.func63, Tryz.ntmps63
    go_wp2_with fail
    refine HE.out.mono ?_; rintro e w1 ⟨rfl, rfl⟩
    go_wp2_with fail
    go_ret
    exact ⟨rfl, rfl⟩
  | false =>
    rw [if_neg (by decide)]
    by_cases h1 : x < 0
    · rw [if_pos (.inl h1)]
      go_enter Tryz.func63, Tryz.ntmps63
      go_wp2_with fail
      refine HE.out.mono ?_; rintro e w1 ⟨rfl, rfl⟩
      go_wp2_with fail
      go_ret
      exact ⟨rfl, rfl⟩
    · by_cases h2 : (n : Int) ≤ x
      · rw [if_pos (.inr h2)]
        go_enter Tryz.func63, Tryz.ntmps63
        go_wp2_with fail
        refine HE.out.mono ?_; rintro e w1 ⟨rfl, rfl⟩
        go_wp2_with fail
        go_ret
        exact ⟨rfl, rfl⟩
      · rw [if_neg (by omega)]
        go_enter Tryz.func63, Tryz.ntmps63
        go_wp2_with fail
        refine HE.out.mono ?_; rintro e w1 ⟨rfl, rfl⟩
        go_wp2_with fail
        go_ret
        exact ⟨rfl, rfl⟩

set_option maxHeartbeats 400000 in
theorem snapshot_is (w : World) (t p m place N : Nat) (snap : List Int) (ws : List We) (ended : Bool) (U : Nat → Prop) (h : TxR w t p m U place snap ws ended N) : Calls Tryz.prog 14 #[.pointer (some ⟨t, 0, none⟩)] w fun e w' => ∃ v, e = .returned v ∧ RowI w' w.heap.size v snap ∧ Only NoneOf w w' := by
  obtain ⟨A, c, h1, h2, _⟩ := h.blk
  have HC := Lib.hid (clone_ints w A snap.length c snap rfl (by have := h.pl; omega) h2 h.few)
  have c1 := h1.cellv 1 rfl
  clear h h1 h2
  go_enter Tryz.func14, Tryz.ntmps14
  go_wp2_with fail
  refine HC.out.mono ?_; rintro e w1 ⟨v, rfl, hr, ho⟩
  obtain ⟨A', c', rfl, _⟩ := hr.at
  have HR := Lib.hid hr
  have HO := Lib.hid ho
  clear hr ho
  go_wp2_with fail
  go_ret
  exact ⟨_, rfl, HR.out, HO.out⟩

set_option maxHeartbeats 400000 in
theorem txWrites_is (w : World) (t p m place N : Nat) (snap : List Int) (ws : List We) (ended : Bool) (U : Nat → Prop) (h : TxR w t p m U place snap ws ended N) (hN : N ≤ 1048576) : Calls Tryz.prog 16 #[.pointer (some ⟨t, 0, none⟩)] w (VersPost (ws.map verW) w) := by
  obtain ⟨A, c, h1, h2, _⟩ := h.blk
  have HC := Lib.hid (writesR w p m N _ ws h.set hN)
  have c2 := h1.cellv 2 rfl
  clear h h1 h2
  go_enter Tryz.func16, Tryz.ntmps16
  go_wp2_with fail
  refine HC.out.mono ?_; rintro e w1 ⟨v, rs, rfl, hr, hpl, ho⟩
  obtain ⟨A', c', rfl⟩ := ownsRow_slice hr.own
  have HR := Lib.hid hr
  have HO := Lib.hid ho
  have HPL := Lib.hid hpl
  clear hr ho hpl
  go_wp2_with fail
  go_ret
  exact ⟨_, rs, rfl, HR.out, HPL.out, HO.out⟩

def overBoxes (w : World) (p : Nat) (fr tt : ByteArray) (fv : Value) : World :=
  (((w.alloc (.cells #[.pointer (some ⟨p, 0, none⟩)] 89)).alloc (.cells #[.string fr] 9)).alloc (.cells #[.string tt] 9)).alloc (.cells #[fv] 151)
theorem over_is (w : World) (p : Nat) (fr tt : ByteArray) (gf : Nat) (lb : Array Value) : Calls Tryz.prog 70 #[.pointer (some ⟨p, 0, none⟩), .string fr, .string tt, .func (.func gf) #[] lb] w fun e w' => e = .returned (.func (.func 92) #[] (scanFn w.heap.size)) ∧ overBoxes w p fr tt (.func (.func gf) #[] lb) = w' := by
  go_enter Tryz.func70, Tryz.ntmps70
  go_wp2_with fail
  go_ret
  exact ⟨rfl, rfl⟩

end Go.Proofs.YtbhihbhjmmeibaaGreat

/-
  Layer 15's account: the contracts of its calls.
-/
namespace Go.Proofs.YtbhihbhjmmeibaaGreat
namespace Qa
open Go.RowKit

theorem within_any (n m : Int) (w : World) : Calls Tryz.prog 56 #[.int .i64 n, .int .i64 m] w fun e w' => e = .returned (.bool (decide (0 ≤ n ∧ n ≤ m))) ∧ w = w' := by
  by_cases h : 0 ≤ n
  · by_cases h2 : n ≤ m
    · go_enter Tryz.func56, Tryz.ntmps56
      go_wp2
      go_ret
      exact ⟨by simp [h, h2], rfl⟩
    · go_enter Tryz.func56, Tryz.ntmps56
      go_wp2
      go_ret
      exact ⟨by simp [h2], rfl⟩
  · go_enter Tryz.func56, Tryz.ntmps56
    go_wp2
    go_ret
    exact ⟨by simp; omega, rfl⟩

/-- An account's fields. -/
structure Ac where
  most : Int
  mostOpen : Int
  live : Int
  pending : Int
  opened : Int

def Ac.cells (s : Ac) : Array Value := #[.int .i64 s.most, .int .i64 s.mostOpen, .int .i64 s.live, .int .i64 s.pending, .int .i64 s.opened]

/-- What every account keeps. -/
structure Ac.Ok (s : Ac) : Prop where
  m0 : 0 ≤ s.most
  m1 : s.most ≤ 1048576
  o0 : 0 ≤ s.mostOpen
  o1 : s.mostOpen ≤ 32
  l0 : 0 ≤ s.live
  p0 : 0 ≤ s.pending
  u1 : s.live + s.pending ≤ s.most
  n0 : 0 ≤ s.opened
  n1 : s.opened ≤ s.mostOpen

def AcIs (w : World) (b : Nat) (s : Ac) : Prop := Blk w b 101 s.cells

/-- How a call on an account ends: an int; the account's block alone has turned. -/
def AcPost (b : Nat) (c : Int) (s' : Ac) (w : World) (e : Ending) (w' : World) : Prop :=
  e = .returned (.int .i64 c) ∧ AcIs w' b s' ∧ Only (· = b) w w'

theorem AcIs.facts {w : World} {b : Nat} {s : Ac} (h : AcIs w b s) :
    w.cell? ⟨b, 0, none⟩ = some (.int .i64 s.most) ∧ w.cell? ⟨b, 1, none⟩ = some (.int .i64 s.mostOpen) ∧ w.cell? ⟨b, 2, none⟩ = some (.int .i64 s.live) ∧
    w.cell? ⟨b, 3, none⟩ = some (.int .i64 s.pending) ∧ w.cell? ⟨b, 4, none⟩ = some (.int .i64 s.opened) ∧
    w.frozen? ⟨b, 2, none⟩ = false ∧ w.frozen? ⟨b, 3, none⟩ = false ∧ w.frozen? ⟨b, 4, none⟩ = false :=
  ⟨h.cellv 0 rfl, h.cellv 1 rfl, h.cellv 2 rfl, h.cellv 3 rfl, h.cellv 4 rfl, h.free 2, h.free 3, h.free 4⟩

set_option maxHeartbeats 400000 in
theorem used_has (b : Nat) (s : Ac) (w : World) (h : AcIs w b s) (ok : s.Ok) :
    Calls Tryz.prog 18 #[.pointer (some ⟨b, 0, none⟩)] w fun e w' => e = .returned (.int .i64 (s.live + s.pending)) ∧ ∃ n, w' = w.drewN n := by
  obtain ⟨c0, c1, c2, c3, c4, f2, f3, f4⟩ := h.facts
  obtain ⟨m0, m1, o0, o1, l0, p0, u1, n0, n1⟩ := ok
  go_enter Tryz.func18, Tryz.ntmps18
  go_wp2
  go_quiet (fail)
  go_wp2
  go_ret
  exact ⟨rfl, _, rfl⟩

set_option maxHeartbeats 400000 in
theorem begin_full (b : Nat) (s : Ac) (w : World) (h : AcIs w b s) (ok : s.Ok) (hn : s.mostOpen ≤ s.opened) :
    Calls Tryz.prog 37 #[.pointer (some ⟨b, 0, none⟩)] w (AcPost b 151 s w) := by
  obtain ⟨c0, c1, c2, c3, c4, f2, f3, f4⟩ := h.facts
  obtain ⟨m0, m1, o0, o1, l0, p0, u1, n0, n1⟩ := ok
  go_enter Tryz.func37, Tryz.ntmps37
  go_wp2
  go_quiet (fail)
  go_wp2
  go_ret
  exact ⟨rfl, h.drewN _, (Only.refl _ _).drewN _⟩

set_option maxHeartbeats 400000 in
theorem begin_ok (b : Nat) (s : Ac) (w : World) (h : AcIs w b s) (ok : s.Ok) (hn : s.opened < s.mostOpen) :
    Calls Tryz.prog 37 #[.pointer (some ⟨b, 0, none⟩)] w (AcPost b 0 { s with opened := s.opened + 1 } w) := by
  obtain ⟨c0, c1, c2, c3, c4, f2, f3, f4⟩ := h.facts
  obtain ⟨m0, m1, o0, o1, l0, p0, u1, n0, n1⟩ := ok
  go_enter Tryz.func37, Tryz.ntmps37
  go_wp2
  go_quiet (fail)
  go_wp2
  go_ret
  exact ⟨rfl, (h.drewN _).put 4 _, ((Only.refl (· = b) w).drewN _).put (.inl rfl) _⟩


theorem within_yes (n m : Int) (w : World) (h0 : 0 ≤ n) (h1 : n ≤ m) : Calls Tryz.prog 56 #[.int .i64 n, .int .i64 m] w fun e w' => e = .returned (.bool true) ∧ w = w' :=
  (within_any n m w).mono fun _ _ ⟨he, hw⟩ => ⟨by rw [he, decide_eq_true ⟨h0, h1⟩], hw⟩
theorem within_no (n m : Int) (w : World) (h : ¬ (0 ≤ n ∧ n ≤ m)) : Calls Tryz.prog 56 #[.int .i64 n, .int .i64 m] w fun e w' => e = .returned (.bool false) ∧ w = w' :=
  (within_any n m w).mono fun _ _ ⟨he, hw⟩ => ⟨by rw [he, decide_eq_false h], hw⟩

set_option maxHeartbeats 400000 in
theorem charge_arg1 (b : Nat) (s : Ac) (old now : Int) (w : World) (h : AcIs w b s) (ok : s.Ok) (hn : ¬ (0 ≤ old ∧ old ≤ s.pending)) :
    Calls Tryz.prog 88 #[.pointer (some ⟨b, 0, none⟩), .int .i64 old, .int .i64 now] w (AcPost b 2 s w) := by
  obtain ⟨c0, c1, c2, c3, c4, f2, f3, f4⟩ := h.facts
  obtain ⟨m0, m1, o0, o1, l0, p0, u1, n0, n1⟩ := ok
  have W := Lib.hid (within_no _ _ w hn); clear hn
  go_enter Tryz.func88, Tryz.ntmps88
  go_wp2_with (go_at_call 56; refine W.out.mono ?_; rintro e w' ⟨rfl, rfl⟩)
  go_ret
  exact ⟨rfl, h, Only.refl _ _⟩

set_option maxHeartbeats 400000 in
theorem charge_arg2 (b : Nat) (s : Ac) (old now : Int) (w : World) (h : AcIs w b s) (ok : s.Ok) (hy0 : 0 ≤ old) (hy1 : old ≤ s.pending) (hn : ¬ (0 ≤ now ∧ now ≤ 1048576)) :
    Calls Tryz.prog 88 #[.pointer (some ⟨b, 0, none⟩), .int .i64 old, .int .i64 now] w (AcPost b 2 s w) := by
  obtain ⟨c0, c1, c2, c3, c4, f2, f3, f4⟩ := h.facts
  obtain ⟨m0, m1, o0, o1, l0, p0, u1, n0, n1⟩ := ok
  have W := Lib.hid (within_yes _ _ w hy0 hy1)
  have W2 := Lib.hid (within_no _ _ w hn); clear hn
  go_enter Tryz.func88, Tryz.ntmps88
  go_wp2_with fail
  refine W.out.mono ?_; rintro e w' ⟨rfl, rfl⟩
  go_wp2_with fail
  refine W2.out.mono ?_; rintro e w' ⟨rfl, rfl⟩
  go_wp2_with fail
  go_ret
  exact ⟨rfl, h, Only.refl _ _⟩

set_option maxHeartbeats 400000 in
theorem charge_much (b : Nat) (s : Ac) (old now : Int) (w : World) (h : AcIs w b s) (ok : s.Ok) (hy0 : 0 ≤ old) (hy1 : old ≤ s.pending) (hz0 : 0 ≤ now) (hz1 : now ≤ 1048576)
    (hm : s.most < s.live + s.pending - old + now) :
    Calls Tryz.prog 88 #[.pointer (some ⟨b, 0, none⟩), .int .i64 old, .int .i64 now] w (AcPost b 150 s w) := by
  obtain ⟨c0, c1, c2, c3, c4, f2, f3, f4⟩ := h.facts
  have U := fun u hu => Lib.hid (used_has b s u hu ok)
  obtain ⟨m0, m1, o0, o1, l0, p0, u1, n0, n1⟩ := ok
  have W := Lib.hid (within_yes _ _ w hy0 hy1)
  have W2 := Lib.hid (within_yes _ _ w hz0 hz1)
  go_enter Tryz.func88, Tryz.ntmps88
  go_wp2_with fail
  refine W.out.mono ?_; rintro e w' ⟨rfl, rfl⟩
  go_wp2_with fail
  refine W2.out.mono ?_; rintro e w' ⟨rfl, rfl⟩
  go_wp2_with fail
  go_quiet ((go_at_call 18; exact Calls.quiet_of (U _ (h.drewN _)).out))
  go_wp2_with fail
  go_ret
  exact ⟨rfl, h.drewN _, (Only.refl _ _).drewN _⟩

set_option maxHeartbeats 400000 in
theorem charge_ok (b : Nat) (s : Ac) (old now : Int) (w : World) (h : AcIs w b s) (ok : s.Ok) (hy0 : 0 ≤ old) (hy1 : old ≤ s.pending) (hz0 : 0 ≤ now) (hz1 : now ≤ 1048576)
    (hm : s.live + s.pending - old + now ≤ s.most) :
    Calls Tryz.prog 88 #[.pointer (some ⟨b, 0, none⟩), .int .i64 old, .int .i64 now] w (AcPost b 0 { s with pending := s.pending + (now - old) } w) := by
  obtain ⟨c0, c1, c2, c3, c4, f2, f3, f4⟩ := h.facts
  have U := fun u hu => Lib.hid (used_has b s u hu ok)
  obtain ⟨m0, m1, o0, o1, l0, p0, u1, n0, n1⟩ := ok
  have W := Lib.hid (within_yes _ _ w hy0 hy1)
  have W2 := Lib.hid (within_yes _ _ w hz0 hz1)
  go_enter Tryz.func88, Tryz.ntmps88
  go_wp2_with fail
  refine W.out.mono ?_; rintro e w' ⟨rfl, rfl⟩
  go_wp2_with fail
  refine W2.out.mono ?_; rintro e w' ⟨rfl, rfl⟩
  go_wp2_with fail
  go_quiet ((go_at_call 18; exact Calls.quiet_of (U _ (h.drewN _)).out))
  go_wp2_with fail
  go_ret
  exact ⟨rfl, (h.drewN _).put 3 _, ((Only.refl (· = b) w).drewN _).put (.inl rfl) _⟩

end Qa
end Go.Proofs.YtbhihbhjmmeibaaGreat

/-
  Layer 15's account: the contracts of its calls, second part.
-/
namespace Go.Proofs.YtbhihbhjmmeibaaGreat
namespace Qa
open Go.RowKit

set_option maxHeartbeats 400000 in
theorem end_none (b : Nat) (s : Ac) (x : Int) (w : World) (h : AcIs w b s) (ok : s.Ok) (hn : s.opened ≤ 0) :
    Calls Tryz.prog 44 #[.pointer (some ⟨b, 0, none⟩), .int .i64 x] w (AcPost b 2 s w) := by
  obtain ⟨c0, c1, c2, c3, c4, f2, f3, f4⟩ := h.facts
  obtain ⟨m0, m1, o0, o1, l0, p0, u1, n0, n1⟩ := ok
  have e0 : (s.opened == 0) = true := beq_iff_eq.2 (by omega)
  go_enter Tryz.func44, Tryz.ntmps44
  go_wp2_with fail
  go_ret
  exact ⟨rfl, h, Only.refl _ _⟩

set_option maxHeartbeats 400000 in
theorem end_arg (b : Nat) (s : Ac) (x : Int) (w : World) (h : AcIs w b s) (ok : s.Ok) (hn : 0 < s.opened) (hx : ¬ (0 ≤ x ∧ x ≤ s.pending)) :
    Calls Tryz.prog 44 #[.pointer (some ⟨b, 0, none⟩), .int .i64 x] w (AcPost b 2 s w) := by
  obtain ⟨c0, c1, c2, c3, c4, f2, f3, f4⟩ := h.facts
  obtain ⟨m0, m1, o0, o1, l0, p0, u1, n0, n1⟩ := ok
  have e0 : (s.opened == 0) = false := beq_eq_false_iff_ne.2 (by omega)
  have W := Lib.hid (within_no _ _ w hx); clear hx
  go_enter Tryz.func44, Tryz.ntmps44
  go_wp2_with fail
  refine W.out.mono ?_; rintro e w' ⟨rfl, rfl⟩
  go_wp2_with fail
  go_ret
  exact ⟨rfl, h, Only.refl _ _⟩

set_option maxHeartbeats 400000 in
theorem end_ok (b : Nat) (s : Ac) (x : Int) (w : World) (h : AcIs w b s) (ok : s.Ok) (hn : 0 < s.opened) (hx0 : 0 ≤ x) (hx1 : x ≤ s.pending) :
    Calls Tryz.prog 44 #[.pointer (some ⟨b, 0, none⟩), .int .i64 x] w (AcPost b 0 { s with opened := s.opened - 1, pending := s.pending - x } w) := by
  obtain ⟨c0, c1, c2, c3, c4, f2, f3, f4⟩ := h.facts
  obtain ⟨m0, m1, o0, o1, l0, p0, u1, n0, n1⟩ := ok
  have e0 : (s.opened == 0) = false := beq_eq_false_iff_ne.2 (by omega)
  have W := Lib.hid (within_yes _ _ w hx0 hx1)
  go_enter Tryz.func44, Tryz.ntmps44
  go_wp2_with fail
  refine W.out.mono ?_; rintro e w' ⟨rfl, rfl⟩
  go_wp2_with fail
  go_ret
  exact ⟨rfl, (h.put 4 _).put 3 _, ((Only.refl (· = b) w).put (.inl rfl) _).put (.inl rfl) _⟩

set_option maxHeartbeats 400000 in
theorem pending_has (b : Nat) (s : Ac) (w : World) (h : AcIs w b s) :
    Calls Tryz.prog 24 #[.pointer (some ⟨b, 0, none⟩)] w fun e w' => e = .returned (.int .i64 s.pending) ∧ w = w' := by
  obtain ⟨c0, c1, c2, c3, c4, f2, f3, f4⟩ := h.facts
  go_enter Tryz.func24, Tryz.ntmps24
  go_wp2_with fail
  go_ret
  exact ⟨rfl, rfl⟩

set_option maxHeartbeats 400000 in
theorem open_has (b : Nat) (s : Ac) (w : World) (h : AcIs w b s) :
    Calls Tryz.prog 25 #[.pointer (some ⟨b, 0, none⟩)] w fun e w' => e = .returned (.int .i64 s.opened) ∧ w = w' := by
  obtain ⟨c0, c1, c2, c3, c4, f2, f3, f4⟩ := h.facts
  go_enter Tryz.func25, Tryz.ntmps25
  go_wp2_with fail
  go_ret
  exact ⟨rfl, rfl⟩

def NewPost (q o : Int) (w : World) (e : Ending) (w' : World) : Prop :=
  ∃ b, e = .returned (.tuple #[.pointer (some ⟨b, 0, none⟩), .int .i64 0]) ∧ w.heap.size ≤ b ∧ AcIs w' b ⟨q, o, 0, 0, 0⟩ ∧ Only NoneOf w w'

def NewBad (w : World) (e : Ending) (w' : World) : Prop :=
  e = .returned (.tuple #[.pointer none, .int .i64 2]) ∧ Only NoneOf w w'

set_option maxHeartbeats 400000 in
theorem new_ok (q o x y z : Int) (w : World) (h0 : 0 ≤ q) (h1 : q ≤ 1048576) (h2 : 0 ≤ o) (h3 : o ≤ 32) :
    Calls Tryz.prog 27 #[.agg #[.int .i64 q, .int .i64 o, .int .i64 x, .int .i64 y, .int .i64 z]] w (NewPost q o w) := by
  have W := fun u => Lib.hid (within_yes _ _ u h0 h1)
  have W2 := fun u => Lib.hid (within_yes _ _ u h2 h3)
  go_enter Tryz.func27, Tryz.ntmps27
  go_wp2_with fail
  refine (W _).out.mono ?_; rintro e w' ⟨rfl, rfl⟩
  go_wp2_with fail
  refine (W2 _).out.mono ?_; rintro e w' ⟨rfl, rfl⟩
  go_wp2_with fail
  go_ret2
  exact ⟨_, rfl, by simp, Blk.new' _ _ _ (by simp), ((Only.refl NoneOf w).alloc _).alloc _⟩

set_option maxHeartbeats 400000 in
theorem new_bad1 (q o x y z : Int) (w : World) (h : ¬ (0 ≤ q ∧ q ≤ 1048576)) :
    Calls Tryz.prog 27 #[.agg #[.int .i64 q, .int .i64 o, .int .i64 x, .int .i64 y, .int .i64 z]] w (NewBad w) := by
  have W := fun u => Lib.hid (within_no _ _ u h); clear h
  go_enter Tryz.func27, Tryz.ntmps27
  go_wp2_with fail
  refine (W _).out.mono ?_; rintro e w' ⟨rfl, rfl⟩
  go_wp2_with fail
  go_ret2
  exact ⟨rfl, (Only.refl NoneOf w).alloc _⟩

set_option maxHeartbeats 400000 in
theorem new_bad2 (q o x y z : Int) (w : World) (h0 : 0 ≤ q) (h1 : q ≤ 1048576) (h : ¬ (0 ≤ o ∧ o ≤ 32)) :
    Calls Tryz.prog 27 #[.agg #[.int .i64 q, .int .i64 o, .int .i64 x, .int .i64 y, .int .i64 z]] w (NewBad w) := by
  have W := fun u => Lib.hid (within_yes _ _ u h0 h1)
  have W2 := fun u => Lib.hid (within_no _ _ u h); clear h
  go_enter Tryz.func27, Tryz.ntmps27
  go_wp2_with fail
  refine (W _).out.mono ?_; rintro e w' ⟨rfl, rfl⟩
  go_wp2_with fail
  refine (W2 _).out.mono ?_; rintro e w' ⟨rfl, rfl⟩
  go_wp2_with fail
  go_ret2
  exact ⟨rfl, (Only.refl NoneOf w).alloc _⟩

def Limits (q o : Int) : Prop := 0 ≤ q ∧ q ≤ 1048576 ∧ 0 ≤ o ∧ o ≤ 32

theorem new_bad (q o x y z : Int) (w : World) (h : ¬ Limits q o) :
    Calls Tryz.prog 27 #[.agg #[.int .i64 q, .int .i64 o, .int .i64 x, .int .i64 y, .int .i64 z]] w (NewBad w) := by
  by_cases h1 : 0 ≤ q ∧ q ≤ 1048576
  · exact new_bad2 q o x y z w h1.1 h1.2 fun h2 => h ⟨h1.1, h1.2, h2.1, h2.2⟩
  · exact new_bad1 q o x y z w h1

theorem only_past {w w' : World} {o : Obj} (h : Only NoneOf (w.alloc o) w') : Only NoneOf w w' := ((Only.refl NoneOf w).alloc o).trans h

end Qa
end Go.Proofs.YtbhihbhjmmeibaaGreat

/-
  Layer 15's calls as functions on an account's numbers; 'one' of the law's file.
-/
namespace Go.Proofs.YtbhihbhjmmeibaaGreat
namespace Qa
open Go.RowKit

def Ac.doBegin (s : Ac) : Ac × Int := if s.mostOpen ≤ s.opened then (s, 151) else ({ s with opened := s.opened + 1 }, 0)
def Ac.doCharge (s : Ac) (old now : Int) : Ac × Int :=
  if ¬ (0 ≤ old ∧ old ≤ s.pending) then (s, 2) else if ¬ (0 ≤ now ∧ now ≤ 1048576) then (s, 2) else
  if s.most < s.live + s.pending - old + now then (s, 150) else ({ s with pending := s.pending + (now - old) }, 0)
def Ac.doEnd (s : Ac) (x : Int) : Ac × Int :=
  if s.opened ≤ 0 then (s, 2) else if ¬ (0 ≤ x ∧ x ≤ s.pending) then (s, 2) else ({ s with opened := s.opened - 1, pending := s.pending - x }, 0)
def Ac.doSettle (s : Ac) (x : Int) : Ac × Int :=
  if ¬ (0 ≤ x ∧ x ≤ 1048576) then (s, 2) else if s.most < x + s.pending then (s, 150) else ({ s with live := x }, 0)

/-- What each of them keeps. -/
structure Ac.Kept (s : Ac) (r : Ac × Int) : Prop where
  ok : r.1.Ok
  most : r.1.most = s.most
  mostOpen : r.1.mostOpen = s.mostOpen
  same : r.2 ≠ 0 → r.1 = s

theorem Ac.Ok.doBegin {s : Ac} (ok : s.Ok) : s.Kept s.doBegin := by
  obtain ⟨m0, m1, o0, o1, l0, p0, u1, n0, n1⟩ := ok
  unfold Ac.doBegin
  split
  · exact ⟨⟨m0, m1, o0, o1, l0, p0, u1, n0, n1⟩, rfl, rfl, fun _ => rfl⟩
  · exact ⟨by constructor <;> simp <;> omega, rfl, rfl, fun h => absurd rfl h⟩
theorem Ac.Ok.doCharge {s : Ac} (ok : s.Ok) (old now : Int) : s.Kept (s.doCharge old now) := by
  obtain ⟨m0, m1, o0, o1, l0, p0, u1, n0, n1⟩ := ok
  unfold Ac.doCharge
  split
  · exact ⟨⟨m0, m1, o0, o1, l0, p0, u1, n0, n1⟩, rfl, rfl, fun _ => rfl⟩
  · split
    · exact ⟨⟨m0, m1, o0, o1, l0, p0, u1, n0, n1⟩, rfl, rfl, fun _ => rfl⟩
    · split
      · exact ⟨⟨m0, m1, o0, o1, l0, p0, u1, n0, n1⟩, rfl, rfl, fun _ => rfl⟩
      · exact ⟨by constructor <;> simp <;> omega, rfl, rfl, fun h => absurd rfl h⟩
theorem Ac.Ok.doEnd {s : Ac} (ok : s.Ok) (x : Int) : s.Kept (s.doEnd x) := by
  obtain ⟨m0, m1, o0, o1, l0, p0, u1, n0, n1⟩ := ok
  unfold Ac.doEnd
  split
  · exact ⟨⟨m0, m1, o0, o1, l0, p0, u1, n0, n1⟩, rfl, rfl, fun _ => rfl⟩
  · split
    · exact ⟨⟨m0, m1, o0, o1, l0, p0, u1, n0, n1⟩, rfl, rfl, fun _ => rfl⟩
    · exact ⟨by constructor <;> simp <;> omega, rfl, rfl, fun h => absurd rfl h⟩
theorem Ac.Ok.doSettle {s : Ac} (ok : s.Ok) (x : Int) : s.Kept (s.doSettle x) := by
  obtain ⟨m0, m1, o0, o1, l0, p0, u1, n0, n1⟩ := ok
  unfold Ac.doSettle
  split
  · exact ⟨⟨m0, m1, o0, o1, l0, p0, u1, n0, n1⟩, rfl, rfl, fun _ => rfl⟩
  · split
    · exact ⟨⟨m0, m1, o0, o1, l0, p0, u1, n0, n1⟩, rfl, rfl, fun _ => rfl⟩
    · exact ⟨by constructor <;> simp <;> omega, rfl, rfl, fun h => absurd rfl h⟩

theorem begin_is (b : Nat) (s : Ac) (w : World) (h : AcIs w b s) (ok : s.Ok) : Calls Tryz.prog 37 #[.pointer (some ⟨b, 0, none⟩)] w (AcPost b s.doBegin.2 s.doBegin.1 w) := by
  by_cases h1 : s.mostOpen ≤ s.opened
  · simp only [Ac.doBegin, if_pos h1]; exact begin_full b s w h ok h1
  · simp only [Ac.doBegin, if_neg h1]; exact begin_ok b s w h ok (by omega)
theorem charge_is (b : Nat) (s : Ac) (old now : Int) (w : World) (h : AcIs w b s) (ok : s.Ok) :
    Calls Tryz.prog 88 #[.pointer (some ⟨b, 0, none⟩), .int .i64 old, .int .i64 now] w (AcPost b (s.doCharge old now).2 (s.doCharge old now).1 w) := by
  by_cases h1 : 0 ≤ old ∧ old ≤ s.pending
  · by_cases h2 : 0 ≤ now ∧ now ≤ 1048576
    · by_cases h3 : s.most < s.live + s.pending - old + now
      · simp only [Ac.doCharge, if_neg (not_not_intro h1), if_neg (not_not_intro h2), if_pos h3]; exact charge_much b s old now w h ok h1.1 h1.2 h2.1 h2.2 h3
      · simp only [Ac.doCharge, if_neg (not_not_intro h1), if_neg (not_not_intro h2), if_neg h3]; exact charge_ok b s old now w h ok h1.1 h1.2 h2.1 h2.2 (by omega)
    · simp only [Ac.doCharge, if_neg (not_not_intro h1), if_pos h2]; exact charge_arg2 b s old now w h ok h1.1 h1.2 h2
  · simp only [Ac.doCharge, if_pos h1]; exact charge_arg1 b s old now w h ok h1
theorem end_is (b : Nat) (s : Ac) (x : Int) (w : World) (h : AcIs w b s) (ok : s.Ok) :
    Calls Tryz.prog 44 #[.pointer (some ⟨b, 0, none⟩), .int .i64 x] w (AcPost b (s.doEnd x).2 (s.doEnd x).1 w) := by
  by_cases h1 : s.opened ≤ 0
  · simp only [Ac.doEnd, if_pos h1]; exact end_none b s x w h ok h1
  · by_cases h2 : 0 ≤ x ∧ x ≤ s.pending
    · simp only [Ac.doEnd, if_neg h1, if_neg (not_not_intro h2)]; exact end_ok b s x w h ok (by omega) h2.1 h2.2
    · simp only [Ac.doEnd, if_neg h1, if_pos h2]; exact end_arg b s x w h ok (by omega) h2
/-- How 'one' ends. -/
def OnePost (b : Nat) (s : Ac) (w : World) (e : Ending) (w' : World) : Prop :=
  ∃ r : Ac × Int, e = .returned (.bool (r.2 == 0)) ∧ s.Kept r ∧ AcIs w' b r.1 ∧ Only (· = b) w w'

theorem only_past1 {b : Nat} {w w' : World} {o : Obj} (h : Only (· = b) (w.alloc o) w') : Only (· = b) w w' := ((Only.refl (· = b) w).alloc o).trans h

end Qa
end Go.Proofs.YtbhihbhjmmeibaaGreat

/-
  Layer 17: New; a transaction beside its account; End.
-/
namespace Go.Proofs.YtbhihbhjmmeibaaGreat
open Go.RowKit Go.Shelf
open Qa (Ac AcIs AcPost)

theorem AcIs.only {w w' : World} {b : Nat} {s : Ac} {S : Nat → Prop} (h : AcIs w b s) (ho : Only S w w') (hb : ¬ S b) : AcIs w' b s := Blk.only (w := w) h ho hb

def TxNewPost (U : Nat → Prop) (k : Nat) (snap : List Int) (w : World) (e : Ending) (w' : World) : Prop :=
  ∃ t p m, e = .returned (.tuple #[.pointer (some ⟨t, 0, none⟩), .int .i64 0]) ∧ TxR w' t p m U k snap [] false 0 ∧ Only NoneOf w w' ∧ w.heap.size ≤ t ∧ w.heap.size ≤ p ∧ w.heap.size ≤ m

set_option maxRecDepth 100000 in
set_option maxHeartbeats 1000000 in
theorem txNew_ok (w : World) (U : Nat → Prop) (hU : ∀ k, U k → k < w.heap.size) (k : Nat) (A : Option Addr) (c : Nat) (snap : List Int) (hA : IntsAt w A snap) (x : Int) (hx : snap[k]? = some x) (h0 : 0 ≤ x) (hfew : snap.length * 8 ≤ 140737488355328) :
    Calls Tryz.prog 10 #[.int .i64 k, .slice A snap.length c] w (TxNewPost U k snap w) := by
  have hk : k < snap.length := (List.getElem?_eq_some_iff.1 hx).1
  have HC := Lib.hid (clone_ints w A snap.length c snap rfl (by omega) hA hfew)
  have HN := fun (u : World) (hu : Only NoneOf w u) => Lib.hid (setNewR u U (fun j hj => Nat.lt_of_lt_of_le (hU j hj) hu.size))
  obtain ⟨g, off, rfl, hg, hc⟩ := hA k x hx
  have HX := Lib.hid hx
  have HF := Lib.hid hfew
  obtain ⟨n, hn⟩ : ∃ n, snap.length = n := ⟨_, rfl⟩
  have HNN := Lib.hid hn
  rw [hn] at hk HC ⊢
  have hk1 : ¬ (k : Int) < 0 := by omega
  have hk2 : ¬ (n : Int) ≤ (k : Int) := by omega
  have hx0 : ¬ x < 0 := by omega
  clear hA hx hn hfew
  go_enter Tryz.func10, Tryz.ntmps10
  go_wp2_with fail
  refine HC.out.mono ?_; rintro e w1 ⟨v, rfl, hr, ho⟩
  obtain ⟨A', c', rfl, hi, hpl⟩ := hr.at
  have HI := Lib.hid hi
  have HP := Lib.hid hpl
  have HO := Lib.hid ho
  have hs1 := ho.size
  rw [HNN.out]
  clear hr hi hpl ho
  go_wp2_with fail
  refine (HN w1 HO.out).out.mono ?_; rintro e w2 ⟨rfl, hs, ho2⟩
  have HS := Lib.hid hs
  have HO2 := Lib.hid ho2
  have hs2 := ho2.size
  have hpl := hs.lts.1
  clear hs ho2
  go_wp2_with fail
  go_ret2
  have hb := Blk.new w2 92 #[.int .i64 (k : Int), .slice A' n c', .pointer (some ⟨w1.heap.size + 1, 0, none⟩), .bool false]
  have ho3 : Only NoneOf w2 (w2.alloc (.cells #[.int .i64 (k : Int), .slice A' n c', .pointer (some ⟨w1.heap.size + 1, 0, none⟩), .bool false] 92)) := (Only.refl _ _).alloc _
  refine ⟨w2.heap.size, w1.heap.size + 1, w1.heap.size, rfl, ?_, (HO.out.trans HO2.out).trans ho3, by omega, by omega, by omega⟩
  refine ⟨⟨A', c', by rw [HNN.out]; exact hb, (HI.out.keep HO2.out).keep ho3, fun g' off' hA' => ?_⟩, HS.out.other ho3 (fun _ h => h.elim) (fun j hj => ?_), fun j hj => ?_, by rw [HNN.out]; exact hk, fun y hy => by rw [HX.out] at hy; injection hy with hy; omega, HF.out⟩
  · have h1 := HP.out g' off' hA'
    exact ⟨by omega, by omega, by omega, fun hu => by have := hU g' hu; omega⟩
  · rcases hj with rfl | hj
    · exact ⟨by simp, .inr (Nat.le_refl _)⟩
    · exact ⟨by have := hU j hj; simp; omega, .inl hj⟩
  · have := hU j hj
    exact ⟨by simp; omega, by omega⟩

theorem txNew_bad (w : World) (x : Int) (A : Option Addr) (n c : Nat) (h : x < 0 ∨ (n : Int) ≤ x ∨ ∃ (k : Nat) (g off : Nat) (y : Int), x = k ∧ k < n ∧ A = some ⟨g, off, none⟩ ∧ w.cell? ⟨g, off + k, none⟩ = some (.int .i64 y) ∧ y < 0) :
    Calls Tryz.prog 10 #[.int .i64 x, .slice A n c] w fun e w' => e = .returned (.tuple #[.pointer none, .int .i64 2]) ∧ w = w' := by
  by_cases h1 : x < 0
  · clear h
    go_enter Tryz.func10, Tryz.ntmps10
    go_wp2_with fail
    go_ret2
    exact ⟨rfl, rfl⟩
  · by_cases h2 : (n : Int) ≤ x
    · clear h
      go_enter Tryz.func10, Tryz.ntmps10
      go_wp2_with fail
      go_ret2
      exact ⟨rfl, rfl⟩
    · obtain ⟨k, g, off, y, rfl, hk, rfl, hc, hy⟩ := (h.resolve_left h1).resolve_left h2
      go_enter Tryz.func10, Tryz.ntmps10
      go_wp2_with fail
      go_ret2
      exact ⟨rfl, rfl⟩

/-- what End answers, and the account and whether it has ended behind it -/
def endC (ended : Bool) (s : Ac) (x : Int) : Int := if ended = true then 173 else (s.doEnd x).2
def endA (ended : Bool) (s : Ac) (x : Int) : Ac := if ended = true then s else (s.doEnd x).1
def TxEndPost (t p m place N : Nat) (snap : List Int) (ws : List We) (ended : Bool) (U : Nat → Prop) (b : Nat) (s : Ac) (w : World) (e : Ending) (w' : World) : Prop :=
  e = .returned (.int .i64 (endC ended s (bytesW ws))) ∧ TxR w' t p m U place snap ws (ended || decide (endC ended s (bytesW ws) = 0)) N ∧ AcIs w' b (endA ended s (bytesW ws)) ∧ Only (fun k => k = t ∨ k = b) w w'

theorem TxR.putEnded {w : World} {t p m place N : Nat} {snap : List Int} {ws : List We} {ended : Bool} {U : Nat → Prop} (h : TxR w t p m U place snap ws ended N) (v : Bool) : TxR (w.setCell ⟨t, 3, none⟩ (.bool v)) t p m U place snap ws v N := by
  obtain ⟨A, c, h1, h2, h3⟩ := h.blk
  have ho : Only (· = t) w (w.setCell ⟨t, 3, none⟩ (.bool v)) := (Only.refl (· = t) w).put (.inl rfl) _
  exact ⟨⟨A, c, h1.put 3 _, h2.turn ho (fun g off hA => (h3 g off hA).1), h3⟩, h.set.other ho (fun k hk => .inl hk) (fun k hk => ⟨Nat.lt_of_lt_of_le (h.set.ult hk).1 ho.size, .inl hk⟩), fun k hk => ⟨Nat.lt_of_lt_of_le (h.ult k hk).1 ho.size, (h.ult k hk).2⟩, h.pl, h.sn, h.few⟩

set_option maxHeartbeats 1000000 in
theorem txEnd_is (w : World) (t p m place N : Nat) (snap : List Int) (ws : List We) (ended : Bool) (U : Nat → Prop) (h : TxR w t p m U place snap ws ended N) (b : Nat) (s : Ac) (ha : AcIs w b s) (ok : s.Ok) (hb : U b) :
    Calls Tryz.prog 41 #[.pointer (some ⟨t, 0, none⟩), .pointer (some ⟨b, 0, none⟩)] w (TxEndPost t p m place N snap ws ended U b s w) := by
  have HE := Lib.hid (ended_is w t p m place N snap ws ended U h)
  have HB := Lib.hid (bytesR w p m N _ ws h.set)
  obtain ⟨A, c, h1, _⟩ := h.blk
  have c2 := h1.cellv 2 rfl
  have hbt := (h.ult b hb).2
  have H := Lib.hid h
  have HA := Lib.hid ha
  have HEN := Lib.hid (Qa.end_is b s (bytesW ws : Nat) w ha ok)
  have htl := h1.lt
  clear h h1 ha ok
  unfold TxEndPost endC endA
  cases ended with
  | true =>
    go_enter Tryz.func41, Tryz.ntmps41
    go_wp2_with fail
    refine HE.out.mono ?_; rintro e w1 ⟨rfl, rfl⟩
    go_wp2_with fail
    go_ret
    exact ⟨rfl, H.out, HA.out, Only.refl _ _⟩
  | false =>
    have hk := fun u (hu : Only (· = b) w u) => H.out.other hu (U' := U) (fun k hk => by rw [hk]; exact hb) (fun k hk => ⟨Nat.lt_of_lt_of_le (H.out.ult k hk).1 hu.size, .inl hk⟩)
    have HK := Lib.hid hk
    clear hk
    by_cases hz : (s.doEnd (bytesW ws : Nat)).2 = 0
    · have HZ := Lib.hid hz
      rw [hz] at HEN
      clear hz
      go_enter Tryz.func41, Tryz.ntmps41
      go_wp2_with fail
      refine HE.out.mono ?_; rintro e w1 ⟨rfl, rfl⟩
      go_wp2_with fail
      refine HB.out.mono ?_; rintro e w1 ⟨rfl, rfl⟩
      go_wp2_with fail
      refine HEN.out.mono ?_; rintro e w1 ⟨rfl, hac, ho⟩
      have hx := HK.out w1 ho
      obtain ⟨A2, c3, hb2, _⟩ := hx.blk
      have f3 := hb2.free 3
      have x3 := hb2.cellv 3 rfl
      have HX := Lib.hid (hx.putEnded true)
      have HAC := Lib.hid (AcIs.only hac ((Only.refl (· = t) w1).put (p := ⟨t, 3, none⟩) (.inl rfl) (.bool true)) hbt)
      have HO := Lib.hid ((ho.mono (S' := fun k => k = t ∨ k = b) fun k _ hk => .inr hk).put (p := ⟨t, 3, none⟩) (.inl (.inl rfl)) (.bool true))
      clear hac ho hx hb2
      go_wp2_with fail
      go_ret
      refine ⟨by rw [HZ.out]; rfl, ?_, HAC.out, HO.out⟩
      rw [HZ.out]
      exact HX.out
    · obtain ⟨e0, he0⟩ : ∃ e0, (s.doEnd (bytesW ws : Nat)).2 = e0 := ⟨_, rfl⟩
      have HZ := Lib.hid he0
      have HNZ := Lib.hid hz
      rw [he0] at HEN hz
      clear he0
      have hbq : (e0 == 0) = false := beq_eq_false_iff_ne.2 hz
      go_enter Tryz.func41, Tryz.ntmps41
      go_wp2_with fail
      refine HE.out.mono ?_; rintro e w1 ⟨rfl, rfl⟩
      go_wp2_with fail
      refine HB.out.mono ?_; rintro e w1 ⟨rfl, rfl⟩
      go_wp2_with fail
      refine HEN.out.mono ?_; rintro e w1 ⟨rfl, hac, ho⟩
      have HX := Lib.hid (HK.out w1 ho)
      have HAC := Lib.hid hac
      have HO := Lib.hid (ho.mono (S' := fun k => k = t ∨ k = b) fun k _ hk => .inr hk)
      clear hac ho
      go_wp2_with fail
      go_ret
      refine ⟨by rw [HZ.out]; rfl, ?_, HAC.out, HO.out⟩
      rw [decide_eq_false HNZ.out]
      exact HX.out

end Go.Proofs.YtbhihbhjmmeibaaGreat

/-
  Layer 17: write, Put, Delete.
-/
namespace Go.Proofs.YtbhihbhjmmeibaaGreat
open Go.RowKit Go.Shelf
open Qa (Ac AcIs AcPost)

/-- what a write answers -/
def wrC (ended : Bool) (n place : Nat) (x : Int) (key : ByteArray) (nb : Nat) (s : Ac) (old now : Int) : Int :=
  if openC ended n x ≠ 0 then openC ended n x else if ¬ (1 ≤ key.size ∧ key.size ≤ 255) then 140 else if 4096 < nb then 141 else if x ≠ place then 171 else (s.doCharge old now).2
def wrA (c : Int) (s : Ac) (old now : Int) : Ac := if c = 0 then (s.doCharge old now).1 else s
def wrW (c : Int) (ws : List We) (e : We) : List We := if c = 0 then layW ws e else ws

def WrPost (t p m place N : Nat) (snap : List Int) (ws : List We) (ended : Bool) (U : Nat → Prop) (b : Nat) (s : Ac) (c : Int) (en : We) (old now : Int) (w : World) (e : Ending) (w' : World) : Prop :=
  e = .returned (.int .i64 c) ∧ TxR w' t p m U place snap (wrW c ws en) ended (N + 1) ∧ AcIs w' b (wrA c s old now) ∧ Only (fun k => k = p ∨ k = m ∨ k = b) w w'

theorem TxR.more {w : World} {t p m place N : Nat} {snap : List Int} {ws : List We} {ended : Bool} {U : Nat → Prop} (h : TxR w t p m U place snap ws ended N) : TxR w t p m U place snap ws ended (N + 1) :=
  ⟨h.blk, h.set.more (by omega), h.ult, h.pl, h.sn, h.few⟩
theorem TxR.setTo {w w' : World} {t p m place N : Nat} {snap : List Int} {ws ws' : List We} {ended : Bool} {U : Nat → Prop} (h : TxR w t p m U place snap ws ended N) (hs : SetR w' p m (fun k => k = t ∨ U k) ws' (N + 1)) (ho : Only (fun k => k = p ∨ k = m) w w') : TxR w' t p m U place snap ws' ended (N + 1) := by
  obtain ⟨A, c, h1, h2, h3⟩ := h.blk
  refine ⟨⟨A, c, h1.only ho (fun e => ?_), h2.turn ho (fun g off hA e => ?_), h3⟩, hs, fun k hk => ⟨Nat.lt_of_lt_of_le (h.ult k hk).1 ho.size, (h.ult k hk).2⟩, h.pl, h.sn, h.few⟩
  · have := (h.set.ult (.inl rfl)).2
    rcases e with e | e
    · exact this.1 e
    · exact this.2 e
  · rcases e with e | e
    · exact (h3 g off hA).2.1 e
    · exact (h3 g off hA).2.2.1 e

def LayP (t p m place N : Nat) (snap : List Int) (ws' : List We) (ended : Bool) (U : Nat → Prop) (f : Nat) (caps : Array Value) (u : World) : Prop :=
  Calls Tryz.prog f caps u fun e u' => e = .returned (.int .i64 0) ∧ TxR u' t p m U place snap ws' ended (N + 1) ∧ Only (fun k => k = p ∨ k = m) u u'

set_option maxRecDepth 100000 in
set_option maxHeartbeats 2000000 in
theorem write_is (w : World) (t p m place N : Nat) (snap : List Int) (ws : List We) (ended : Bool) (U : Nat → Prop) (h : TxR w t p m U place snap ws ended N) (b : Nat) (s : Ac) (ha : AcIs w b s) (ok : s.Ok) (hb : U b)
    (x : Int) (key : ByteArray) (hkl : key.size ≤ maxLen) (Av : Option Addr) (nb cv : Nat) (now : Int) (en : We) (f : Nat) (caps : Array Value) (eg : ∀ args w, (callFunc f args).run Tryz.prog w = .ok (.enter f args) w)
    (hlay : 1 ≤ key.size ∧ key.size ≤ 255 → nb ≤ 4096 → ∀ u, Only (· = b) w u → LayP t p m place N snap (layW ws en) ended U f caps u) :
    Calls Tryz.prog 67 #[.pointer (some ⟨t, 0, none⟩), .int .i64 x, .string key, .slice Av nb cv, .pointer (some ⟨b, 0, none⟩), .func (.func f) #[] caps, .int .i64 now] w
      (WrPost t p m place N snap ws ended U b s (wrC ended snap.length place x key nb s (weightW ws key.data.toList : Nat) now) en (weightW ws key.data.toList : Nat) now w) := by
  have HOP := Lib.hid (open_is w t p m place N snap ws ended U h x)
  have HIK := Lib.hid (isKey_is w key)
  have HWT := Lib.hid (weightR w p m N _ ws h.set key hkl)
  have hbp := h.set.ult (k := b) (.inr hb)
  have HCH := Lib.hid (fun u (hu : Only NoneOf w u) => Qa.charge_is b s (weightW ws key.data.toList : Nat) now u (AcIs.only ha hu (fun h => h)) ok)
  have HK := Lib.hid (fun u (hu : Only (· = b) w u) => h.other hu (U' := U) (fun k hk => by rw [hk]; exact hb) (fun k hk => ⟨Nat.lt_of_lt_of_le (h.ult k hk).1 hu.size, .inl hk⟩))
  have HM := Lib.hid h.more
  have HA := Lib.hid ha
  have HLAY := Lib.hid hlay
  have HOK := Lib.hid (fun c : Int => (ok.doCharge (weightW ws key.data.toList : Nat) now).same)
  obtain ⟨A, c, h1, _⟩ := h.blk
  have c0 := h1.cellv 0 rfl
  have c2 := h1.cellv 2 rfl
  have htl := h1.lt
  obtain ⟨wt, hwt⟩ : ∃ wt : Int, ((weightW ws key.data.toList : Nat) : Int) = wt := ⟨_, rfl⟩
  rw [hwt] at HWT HCH HOK ⊢
  obtain ⟨n, hn⟩ : ∃ n, snap.length = n := ⟨_, rfl⟩
  rw [hn] at HOP ⊢
  clear h h1 ha hlay hwt hn ok hkl
  have hsame : ∀ c : Int, c ≠ 0 → WrPost t p m place N snap ws ended U b s c en wt now w (.returned (.int .i64 c)) w := fun c hc =>
    ⟨rfl, by unfold wrW; rw [if_neg hc]; exact HM.out, by unfold wrA; rw [if_neg hc]; exact HA.out, Only.refl _ _⟩
  unfold wrC
  obtain ⟨oc, hoc⟩ : ∃ oc, openC ended n x = oc := ⟨_, rfl⟩
  rw [hoc] at HOP ⊢
  clear hoc
  by_cases ho0 : oc ≠ 0
  · rw [if_pos ho0]
    have HS := Lib.hid (hsame oc ho0)
    have hq : (oc == 0) = false := beq_eq_false_iff_ne.2 ho0
    clear hsame
    go_enter Tryz.func67, Tryz.ntmps67
    go_wp2_with fail
    refine HOP.out.mono ?_; rintro e w1 ⟨rfl, rfl⟩
    go_wp2_with fail
    go_ret
    exact HS.out
  · obtain rfl : oc = 0 := by omega
    rw [if_neg ho0]
    clear ho0
    by_cases hk : 1 ≤ key.size ∧ key.size ≤ 255
    · rw [if_neg (not_not_intro hk)]
      rw [decide_eq_true hk] at HIK
      by_cases hl : 4096 < nb
      · rw [if_pos hl]
        have HS := Lib.hid (hsame 141 (by decide))
        clear hsame hk
        go_enter Tryz.func67, Tryz.ntmps67
        go_wp2_with fail
        refine HOP.out.mono ?_; rintro e w1 ⟨rfl, rfl⟩
        go_wp2_with fail
        refine HIK.out.mono ?_; rintro e w1 ⟨rfl, rfl⟩
        go_wp2_with fail
        go_ret
        exact HS.out
      · rw [if_neg hl]
        by_cases hx : x ≠ place
        · rw [if_pos hx]
          have HS := Lib.hid (hsame 171 (by decide))
          have hq : (x == (place : Int)) = false := beq_eq_false_iff_ne.2 hx
          clear hsame hk
          go_enter Tryz.func67, Tryz.ntmps67
          go_wp2_with fail
          refine HOP.out.mono ?_; rintro e w1 ⟨rfl, rfl⟩
          go_wp2_with fail
          refine HIK.out.mono ?_; rintro e w1 ⟨rfl, rfl⟩
          go_wp2_with fail
          go_ret
          exact HS.out
        · obtain rfl : x = place := by omega
          rw [if_neg hx]
          have HLY := Lib.hid (HLAY.out hk (by omega))
          clear hx hk
          obtain ⟨cc, hcc⟩ : ∃ cc, (s.doCharge wt now).2 = cc := ⟨_, rfl⟩
          obtain ⟨s', hs'⟩ : ∃ s', (s.doCharge wt now).1 = s' := ⟨_, rfl⟩
          rw [hcc, hs'] at HCH
          rw [hcc]
          have HS' := Lib.hid hs'
          have HSM := Lib.hid (show cc ≠ 0 → s' = s from fun h => by rw [← hs']; exact HOK.out 0 (by rw [hcc]; exact h))
          clear hcc hs' hsame HLAY
          by_cases hc0 : cc = 0
          · subst hc0
            go_enter Tryz.func67, Tryz.ntmps67
            go_wp2_with fail
            refine HOP.out.mono ?_; rintro e w1 ⟨rfl, rfl⟩
            go_wp2_with fail
            refine HIK.out.mono ?_; rintro e w1 ⟨rfl, rfl⟩
            go_wp2_with fail
            refine HWT.out.mono ?_; rintro e w1 ⟨rfl, ho⟩
            have HO1 := Lib.hid ho
            have HC := Lib.hid (HCH.out w1 ho)
            clear ho
            go_wp2_with fail
            refine HC.out.mono ?_; rintro e w2 ⟨rfl, hac, ho2⟩
            have HAC := Lib.hid hac
            have HO2 := Lib.hid ((HO1.out.mono (S' := (· = b)) fun _ _ h => h.elim).trans ho2)
            have HL := Lib.hid (HLY.out w2 HO2.out)
            clear hac ho2
            go_wp2_with fail
            refine HL.out.mono ?_; rintro e w3 ⟨rfl, htx, ho3⟩
            have HTX := Lib.hid htx
            have HAC3 := Lib.hid (AcIs.only HAC.out ho3 (fun e => by rcases e with e | e; exact hbp.2.1 e; exact hbp.2.2 e))
            have HO3 := Lib.hid ((HO2.out.mono (S' := fun k => k = p ∨ k = m ∨ k = b) fun k _ hk => .inr (.inr hk)).trans (ho3.mono fun k _ hk => hk.imp_right .inl))
            clear htx ho3
            go_wp2_with fail
            go_ret
            exact ⟨rfl, by unfold wrW; rw [if_pos rfl]; exact HTX.out, by unfold wrA; rw [if_pos rfl, HS'.out]; exact HAC3.out, HO3.out⟩
          · have hq : (cc == 0) = false := beq_eq_false_iff_ne.2 hc0
            have HC0 := Lib.hid hc0
            clear hc0
            go_enter Tryz.func67, Tryz.ntmps67
            go_wp2_with fail
            refine HOP.out.mono ?_; rintro e w1 ⟨rfl, rfl⟩
            go_wp2_with fail
            refine HIK.out.mono ?_; rintro e w1 ⟨rfl, rfl⟩
            go_wp2_with fail
            refine HWT.out.mono ?_; rintro e w1 ⟨rfl, ho⟩
            have HO1 := Lib.hid ho
            have HC := Lib.hid (HCH.out w1 ho)
            clear ho
            go_wp2_with fail
            refine HC.out.mono ?_; rintro e w2 ⟨rfl, hac, ho2⟩
            have HAC := Lib.hid hac
            have HO2 := Lib.hid ((HO1.out.mono (S' := (· = b)) fun _ _ h => h.elim).trans ho2)
            clear hac ho2
            go_wp2_with fail
            go_ret
            exact ⟨rfl, by unfold wrW; rw [if_neg HC0.out]; exact (HK.out w2 HO2.out).more, by unfold wrA; rw [if_neg HC0.out, ← HSM.out HC0.out]; exact HAC.out, HO2.out.mono fun k _ hk => .inr (.inr hk)⟩
    · rw [if_pos hk]
      rw [decide_eq_false hk] at HIK
      have HS := Lib.hid (hsame 140 (by decide))
      clear hsame hk
      go_enter Tryz.func67, Tryz.ntmps67
      go_wp2_with fail
      refine HOP.out.mono ?_; rintro e w1 ⟨rfl, rfl⟩
      go_wp2_with fail
      refine HIK.out.mono ?_; rintro e w1 ⟨rfl, rfl⟩
      go_wp2_with fail
      go_ret
      exact HS.out

end Go.Proofs.YtbhihbhjmmeibaaGreat

/-
  Layer 17: Put, Delete.
-/
namespace Go.Proofs.YtbhihbhjmmeibaaGreat
open Go.RowKit Go.Shelf
open Qa (Ac AcIs AcPost)

set_option maxRecDepth 100000 in
set_option maxHeartbeats 1000000 in
theorem put1_is (w : World) (t p m place N : Nat) (snap : List Int) (ws : List We) (ended : Bool) (U : Nat → Prop) (h : TxR w t p m U place snap ws ended N) (hN : N < 1048577) (b5 b7 b8 : Nat) (key : ByteArray) (Av : Option Addr) (nb cv : Nat) (bs : List UInt8)
    (B5 : Blk w b5 28 #[.pointer (some ⟨t, 0, none⟩)]) (B7 : Blk w b7 9 #[.string key]) (B8 : Blk w b8 45 #[.slice Av nb cv]) (hnb : bs.length = nb) (hby : BytesAt w Av bs) (hl : nb ≤ 4096) (hk : 1 ≤ key.size ∧ key.size ≤ 255) :
    LayP t p m place N snap (layW ws ⟨key.data.toList, bs, false⟩) ended U 68 #[.pointer (some ⟨b5, 0, none⟩), .pointer (some ⟨b7, 0, none⟩), .pointer (some ⟨b8, 0, none⟩)] w := by
  have hm : mayW key nb = 0 := by unfold mayW; rw [if_neg (by omega), if_neg (by omega)]
  have HP := Lib.hid (fun u (hu : Only NoneOf w u) => putR u p m N _ ws (h.set.keep hu) hN key Av nb cv bs hnb (by omega) (hby.keep hu))
  have H := Lib.hid h
  have H5 := Lib.hid B5
  have H7 := Lib.hid B7
  have H8 := Lib.hid B8
  obtain ⟨A, c, hb, _⟩ := h.blk
  have HB := Lib.hid hb
  have HM := Lib.hid hm
  have HNB := Lib.hid hnb
  clear h B5 B7 B8 hb hm hby hnb
  unfold LayP
  go_enter Tryz.func68, Tryz.ntmps68
  go_upto_region 1 with (fail)
  refine wp_region_head 6 11 (ConstT fun i => match i with | 0 => .pointer (some ⟨t, 0, none⟩) | 1 => .pointer (some ⟨t, 0, none⟩) | 2 => .pointer (some ⟨t, 2, none⟩) | 3 => .pointer (some ⟨p, 0, none⟩) | 4 => .string key | _ => .slice Av nb cv) (fun _ => false) rfl (by kernel_rfl) (by kernel_rfl) (fun _ _ _ _ h _ => h) (fun _ _ _ h => by cases h) ?_ ?_
  · intro i o hi ho a u hu hs ht
    have e0 : a.tmps.getD 0 undef = .pointer (some ⟨b5, 0, none⟩) := hs 0 (of_decide_eq_true (by kernel_rfl))
    have e1 : a.tmps.getD 1 undef = .pointer (some ⟨b7, 0, none⟩) := hs 1 (of_decide_eq_true (by kernel_rfl))
    have e2 : a.tmps.getD 2 undef = .pointer (some ⟨b8, 0, none⟩) := hs 2 (of_decide_eq_true (by kernel_rfl))
    have k0 := (H5.out.only hu (fun h => h)).cellv 0 rfl
    have k1 := (H7.out.only hu (fun h => h)).cellv 0 rfl
    have k2 := (H8.out.only hu (fun h => h)).cellv 0 rfl
    have c2 := (HB.out.only hu (fun h => h)).cellv 2 rfl
    have : i = 0 ∨ i = 1 ∨ i = 2 ∨ i = 3 ∨ i = 4 ∨ i = 5 := by omega
    rcases this with rfl | rfl | rfl | rfl | rfl | rfl
    · obtain rfl := Option.some.inj (ho : some _ = some o)
      exact left_value (.pointer (some ⟨t, 0, none⟩)) (by simp [go_sem, e0, k0]) rfl rfl
    · obtain rfl := Option.some.inj (ho : some _ = some o)
      have s0 : a.tmps.getD 4 undef = .pointer (some ⟨t, 0, none⟩) := ht 0 (by omega) (by kernel_rfl)
      exact left_value (.pointer (some ⟨t, 0, none⟩)) (by simp [go_sem, s0]) rfl rfl
    · obtain rfl := Option.some.inj (ho : some _ = some o)
      have s1 : a.tmps.getD 5 undef = .pointer (some ⟨t, 0, none⟩) := ht 1 (by omega) (by kernel_rfl)
      exact left_value (.pointer (some ⟨t, 2, none⟩)) (by simp [go_sem, s1]) rfl rfl
    · obtain rfl := Option.some.inj (ho : some _ = some o)
      have s2 : a.tmps.getD 6 undef = .pointer (some ⟨t, 2, none⟩) := ht 2 (by omega) (by kernel_rfl)
      exact left_value (.pointer (some ⟨p, 0, none⟩)) (by simp [go_sem, s2, c2]) rfl rfl
    · obtain rfl := Option.some.inj (ho : some _ = some o)
      exact left_value (.string key) (by simp [go_sem, e1, k1]) rfl rfl
    · obtain rfl := Option.some.inj (ho : some _ = some o)
      exact left_value (.slice Av nb cv) (by simp [go_sem, e2, k2]) rfl rfl
  · intro V' u2 hu hV' _
    have v0 : V' 0 = .pointer (some ⟨t, 0, none⟩) := hV' 0 (by omega)
    have v1 : V' 1 = .pointer (some ⟨t, 0, none⟩) := hV' 1 (by omega)
    have v2 : V' 2 = .pointer (some ⟨t, 2, none⟩) := hV' 2 (by omega)
    have v3 : V' 3 = .pointer (some ⟨p, 0, none⟩) := hV' 3 (by omega)
    have v4 : V' 4 = .string key := hV' 4 (by omega)
    have v5 : V' 5 = .slice Av nb cv := hV' 5 (by omega)
    change wpList _ _ _ _ (Act.put (Act.put (Act.put (Act.put (Act.put (Act.put _ (some 4) (V' 0)) (some 5) (V' 1)) (some 6) (V' 2)) (some 7) (V' 3)) (some 8) (V' 4)) (some 9) (V' 5)) _
    rw [v0, v1, v2, v3, v4, v5]
    simp only [Act.put, List.setIfInBounds_toArray, List.set_cons_zero, List.set_cons_succ]
    simp only [List.drop_succ_cons, List.drop_zero]
    clear hV' v0 v1 v2 v3 v4 v5
    have HU := Lib.hid hu
    clear hu
    go_wp2_with fail
    refine (HP.out u2 HU.out).mono ?_
    rintro e u3 ⟨rfl, hs, ho⟩
    have HS := Lib.hid hs
    have HO := Lib.hid ho
    clear hs ho
    go_wp2_with fail
    go_ret
    have h1 := HS.out
    unfold afterW at h1
    rw [HNB.out, if_pos HM.out] at h1
    refine ⟨by rw [HNB.out, HM.out]; rfl, (H.out.keep HU.out).setTo h1 HO.out, (HU.out.mono (S' := fun k => k = p ∨ k = m) fun _ _ h => h.elim).trans HO.out⟩

set_option maxRecDepth 100000 in
set_option maxHeartbeats 1000000 in
theorem del1_is (w : World) (t p m place N : Nat) (snap : List Int) (ws : List We) (ended : Bool) (U : Nat → Prop) (h : TxR w t p m U place snap ws ended N) (hN : N < 1048577) (b5 b7 : Nat) (key : ByteArray)
    (B5 : Blk w b5 28 #[.pointer (some ⟨t, 0, none⟩)]) (B7 : Blk w b7 9 #[.string key]) (hk : 1 ≤ key.size ∧ key.size ≤ 255) :
    LayP t p m place N snap (layW ws ⟨key.data.toList, [], true⟩) ended U 75 #[.pointer (some ⟨b5, 0, none⟩), .pointer (some ⟨b7, 0, none⟩)] w := by
  have hm : mayW key 0 = 0 := by unfold mayW; rw [if_neg (by omega), if_neg (by omega)]
  have HP := Lib.hid (fun u (hu : Only NoneOf w u) => delR u p m N _ ws (h.set.keep hu) hN key)
  have H := Lib.hid h
  have H5 := Lib.hid B5
  have H7 := Lib.hid B7
  obtain ⟨A, c, hb, _⟩ := h.blk
  have HB := Lib.hid hb
  have HM := Lib.hid hm
  clear h B5 B7 hb hm
  unfold LayP
  go_enter Tryz.func75, Tryz.ntmps75
  go_upto_region 1 with (fail)
  refine wp_region_head 5 9 (ConstT fun i => match i with | 0 => .pointer (some ⟨t, 0, none⟩) | 1 => .pointer (some ⟨t, 0, none⟩) | 2 => .pointer (some ⟨t, 2, none⟩) | 3 => .pointer (some ⟨p, 0, none⟩) | _ => .string key) (fun _ => false) rfl (by kernel_rfl) (by kernel_rfl) (fun _ _ _ _ h _ => h) (fun _ _ _ h => by cases h) ?_ ?_
  · intro i o hi ho a u hu hs ht
    have e0 : a.tmps.getD 0 undef = .pointer (some ⟨b5, 0, none⟩) := hs 0 (of_decide_eq_true (by kernel_rfl))
    have e1 : a.tmps.getD 1 undef = .pointer (some ⟨b7, 0, none⟩) := hs 1 (of_decide_eq_true (by kernel_rfl))
    have k0 := (H5.out.only hu (fun h => h)).cellv 0 rfl
    have k1 := (H7.out.only hu (fun h => h)).cellv 0 rfl
    have c2 := (HB.out.only hu (fun h => h)).cellv 2 rfl
    have : i = 0 ∨ i = 1 ∨ i = 2 ∨ i = 3 ∨ i = 4 := by omega
    rcases this with rfl | rfl | rfl | rfl | rfl
    · obtain rfl := Option.some.inj (ho : some _ = some o)
      exact left_value (.pointer (some ⟨t, 0, none⟩)) (by simp [go_sem, e0, k0]) rfl rfl
    · obtain rfl := Option.some.inj (ho : some _ = some o)
      have s0 : a.tmps.getD 3 undef = .pointer (some ⟨t, 0, none⟩) := ht 0 (by omega) (by kernel_rfl)
      exact left_value (.pointer (some ⟨t, 0, none⟩)) (by simp [go_sem, s0]) rfl rfl
    · obtain rfl := Option.some.inj (ho : some _ = some o)
      have s1 : a.tmps.getD 4 undef = .pointer (some ⟨t, 0, none⟩) := ht 1 (by omega) (by kernel_rfl)
      exact left_value (.pointer (some ⟨t, 2, none⟩)) (by simp [go_sem, s1]) rfl rfl
    · obtain rfl := Option.some.inj (ho : some _ = some o)
      have s2 : a.tmps.getD 5 undef = .pointer (some ⟨t, 2, none⟩) := ht 2 (by omega) (by kernel_rfl)
      exact left_value (.pointer (some ⟨p, 0, none⟩)) (by simp [go_sem, s2, c2]) rfl rfl
    · obtain rfl := Option.some.inj (ho : some _ = some o)
      exact left_value (.string key) (by simp [go_sem, e1, k1]) rfl rfl
  · intro V' u2 hu hV' _
    have v0 : V' 0 = .pointer (some ⟨t, 0, none⟩) := hV' 0 (by omega)
    have v1 : V' 1 = .pointer (some ⟨t, 0, none⟩) := hV' 1 (by omega)
    have v2 : V' 2 = .pointer (some ⟨t, 2, none⟩) := hV' 2 (by omega)
    have v3 : V' 3 = .pointer (some ⟨p, 0, none⟩) := hV' 3 (by omega)
    have v4 : V' 4 = .string key := hV' 4 (by omega)
    change wpList _ _ _ _ (Act.put (Act.put (Act.put (Act.put (Act.put _ (some 3) (V' 0)) (some 4) (V' 1)) (some 5) (V' 2)) (some 6) (V' 3)) (some 7) (V' 4)) _
    rw [v0, v1, v2, v3, v4]
    simp only [Act.put, List.setIfInBounds_toArray, List.set_cons_zero, List.set_cons_succ]
    simp only [List.drop_succ_cons, List.drop_zero]
    clear hV' v0 v1 v2 v3 v4
    have HU := Lib.hid hu
    clear hu
    go_wp2_with fail
    refine (HP.out u2 HU.out).mono ?_
    rintro e u3 ⟨rfl, hs, ho⟩
    have HS := Lib.hid hs
    have HO := Lib.hid ho
    clear hs ho
    go_wp2_with fail
    go_ret
    have h1 := HS.out
    unfold afterW at h1
    rw [if_pos (show mayW key ([] : List UInt8).length = 0 from HM.out)] at h1
    refine ⟨by rw [HM.out]; rfl, (H.out.keep HU.out).setTo h1 HO.out, (HU.out.mono (S' := fun k => k = p ∨ k = m) fun _ _ h => h.elim).trans HO.out⟩

theorem WrPost.from {t p m place N : Nat} {snap : List Int} {ws : List We} {ended : Bool} {U : Nat → Prop} {b : Nat} {s : Ac} {c : Int} {en : We} {old now : Int} {w w1 w' : World} {e : Ending} (h : WrPost t p m place N snap ws ended U b s c en old now w1 e w') (ho : Only NoneOf w w1) : WrPost t p m place N snap ws ended U b s c en old now w e w' :=
  ⟨h.1, h.2.1, h.2.2.1, (ho.mono fun _ _ h => h.elim).trans h.2.2.2⟩

set_option maxRecDepth 100000 in
set_option maxHeartbeats 1000000 in
theorem txPut_is (w : World) (t p m place N : Nat) (snap : List Int) (ws : List We) (ended : Bool) (U : Nat → Prop) (h : TxR w t p m U place snap ws ended N) (hN : N < 1048577) (b : Nat) (s : Ac) (ha : AcIs w b s) (ok : s.Ok) (hb : U b)
    (x : Int) (key : ByteArray) (hkl : key.size ≤ maxLen) (Av : Option Addr) (nb cv : Nat) (bs : List UInt8) (hnb : bs.length = nb) (hby : BytesAt w Av bs) (hvb : bs ≠ [] → ∀ g off, Av = some ⟨g, off, none⟩ → g ≠ b) (hbl : nb ≤ 4611686018427387904) (hkb : key.size ≤ 4611686018427387903) :
    Calls Tryz.prog 39 #[.pointer (some ⟨t, 0, none⟩), .int .i64 x, .string key, .slice Av nb cv, .pointer (some ⟨b, 0, none⟩)] w
      (WrPost t p m place N snap ws ended U b s (wrC ended snap.length place x key nb s (weightW ws key.data.toList : Nat) ((key.size : Int) + nb)) ⟨key.data.toList, bs, false⟩ (weightW ws key.data.toList : Nat) ((key.size : Int) + nb) w) := by
  have hbt := h.ult b hb
  have B5 := ((Blk.new w 28 #[.pointer (some ⟨t, 0, none⟩)]).alloc (.cells #[.string key] 9)).alloc (.cells #[.slice Av nb cv] 45)
  have B7 := (Blk.new' (w.alloc (.cells #[.pointer (some ⟨t, 0, none⟩)] 28)) 9 #[.string key] (n := w.heap.size + 1) (by simp)).alloc (.cells #[.slice Av nb cv] 45)
  have B8 := Blk.new' ((w.alloc (.cells #[.pointer (some ⟨t, 0, none⟩)] 28)).alloc (.cells #[.string key] 9)) 45 #[.slice Av nb cv] (n := w.heap.size + 1 + 1) (by simp)
  have HO := Lib.hid ((((Only.refl NoneOf w).alloc (.cells #[.pointer (some ⟨t, 0, none⟩)] 28)).alloc (.cells #[.string key] 9)).alloc (.cells #[.slice Av nb cv] 45))
  obtain ⟨w3, hw3⟩ : ∃ w3, ((w.alloc (.cells #[.pointer (some ⟨t, 0, none⟩)] 28)).alloc (.cells #[.string key] 9)).alloc (.cells #[.slice Av nb cv] 45) = w3 := ⟨_, rfl⟩
  have HW3 := Lib.hid hw3
  rw [hw3] at B5 B7 B8 HO
  have H3 := h.keep HO.out
  have hW := write_is w3 t p m place N snap ws ended U H3 b s (AcIs.only ha HO.out (fun h => h)) ok hb x key hkl Av nb cv ((key.size : Int) + nb) ⟨key.data.toList, bs, false⟩ 68 #[.pointer (some ⟨w.heap.size, 0, none⟩), .pointer (some ⟨w.heap.size + 1, 0, none⟩), .pointer (some ⟨w.heap.size + 1 + 1, 0, none⟩)] (fun _ _ => by kernel_rfl) (fun hk hl u hu =>
    put1_is u t p m place N snap ws ended U (H3.other hu (U' := U) (fun k hk => by rw [hk]; exact hb) (fun k hk => ⟨Nat.lt_of_lt_of_le (H3.ult k hk).1 hu.size, .inl hk⟩)) hN _ _ _ key Av nb cv bs (B5.only hu (by omega)) (B7.only hu (by omega)) (B8.only hu (by omega)) hnb ((hby.keep HO.out).turn hu (fun hne g off hA => hvb hne g off hA)) hl hk)
  have HWR := Lib.hid hW
  have k0 := B5.cellv 0 rfl
  have k1 := B7.cellv 0 rfl
  have k2 := B8.cellv 0 rfl
  obtain ⟨nk, hnk⟩ : ∃ nk, key.size = nk := ⟨_, rfl⟩
  have hnk2 : nk ≤ 4611686018427387903 := by rw [← hnk]; exact hkb
  rw [hnk] at HWR ⊢
  clear h ha ok hkl hby hvb hW H3 hw3 B5 B7 B8 hbt
  go_enter Tryz.func39, Tryz.ntmps39
  go_wp2_with fail
  rw [HW3.out]
  refine HWR.out.mono ?_
  rintro e w4 hp
  have HPP := Lib.hid hp
  obtain ⟨rfl, _⟩ := hp
  go_wp2_with fail
  go_ret
  exact HPP.out.from HO.out

set_option maxRecDepth 100000 in
set_option maxHeartbeats 1000000 in
theorem txDel_is (w : World) (t p m place N : Nat) (snap : List Int) (ws : List We) (ended : Bool) (U : Nat → Prop) (h : TxR w t p m U place snap ws ended N) (hN : N < 1048577) (b : Nat) (s : Ac) (ha : AcIs w b s) (ok : s.Ok) (hb : U b)
    (x : Int) (key : ByteArray) (hkl : key.size ≤ maxLen) :
    Calls Tryz.prog 43 #[.pointer (some ⟨t, 0, none⟩), .int .i64 x, .string key, .pointer (some ⟨b, 0, none⟩)] w
      (WrPost t p m place N snap ws ended U b s (wrC ended snap.length place x key 0 s (weightW ws key.data.toList : Nat) (key.size : Int)) ⟨key.data.toList, [], true⟩ (weightW ws key.data.toList : Nat) (key.size : Int) w) := by
  have hbt := h.ult b hb
  have B5 := (Blk.new w 28 #[.pointer (some ⟨t, 0, none⟩)]).alloc (.cells #[.string key] 9)
  have B7 := (Blk.new' (w.alloc (.cells #[.pointer (some ⟨t, 0, none⟩)] 28)) 9 #[.string key] (n := w.heap.size + 1) (by simp))
  have HO := Lib.hid (((Only.refl NoneOf w).alloc (.cells #[.pointer (some ⟨t, 0, none⟩)] 28)).alloc (.cells #[.string key] 9))
  obtain ⟨w3, hw3⟩ : ∃ w3, (w.alloc (.cells #[.pointer (some ⟨t, 0, none⟩)] 28)).alloc (.cells #[.string key] 9) = w3 := ⟨_, rfl⟩
  have HW3 := Lib.hid hw3
  rw [hw3] at B5 B7 HO
  have H3 := h.keep HO.out
  have hW := write_is w3 t p m place N snap ws ended U H3 b s (AcIs.only ha HO.out (fun h => h)) ok hb x key hkl none 0 0 (key.size : Int) ⟨key.data.toList, [], true⟩ 75 #[.pointer (some ⟨w.heap.size, 0, none⟩), .pointer (some ⟨w.heap.size + 1, 0, none⟩)] (fun _ _ => by kernel_rfl) (fun hk hl u hu =>
    del1_is u t p m place N snap ws ended U (H3.other hu (U' := U) (fun k hk => by rw [hk]; exact hb) (fun k hk => ⟨Nat.lt_of_lt_of_le (H3.ult k hk).1 hu.size, .inl hk⟩)) hN _ _ key (B5.only hu (by omega)) (B7.only hu (by omega)) hk)
  have HWR := Lib.hid hW
  have k0 := B5.cellv 0 rfl
  have k1 := B7.cellv 0 rfl
  obtain ⟨nk, hnk⟩ : ∃ nk, key.size = nk := ⟨_, rfl⟩
  rw [hnk] at HWR ⊢
  clear h ha ok hkl hW H3 hw3 B5 B7 hbt
  go_enter Tryz.func43, Tryz.ntmps43
  go_wp2_with fail
  rw [HW3.out]
  refine HWR.out.mono ?_
  rintro e w4 hp
  have HPP := Lib.hid hp
  obtain ⟨rfl, _⟩ := hp
  go_wp2_with fail
  go_ret
  exact HPP.out.from HO.out

end Go.Proofs.YtbhihbhjmmeibaaGreat

/-
  Layer 17's law: a source (a store, a horizon, a count): its three methods.
-/
namespace Go.Proofs.YtbhihbhjmmeibaaGreat
open Go.RowKit Go.Shelf

/-- a source: block s, its store st -/
structure SrcR (w : World) (s st : Nat) (T U : Nat → Prop) (R : List KV) (N : Nat) (H asked : Int) : Prop where
  blk : Blk w s 53 #[.pointer (some ⟨st, 0, none⟩), .int .i64 H, .int .i64 asked]
  sto : StoR w st T (fun k => k = s ∨ U k) R N
  ult : ∀ k, U k → k < w.heap.size ∧ k ≠ s
  a0 : 0 ≤ asked
theorem SrcR.other {w w' : World} {s st N : Nat} {T U U' S : Nat → Prop} {R : List KV} {H asked : Int} (h : SrcR w s st T U R N H asked) (ho : Only S w w') (hS : ∀ k, S k → U k) (hU : ∀ k, U' k → k < w'.heap.size ∧ (U k ∨ w.heap.size ≤ k)) : SrcR w' s st T U' R N H asked :=
  ⟨h.blk.only ho (fun hs => (h.ult s (hS s hs)).2 rfl), h.sto.other ho (fun k hk => .inr (hS k hk)) (fun k hk => by
      rcases hk with rfl | hk
      · exact ⟨Nat.lt_of_lt_of_le h.blk.lt ho.size, .inl (.inl rfl)⟩
      · exact ⟨(hU k hk).1, (hU k hk).2.imp_left .inr⟩), fun k hk => ⟨(hU k hk).1, by
      have hb := h.blk.lt
      rcases (hU k hk).2 with h1 | h1
      · exact (h.ult k h1).2
      · omega⟩, h.a0⟩
theorem SrcR.keep {w w' : World} {s st N : Nat} {T U : Nat → Prop} {R : List KV} {H asked : Int} (h : SrcR w s st T U R N H asked) (ho : Only NoneOf w w') : SrcR w' s st T U R N H asked :=
  h.other ho (fun _ h => h.elim) (fun k hk => ⟨Nat.lt_of_lt_of_le (h.ult k hk).1 ho.size, .inl hk⟩)
/-- its own fields turned -/
theorem SrcR.set {w w' : World} {s st N : Nat} {T U : Nat → Prop} {R : List KV} {H asked H' asked' : Int} (h : SrcR w s st T U R N H asked) (hb : Blk w' s 53 #[.pointer (some ⟨st, 0, none⟩), .int .i64 H', .int .i64 asked']) (ho : Only (· = s) w w') (ha : 0 ≤ asked') : SrcR w' s st T U R N H' asked' :=
  ⟨hb, h.sto.other ho (fun k hk => .inl hk) (fun k hk => ⟨by
    rcases hk with rfl | hk
    · exact hb.lt
    · exact Nat.lt_of_lt_of_le (h.ult k hk).1 ho.size, .inl hk⟩), fun k hk => ⟨Nat.lt_of_lt_of_le (h.ult k hk).1 ho.size, (h.ult k hk).2⟩, ha⟩

theorem horizon_is (w : World) (s st N : Nat) (T U : Nat → Prop) (R : List KV) (H asked : Int) (h : SrcR w s st T U R N H asked) : Calls Tryz.prog 150 #[.pointer (some ⟨s, 0, none⟩)] w fun e w' => e = .returned (.int .i64 H) ∧ w = w' := by
  have c1 := h.blk.cellv 1 rfl
  clear h
  go_enter Tryz.func150, Tryz.ntmps150
  go_wp2_with fail
  go_ret
  exact ⟨rfl, rfl⟩

/-- what a source's Get answers -/
def SGetPost (s st : Nat) (T U : Nat → Prop) (R : List KV) (N : Nat) (H asked : Int) (f : Option (List UInt8)) (w : World) (e : Ending) (w' : World) : Prop :=
  (match f with
    | none => e = .returned (.tuple #[.slice none 0 0, .bool false])
    | some bs => ∃ A c, e = .returned (.tuple #[.slice A bs.length c, .bool true]) ∧ BytesAt w' A bs ∧ bs.length ≤ 4096) ∧ SrcR w' s st T U R N H (asked + 1) ∧ Only (· = s) w w'

set_option maxHeartbeats 1000000 in
theorem sget_is (w : World) (s st N : Nat) (T U : Nat → Prop) (R : List KV) (H asked : Int) (h : SrcR w s st T U R N H asked) (hk : asked < 4611686018427387904) (key : ByteArray) (hl : key.size ≤ maxLen) (x : Int) :
    Calls Tryz.prog 149 #[.pointer (some ⟨s, 0, none⟩), .string key, .int .i64 x] w (SGetPost s st T U R N H asked (found (verR R key) x) w) := by
  have c0 := h.blk.cellv 0 rfl
  have c2 := h.blk.cellv 2 rfl
  have f2 := h.blk.free 2
  have ha := h.a0
  have hq : IntKind.i64.wrap (asked + 1) = asked + 1 := by rw [IntKind.wrap_i64]; omega
  have hO : Only (· = s) w (w.setCell ⟨s, 2, none⟩ (.int .i64 (asked + 1))) := (Only.refl (· = s) w).put (.inl rfl) _
  have hS := h.set (H' := H) (asked' := asked + 1) (h.blk.put 2 (.int .i64 (asked + 1))) hO (by omega)
  have HG := Lib.hid (getR _ st N T _ R hS.sto key x hl)
  have HS := Lib.hid hS
  have HO := Lib.hid hO
  have hbs : ∀ bs, found (verR R key) x = some bs → bs.length ≤ 4096 := fun bs hb => by
    obtain ⟨y, hy, rfl⟩ := found_mem hb
    exact h.sto.good.bs _ (verR_mem.1 hy)
  have HBS := Lib.hid hbs
  clear h hS hO hbs hl
  obtain ⟨f, hf⟩ : ∃ f, found (verR R key) x = f := ⟨_, rfl⟩
  rw [hf] at HG HBS ⊢
  clear hf
  go_enter Tryz.func149, Tryz.ntmps149
  go_wp2_with fail
  refine HG.out.mono ?_
  rintro e w1 ⟨hget, ho⟩
  have HS1 := Lib.hid (HS.out.keep ho)
  have HO1 := Lib.hid (HO.out.trans (ho.mono fun _ _ h => h.elim))
  cases f with
  | none =>
    obtain rfl := hget
    clear ho
    go_wp2_with fail
    go_ret2
    exact ⟨rfl, HS1.out, HO1.out⟩
  | some bs =>
    obtain ⟨v, rfl, hr⟩ := hget
    obtain ⟨A, c, rfl, hby⟩ := hr.at
    have HBY := Lib.hid hby
    clear ho hr hby
    go_wp2_with fail
    go_ret2
    exact ⟨⟨A, c, rfl, HBY.out, HBS.out bs rfl⟩, HS1.out, HO1.out⟩

theorem IterZ.weak {α : Type} {P : Program} {gf : Nat} {lb : Array Value} {Enc Enc' : Nat → α → Array Value → World → Prop} {xs : List α} {Kp : Nat → Prop} {W : World} (h : IterZ P gf lb Enc xs Kp W) (he : ∀ n x args A, Enc n x args A → Enc' n x args A) : IterZ P gf lb Enc' xs Kp W :=
  fun l J Jx hJ hJx hE h0 hY => h l J Jx hJ hJx hE h0 fun Z pre x args A0 A hZ hj ho henc hpre => hY Z pre x args A0 A hZ hj ho (he _ _ _ _ henc) hpre
theorem pairK_E {Kp : Nat → Prop} {n : Nat} {x : ByteArray × List UInt8} {args : Array Value} {A : World} (h : PairK Kp n x args A) : PairE n x args A := by
  obtain ⟨B, c, h1, h2, _⟩ := h
  exact ⟨B, c, h1, h2⟩
theorem pairEnc_K {Kp : Nat → Prop} {n : Nat} {x : ByteArray × List UInt8} {args : Array Value} {A : World} (h : PairEnc n x args A) : PairK Kp n x args A := by
  obtain ⟨v, rfl, hr⟩ := h
  obtain ⟨B, c, rfl, hb⟩ := hr.at
  exact ⟨B, c, rfl, hb, fun _ g off hA => .inl (ownsRow_lt hr (g := g) (by rw [hA]; rfl)).1⟩

/-- what a source's Scan answers: an iterator over boxes of its own -/
def SScanPost (s st : Nat) (T U : Nat → Prop) (R : List KV) (N : Nat) (H asked : Int) (fr tt : ByteArray) (x : Int) (w : World) (e : Ending) (w' : World) : Prop :=
  ∃ b, e = .returned (.func (.func 155) #[] (scanFn b)) ∧ SrcR w' s st T U R N H (asked + 1) ∧ Only (· = s) w w' ∧ ∀ W, Only (· = s) w' W → IterZ Tryz.prog 155 (scanFn b) (PairK NoneOf) (scanR R fr tt x) NoneOf W

set_option maxHeartbeats 1000000 in
theorem sscan_is (w : World) (s st N : Nat) (T U : Nat → Prop) (R : List KV) (H asked : Int) (h : SrcR w s st T U R N H asked) (hk : asked < 4611686018427387904) (hN : N ≤ NMAX) (fr tt : ByteArray) (x : Int) :
    Calls Tryz.prog 151 #[.pointer (some ⟨s, 0, none⟩), .string fr, .string tt, .int .i64 x] w (SScanPost s st T U R N H asked fr tt x w) := by
  have c0 := h.blk.cellv 0 rfl
  have c2 := h.blk.cellv 2 rfl
  have f2 := h.blk.free 2
  have ha := h.a0
  have hq : IntKind.i64.wrap (asked + 1) = asked + 1 := by rw [IntKind.wrap_i64]; omega
  have hO : Only (· = s) w (w.setCell ⟨s, 2, none⟩ (.int .i64 (asked + 1))) := (Only.refl (· = s) w).put (.inl rfl) _
  have hS := h.set (H' := H) (asked' := asked + 1) (h.blk.put 2 (.int .i64 (asked + 1))) hO (by omega)
  obtain ⟨w1, hw1⟩ : ∃ w1, w.setCell ⟨s, 2, none⟩ (.int .i64 (asked + 1)) = w1 := ⟨_, rfl⟩
  have HW1 := Lib.hid hw1
  rw [hw1] at hS hO
  have HG := Lib.hid (scan_is w1 (some ⟨st, 0, none⟩) fr tt x)
  have HS := Lib.hid hS
  have HO := Lib.hid hO
  clear h hS hO hw1
  go_enter Tryz.func151, Tryz.ntmps151
  go_wp2_with fail
  rw [HW1.out]
  refine HG.out.mono ?_
  rintro e w2 ⟨rfl, rfl⟩
  go_wp2_with fail
  go_ret
  have ho : Only NoneOf w1 (scanBoxes w1 (.pointer (some ⟨st, 0, none⟩)) fr tt x) := ((((Only.refl NoneOf w1).alloc _).alloc _).alloc _).alloc _
  refine ⟨w1.heap.size, rfl, HS.out.keep ho, HO.out.trans (ho.mono fun _ _ h => h.elim), fun W hW => ?_⟩
  have k0 : (scanBoxes w1 (.pointer (some ⟨st, 0, none⟩)) fr tt x).cell? ⟨w1.heap.size, 0, none⟩ = some (.pointer (some ⟨st, 0, none⟩)) := ((((Blk.new w1 51 #[.pointer (some ⟨st, 0, none⟩)]).alloc _).alloc _).alloc _).cellv 0 rfl
  have k1 : (scanBoxes w1 (.pointer (some ⟨st, 0, none⟩)) fr tt x).cell? ⟨w1.heap.size + 1, 0, none⟩ = some (.string fr) := (((Blk.new' (w1.alloc (.cells #[.pointer (some ⟨st, 0, none⟩)] 51)) 9 #[.string fr] (n := w1.heap.size + 1) (by simp)).alloc _).alloc _).cellv 0 rfl
  have k2 : (scanBoxes w1 (.pointer (some ⟨st, 0, none⟩)) fr tt x).cell? ⟨w1.heap.size + 2, 0, none⟩ = some (.string tt) := ((Blk.new' ((w1.alloc (.cells #[.pointer (some ⟨st, 0, none⟩)] 51)).alloc (.cells #[.string fr] 9)) 9 #[.string tt] (n := w1.heap.size + 2) (by simp)).alloc _).cellv 0 rfl
  have k3 : (scanBoxes w1 (.pointer (some ⟨st, 0, none⟩)) fr tt x).cell? ⟨w1.heap.size + 3, 0, none⟩ = some (.int .i64 x) := (Blk.new' (((w1.alloc (.cells #[.pointer (some ⟨st, 0, none⟩)] 51)).alloc (.cells #[.string fr] 9)).alloc (.cells #[.string tt] 9)) 3 #[.int .i64 x] (n := w1.heap.size + 3) (by simp)).cellv 0 rfl
  have tr : ∀ i v, (scanBoxes w1 (.pointer (some ⟨st, 0, none⟩)) fr tt x).cell? ⟨w1.heap.size + i, 0, none⟩ = some v → W.cell? ⟨w1.heap.size + i, 0, none⟩ = some v := fun i v hv => (hW.cell (p := ⟨w1.heap.size + i, 0, none⟩) (World.block_lt_of_cell? _ _ hv) (fun (e : w1.heap.size + i = s) => by have := HS.out.blk.lt; omega)).trans hv
  have hst := (HS.out.keep ho).sto.other hW (U' := fun k => k = s ∨ U k) (fun k hk => .inl hk) (fun k hk => ⟨by
    rcases hk with rfl | hk
    · exact Nat.lt_of_lt_of_le (HS.out.keep ho).blk.lt hW.size
    · exact Nat.lt_of_lt_of_le ((HS.out.keep ho).ult k hk).1 hW.size, .inl hk⟩)
  exact (scanIter W w1.heap.size st N T _ R fr tt x hst hN (tr 0 _ k0) (tr 1 _ k1) (tr 2 _ k2) (tr 3 _ k3)).z.weak fun _ _ _ _ => pairEnc_K

end Go.Proofs.YtbhihbhjmmeibaaGreat

/-
  Layer 17: a transaction's Get, whatever the source's type.
-/
namespace Go.Proofs.YtbhihbhjmmeibaaGreat
open Go.RowKit Go.Shelf

/-- a source's type and value, and its methods -/
structure SrcM (tt : TypeId) (rv : Value) (fG fH fS : Nat) : Prop where
  mG : ∀ w, (method 334 tt rv "Get").run Tryz.prog w = .ok (fG, rv) w
  mH : ∀ w, (method 334 tt rv "Horizon").run Tryz.prog w = .ok (fH, rv) w
  mS : ∀ w, (method 334 tt rv "Scan").run Tryz.prog w = .ok (fS, rv) w
  nG : ∀ w, (nilAhead 334 tt rv "Get").run Tryz.prog w = .ok (some false) w
  nS : ∀ w, (nilAhead 334 tt rv "Scan").run Tryz.prog w = .ok (some false) w
  eG : ∀ args w, (callFunc fG args).run Tryz.prog w = .ok (.enter fG args) w
  eH : ∀ args w, (callFunc fH args).run Tryz.prog w = .ok (.enter fH args) w
  eS : ∀ args w, (callFunc fS args).run Tryz.prog w = .ok (.enter fS args) w

theorem source_m (a : Addr) : SrcM 50 (.pointer (some a)) 149 150 151 where
  mG _ := by kernel_rfl
  mH _ := by kernel_rfl
  mS _ := by kernel_rfl
  nG _ := by kernel_rfl
  nS _ := by kernel_rfl
  eG _ _ := by kernel_rfl
  eH _ _ := by kernel_rfl
  eS _ _ := by kernel_rfl

/-- the answer's numbers where the transaction does not come to its source's Get -/
def getE (ended : Bool) (snap : List Int) (x : Int) (key : ByteArray) : Int :=
  if openC ended snap.length x ≠ 0 then openC ended snap.length x else if ¬ (1 ≤ key.size ∧ key.size ≤ 255) then 140 else if (snap[x.toNat]?).getD 0 < 0 then 170 else 0

def TGet (bs : List UInt8) (is : Bool) (c : Int) (w : World) (e : Ending) (w' : World) : Prop := ∃ v, e = .returned (.tuple #[v, .bool is, .int .i64 c]) ∧ RowB w' w.heap.size v bs
theorem rowB_nil (w : World) (B : Nat) : RowB w B (.slice none 0 0) [] := ⟨by simp, .inl ⟨rfl, rfl⟩⟩

set_option maxRecDepth 100000 in
set_option maxHeartbeats 2000000 in
theorem txGet_early (w : World) (t p m place N : Nat) (snap : List Int) (ws : List We) (ended : Bool) (U : Nat → Prop) (h : TxR w t p m U place snap ws ended N) (x : Int) (key : ByteArray) (tt : TypeId) (rv : Value) (hc : getE ended snap x key ≠ 0) :
    Calls Tryz.prog 38 #[.pointer (some ⟨t, 0, none⟩), .int .i64 x, .string key, .iface tt rv] w fun e w' => TGet [] false (getE ended snap x key) w e w' ∧ w = w' := by
  have HOP := Lib.hid (open_is w t p m place N snap ws ended U h x)
  have HIK := Lib.hid (isKey_is w key)
  obtain ⟨A, c, h1, h2, _⟩ := h.blk
  have c1 := h1.cellv 1 rfl
  unfold getE at hc ⊢
  obtain ⟨oc, hoc⟩ : ∃ oc, openC ended snap.length x = oc := ⟨_, rfl⟩
  have HOC := Lib.hid hoc
  rw [hoc] at HOP hc ⊢
  by_cases ho0 : oc ≠ 0
  · rw [if_pos ho0]
    have hq : (oc == 0) = false := beq_eq_false_iff_ne.2 ho0
    clear hc h h1 h2 hoc
    go_enter Tryz.func38, Tryz.ntmps38
    go_wp2_with fail
    refine HOP.out.mono ?_; rintro e w1 ⟨rfl, rfl⟩
    go_wp2_with fail
    refine bodyPost_ret (results_tmp3 rfl _ _ _) rfl ?_
    exact ⟨⟨_, rfl, rowB_nil _ _⟩, rfl⟩
  · obtain rfl : oc = 0 := by omega
    rw [if_neg ho0] at hc ⊢
    by_cases hk : 1 ≤ key.size ∧ key.size ≤ 255
    · rw [if_neg (not_not_intro hk)] at hc ⊢
      rw [decide_eq_true hk] at HIK
      by_cases hy : (snap[x.toNat]?).getD 0 < 0
      · rw [if_pos hy]
        have hx : 0 ≤ x ∧ x < snap.length := by
          unfold openC at hoc
          split at hoc
          · cases hoc
          · split at hoc
            · cases hoc
            · omega
        obtain ⟨k, rfl⟩ : ∃ k : Nat, x = k := ⟨x.toNat, by omega⟩
        have hkn : k < snap.length := by omega
        rw [Int.toNat_natCast, List.getElem?_eq_getElem hkn] at hy
        obtain ⟨g, off, rfl, hg, hcc⟩ := h2 k _ (List.getElem?_eq_getElem hkn)
        simp only [Option.getD_some] at hy
        generalize snap[k] = y at hy hcc
        obtain ⟨n, hn⟩ : ∃ n, snap.length = n := ⟨_, rfl⟩
        rw [hn] at hkn c1
        have hk1 : ¬ (n : Int) ≤ (k : Int) := by omega
        clear hc h h1 h2 hoc hx hn hk
        go_enter Tryz.func38, Tryz.ntmps38
        go_wp2_with fail
        refine HOP.out.mono ?_; rintro e w1 ⟨rfl, rfl⟩
        go_wp2_with fail
        refine HIK.out.mono ?_; rintro e w1 ⟨rfl, rfl⟩
        go_wp2_with fail
        refine bodyPost_ret (results_tmp3 rfl _ _ _) rfl ?_
        exact ⟨⟨_, rfl, rowB_nil _ _⟩, rfl⟩
      · rw [if_neg hy] at hc
        exact absurd rfl hc
    · rw [if_pos hk]
      rw [decide_eq_false hk] at HIK
      clear hc h h1 h2 hoc hk
      go_enter Tryz.func38, Tryz.ntmps38
      go_wp2_with fail
      refine HOP.out.mono ?_; rintro e w1 ⟨rfl, rfl⟩
      go_wp2_with fail
      refine HIK.out.mono ?_; rintro e w1 ⟨rfl, rfl⟩
      go_wp2_with fail
      refine bodyPost_ret (results_tmp3 rfl _ _ _) rfl ?_
      exact ⟨⟨_, rfl, rowB_nil _ _⟩, rfl⟩

end Go.Proofs.YtbhihbhjmmeibaaGreat

/-
  Layer 17: a transaction's Get: its own write; too old.
-/
namespace Go.Proofs.YtbhihbhjmmeibaaGreat
open Go.RowKit Go.Shelf

theorem getE_zero {ended : Bool} {snap : List Int} {x : Int} {key : ByteArray} (hc : getE ended snap x key = 0) : openC ended snap.length x = 0 ∧ (1 ≤ key.size ∧ key.size ≤ 255) ∧ ∃ (k : Nat) (y : Int), x = k ∧ snap[k]? = some y ∧ 0 ≤ y := by
  unfold getE at hc
  split at hc
  · rename_i h; exact absurd hc h
  · rename_i h
    have h0 : openC ended snap.length x = 0 := by omega
    split at hc
    · cases hc
    · rename_i hk
      split at hc
      · cases hc
      · rename_i hy
        refine ⟨h0, by omega, ?_⟩
        have hx : 0 ≤ x ∧ x < snap.length := by
          unfold openC at h0
          split at h0
          · cases h0
          · split at h0
            · cases h0
            · omega
        obtain ⟨k, rfl⟩ : ∃ k : Nat, x = k := ⟨x.toNat, by omega⟩
        have hkn : k < snap.length := by omega
        rw [Int.toNat_natCast, List.getElem?_eq_getElem hkn] at hy
        exact ⟨k, snap[k], rfl, List.getElem?_eq_getElem hkn, by simpa using hy⟩

theorem wget_form {ws : List We} {key : ByteArray} {w : World} {e : Ending} {w' : World} (h : WGet ws key w e w') : ∃ kk A n c d, e = .returned (.tuple #[.agg (verC kk 0 (.slice A n c) d), .bool (look ws key.data.toList).isSome]) ∧ Only NoneOf w w' := by
  obtain ⟨h1, h2⟩ := h
  cases hl : look ws key.data.toList with
  | none =>
    rw [hl] at h1
    exact ⟨_, none, 0, 0, false, h1, h2⟩
  | some x =>
    rw [hl] at h1
    obtain ⟨v, he, hr⟩ := h1
    obtain ⟨A, c, rfl, _⟩ := hr.at
    exact ⟨_, A, _, c, _, he, h2⟩

set_option maxRecDepth 100000 in
set_option maxHeartbeats 2000000 in
theorem txGet_own (w : World) (t p m place N : Nat) (snap : List Int) (ws : List We) (ended : Bool) (U : Nat → Prop) (h : TxR w t p m U place snap ws ended N) (key : ByteArray) (hkl : key.size ≤ maxLen) (tt : TypeId) (rv : Value) (hc : getE ended snap place key = 0) (x : We) (hx : look ws key.data.toList = some x) :
    Calls Tryz.prog 38 #[.pointer (some ⟨t, 0, none⟩), .int .i64 place, .string key, .iface tt rv] w fun e w' => TGet x.bs (!x.dead) 0 w e w' ∧ Only NoneOf w w' := by
  obtain ⟨h0, hk, k, y, hkp, hy, hy0⟩ := getE_zero hc
  obtain rfl : k = place := by omega
  have HOP := Lib.hid (open_is w t p m k N snap ws ended U h (k : Int))
  have HIK := Lib.hid (isKey_is w key)
  rw [h0] at HOP
  rw [decide_eq_true hk] at HIK
  have HWG := Lib.hid (wgetR w p m N _ ws h.set key hkl)
  have hWG := HWG.out
  unfold WGet at hWG
  rw [hx] at hWG
  replace HWG := Lib.hid hWG
  obtain ⟨A, c, h1, h2, _⟩ := h.blk
  have c0 := h1.cellv 0 rfl
  have c1 := h1.cellv 1 rfl
  have c2 := h1.cellv 2 rfl
  obtain ⟨g, off, rfl, hg, hcc⟩ := h2 k y hy
  have hkn : k < snap.length := (List.getElem?_eq_some_iff.1 hy).1
  have htl := h1.lt
  have HT := Lib.hid h1
  obtain ⟨n, hn⟩ : ∃ n, snap.length = n := ⟨_, rfl⟩
  rw [hn] at hkn c1
  have hk1 : ¬ (n : Int) ≤ (k : Int) := by omega
  have hk2 : ¬ y < 0 := by omega
  clear hc h h1 h2 hn hk h0 hkp hy hx hWG
  go_enter Tryz.func38, Tryz.ntmps38
  go_wp2_with fail
  refine HOP.out.mono ?_; rintro e w1 ⟨rfl, rfl⟩
  go_wp2_with fail
  refine HIK.out.mono ?_; rintro e w1 ⟨rfl, rfl⟩
  go_wp2_with fail
  refine HWG.out.mono ?_; rintro e w1 ⟨⟨v, rfl, hr⟩, ho⟩
  obtain ⟨xk, xb, xd⟩ := x
  simp only at hr ⊢
  obtain ⟨A', c', rfl, _⟩ := hr.at
  have d0 := (HT.out.only ho (fun h => h)).cellv 0 rfl
  have d0l := (HT.out.only ho (fun h => h)).lt
  have hB := Lib.hid (Blk.new w1 47 zeroVer)
  have E5 := hB.out.row (verC key 0 (.slice A' xb.length c') xd)
  have q2 := E5.cellv 2 rfl
  have q3 := E5.cellv 3 rfl
  have hO := Lib.hid (((Only.refl NoneOf w1).alloc (.cells zeroVer 47)).row (b := w1.heap.size) (.inr (Nat.le_refl _)) (verC key 0 (.slice A' xb.length c') xd))
  have HO := Lib.hid ho
  have HR := Lib.hid (hr.keep hO.out)
  have e0 := (hO.out.cell (p := ⟨t, 0, none⟩) d0l (fun h => h)).trans d0
  clear hr ho E5
  go_wp2_with (first | (refine wpList_store_row rfl 47 (.tmp 12) (.tmp 48) rfl w1.heap.size (verC key 0 (.slice A' xb.length c') xd) rfl rfl 47 zeroVer hB.out infoV rfl (by simp [Value.oneCell']) ?_) | fail)
  go_quiet (fail)
  go_wp2_with fail
  refine bodyPost_ret (results_tmp3 rfl _ _ _) rfl ?_
  refine ⟨⟨_, rfl, ?_⟩, (HO.out.trans hO.out).drewN _⟩
  exact HR.out.keep ((Only.refl NoneOf _).drewN _)

end Go.Proofs.YtbhihbhjmmeibaaGreat

/-
  Layer 17: a transaction's Get: too old.
-/
namespace Go.Proofs.YtbhihbhjmmeibaaGreat
open Go.RowKit Go.Shelf

/-- a cell that stays -/
def CellIs (g off k : Nat) (y : Int) (w : World) : Prop := g < w.heap.size ∧ w.cell? ⟨g, off + k, none⟩ = some (.int .i64 y)
theorem CellIs.keep {g off k : Nat} {y : Int} {w w' : World} (h : CellIs g off k y w) (ho : Only NoneOf w w') : w'.cell? ⟨g, off + k, none⟩ = some (.int .i64 y) := (ho.cell (p := ⟨g, off + k, none⟩) h.1 (fun h => h)).trans h.2

set_option maxRecDepth 100000 in
set_option maxHeartbeats 2000000 in
theorem txGet_old (w : World) (t p m place N : Nat) (snap : List Int) (ws : List We) (ended : Bool) (U : Nat → Prop) (h : TxR w t p m U place snap ws ended N) (k : Nat) (key : ByteArray) (hkl : key.size ≤ maxLen) (tt : TypeId) (rv : Value) (hc : getE ended snap k key = 0)
    (hno : (look ws key.data.toList).isSome = false ∨ k ≠ place) {fG fH fS : Nat} (sm : SrcM tt rv fG fH fS) (hz : Int) (cH : ∀ u, Only NoneOf w u → Calls Tryz.prog fH #[rv] u fun e u' => e = .returned (.int .i64 hz) ∧ u = u') (y : Int) (hy : snap[k]? = some y) (hlt : y < hz) :
    Calls Tryz.prog 38 #[.pointer (some ⟨t, 0, none⟩), .int .i64 k, .string key, .iface tt rv] w fun e w' => TGet [] false 172 w e w' ∧ Only NoneOf w w' := by
  obtain ⟨h0, hk, k', y', hkp, hy', hy0⟩ := getE_zero hc
  obtain rfl : k' = k := by omega
  obtain rfl : y' = y := by rw [hy] at hy'; injection hy' with hy'; exact hy'.symm
  have HOP := Lib.hid (open_is w t p m place N snap ws ended U h (k' : Int))
  have HIK := Lib.hid (isKey_is w key)
  rw [h0] at HOP
  rw [decide_eq_true hk] at HIK
  have HWG := Lib.hid ((wgetR w p m N _ ws h.set key hkl).mono fun _ _ hh => wget_form hh)
  obtain ⟨A, c, h1, h2, _⟩ := h.blk
  have c0 := h1.cellv 0 rfl
  have c1 := h1.cellv 1 rfl
  have c2 := h1.cellv 2 rfl
  obtain ⟨g, off, rfl, hg, hcc⟩ := h2 k' y' hy
  have HCC := Lib.hid (show CellIs g off k' y' w from ⟨hg, hcc⟩)
  have hkn : k' < snap.length := (List.getElem?_eq_some_iff.1 hy).1
  have htl := h1.lt
  have HT := Lib.hid h1
  obtain ⟨n, hn⟩ : ∃ n, snap.length = n := ⟨_, rfl⟩
  rw [hn] at hkn c1 HT
  have hk1 : ¬ (n : Int) ≤ (k' : Int) := by omega
  have hk2 : ¬ y' < 0 := by omega
  obtain ⟨k, hkk⟩ : ∃ k, k' = k := ⟨_, rfl⟩
  obtain ⟨y, hyy⟩ : ∃ y, y' = y := ⟨_, rfl⟩
  subst hkk hyy
  obtain ⟨fb, hfb⟩ : ∃ fb, (look ws key.data.toList).isSome = fb := ⟨_, rfl⟩
  rw [hfb] at HWG hno
  have hltd : decide (y' < hz) = true := decide_eq_true hlt
  clear hc h h1 h2 hn hk h0 hkp hy hfb hy'
  go_enter Tryz.func38, Tryz.ntmps38
  go_wp2_with fail
  refine HOP.out.mono ?_; rintro e w1 ⟨rfl, rfl⟩
  go_wp2_with fail
  refine HIK.out.mono ?_; rintro e w1 ⟨rfl, rfl⟩
  go_wp2_with fail
  refine HWG.out.mono ?_; rintro e w1 ⟨kk, A', n', c', d', rfl, ho⟩
  have d0 := (HT.out.only ho (fun h => h)).cellv 0 rfl
  have d0l := (HT.out.only ho (fun h => h)).lt
  have hB := Lib.hid (Blk.new w1 47 zeroVer)
  have hO := Lib.hid (((Only.refl NoneOf w1).alloc (.cells zeroVer 47)).row (b := w1.heap.size) (.inr (Nat.le_refl _)) (verC kk 0 (.slice A' n' c') d'))
  have HO2 := Lib.hid (ho.trans hO.out)
  have e0 := (hO.out.cell (p := ⟨t, 0, none⟩) d0l (fun h => h)).trans d0
  obtain ⟨w2, hw2⟩ : ∃ w2, (w1.alloc (.cells zeroVer 47)).setRow w1.heap.size (verC kk 0 (.slice A' n' c') d') = w2 := ⟨_, rfl⟩
  have HW2 := Lib.hid hw2
  rw [hw2] at HO2
  clear ho hO hw2 d0
  have hgo : fb = false ∨ (fb = true ∧ ((k' : Int) == (place : Int)) = false) := by
    cases fb with
    | false => exact .inl rfl
    | true => exact .inr ⟨rfl, beq_eq_false_iff_ne.2 (fun e => by rcases hno with h | h; cases h; exact h (by omega))⟩
  rcases hgo with rfl | ⟨rfl, hq⟩
  all_goals
    go_upto_region 13 with (first | (refine wpList_store_row rfl 47 (.tmp 12) (.tmp 48) rfl w1.heap.size (verC kk 0 (.slice A' n' c') d') rfl rfl 47 zeroVer hB.out infoV rfl (by simp [Value.oneCell']) ?_) | fail)
    rw [HW2.out]
    refine wp_region_head 9 94 (ConstT fun i => match i with | 0 => .pointer (some ⟨t, 0, none⟩) | 1 => .pointer (some ⟨t, 0, none⟩) | 2 => .pointer (some ⟨t, 1, none⟩) | 3 => .slice (some ⟨g, off, none⟩) n c | 4 => .int .i64 (k' : Int) | 5 => .pointer (some ⟨g, off + k', none⟩) | 6 => .int .i64 y' | 7 => .iface tt rv | _ => .int .i64 hz) (fun _ => false) rfl (by kernel_rfl) (by kernel_rfl) (fun _ _ _ _ h _ => h) (fun _ _ _ h => by cases h) ?_ ?_
    · intro i o hi ho a u hu hs ht
      have e0 : a.tmps.getD 0 undef = .pointer (some ⟨t, 0, none⟩) := hs 0 (of_decide_eq_true (by kernel_rfl))
      have e1 : a.tmps.getD 1 undef = .int .i64 (k' : Int) := hs 1 (of_decide_eq_true (by kernel_rfl))
      have e3 : a.tmps.getD 3 undef = .iface tt rv := hs 3 (of_decide_eq_true (by kernel_rfl))
      have FB := HT.out.only (HO2.out.trans hu) (fun h => h)
      have c1 := FB.cellv 1 rfl
      have cy := (HCC.out.keep (HO2.out.trans hu))
      have : i = 0 ∨ i = 1 ∨ i = 2 ∨ i = 3 ∨ i = 4 ∨ i = 5 ∨ i = 6 ∨ i = 7 ∨ i = 8 := by omega
      rcases this with rfl | rfl | rfl | rfl | rfl | rfl | rfl | rfl | rfl
      · obtain rfl := Option.some.inj (ho : some _ = some o)
        exact left_value (.pointer (some ⟨t, 0, none⟩)) (by simp [go_sem, e0]) rfl rfl
      · obtain rfl := Option.some.inj (ho : some _ = some o)
        have s0 : a.tmps.getD 64 undef = .pointer (some ⟨t, 0, none⟩) := ht 0 (by omega) (by kernel_rfl)
        exact left_value (.pointer (some ⟨t, 0, none⟩)) (by simp [go_sem, s0]) rfl rfl
      · obtain rfl := Option.some.inj (ho : some _ = some o)
        have s1 : a.tmps.getD 65 undef = .pointer (some ⟨t, 0, none⟩) := ht 1 (by omega) (by kernel_rfl)
        exact left_value (.pointer (some ⟨t, 1, none⟩)) (by simp [go_sem, s1]) rfl rfl
      · obtain rfl := Option.some.inj (ho : some _ = some o)
        have s2 : a.tmps.getD 66 undef = .pointer (some ⟨t, 1, none⟩) := ht 2 (by omega) (by kernel_rfl)
        exact left_value (.slice (some ⟨g, off, none⟩) n c) (by simp [go_sem, s2, c1]) rfl rfl
      · obtain rfl := Option.some.inj (ho : some _ = some o)
        exact left_value (.int .i64 (k' : Int)) (by simp [go_sem, e1]) rfl rfl
      · obtain rfl := Option.some.inj (ho : some _ = some o)
        have s3 : a.tmps.getD 67 undef = .slice (some ⟨g, off, none⟩) n c := ht 3 (by omega) (by kernel_rfl)
        have s4 : a.tmps.getD 68 undef = .int .i64 (k' : Int) := ht 4 (by omega) (by kernel_rfl)
        exact left_value (.pointer (some ⟨g, off + k', none⟩)) (by simp [go_sem, s3, s4, hkn]) rfl rfl
      · obtain rfl := Option.some.inj (ho : some _ = some o)
        have s5 : a.tmps.getD 69 undef = .pointer (some ⟨g, off + k', none⟩) := ht 5 (by omega) (by kernel_rfl)
        exact left_value (.int .i64 y') (by simp [go_sem, s5, cy]) rfl rfl
      · obtain rfl := Option.some.inj (ho : some _ = some o)
        exact left_value (.iface tt rv) (by simp [go_sem, e3]) rfl rfl
      · obtain rfl := Option.some.inj (ho : some _ = some o)
        have s7 : a.tmps.getD 71 undef = .iface tt rv := ht 7 (by omega) (by kernel_rfl)
        refine left_calls fH #[rv] (by simp [go_sem, s7, sm.mH, sm.eH]) ((cH u (HO2.out.trans hu)).mono ?_) rfl
        rintro e u' ⟨rfl, rfl⟩
        exact ⟨_, rfl, rfl, Only.refl _ _⟩
    · intro V' u3 hu hV' _
      have v0 : V' 0 = .pointer (some ⟨t, 0, none⟩) := hV' 0 (by omega)
      have v1 : V' 1 = .pointer (some ⟨t, 0, none⟩) := hV' 1 (by omega)
      have v2 : V' 2 = .pointer (some ⟨t, 1, none⟩) := hV' 2 (by omega)
      have v3 : V' 3 = .slice (some ⟨g, off, none⟩) n c := hV' 3 (by omega)
      have v4 : V' 4 = .int .i64 (k' : Int) := hV' 4 (by omega)
      have v5 : V' 5 = .pointer (some ⟨g, off + k', none⟩) := hV' 5 (by omega)
      have v6 : V' 6 = .int .i64 y' := hV' 6 (by omega)
      have v7 : V' 7 = .iface tt rv := hV' 7 (by omega)
      have v8 : V' 8 = .int .i64 hz := hV' 8 (by omega)
      change wpList _ _ _ _ (Act.put (Act.put (Act.put (Act.put (Act.put (Act.put (Act.put (Act.put (Act.put _ (some 64) (V' 0)) (some 65) (V' 1)) (some 66) (V' 2)) (some 67) (V' 3)) (some 68) (V' 4)) (some 69) (V' 5)) (some 70) (V' 6)) (some 71) (V' 7)) (some 72) (V' 8)) _
      rw [v0, v1, v2, v3, v4, v5, v6, v7, v8]
      simp only [Act.put, List.setIfInBounds_toArray, List.set_cons_zero, List.set_cons_succ]
      simp only [List.drop_succ_cons, List.drop_zero]
      clear hV' v0 v1 v2 v3 v4 v5 v6 v7 v8

      have HF := Lib.hid (HO2.out.trans hu)
      clear hu
      go_wp2_with fail
      refine bodyPost_ret (results_tmp3 rfl _ _ _) rfl ?_
      exact ⟨⟨_, rfl, rowB_nil _ _⟩, HF.out⟩

end Go.Proofs.YtbhihbhjmmeibaaGreat

