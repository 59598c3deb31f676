/-
  Texts of this proof, laid together: S21, S22, S23, S24, S25, S26, Law, Slice, S28, S27.
-/
import Derived.Test.YtnonnencdhogiaaM3
import Derived.Deep.QuietTactic
import Derived.BigQuiet
import Derived.Test.YtnonnencdhogiaaM1
import Derived.ProofKit
import Derived.SizedLaws
import Derived.Deep.Fields
import Derived.Deep.Slices
/-
  Layer 14's law: bytes, pairs, versions compared.
-/
namespace Go.Proofs.Ytnonnencdhogiaa
open Go.RowKit

/-- It answers, and turned nothing but the draw. -/
abbrev Told (v : Value) (w : World) (e : Ending) (w' : World) : Prop := e = .returned v ∧ ∃ m, w' = w.drewN m

theorem BytesAt.drewN {w : World} {A : Option Addr} {bs : List UInt8} (h : BytesAt w A bs) (n : Nat) : BytesAt (w.drewN n) A bs := h.keep ((Only.refl NoneOf w).drewN n)

theorem bytes_beq (a b : ByteArray) : (a.toList == b.toList) = decide (a = b) := by
  rw [ByteArray.toList_eq, ByteArray.toList_eq]
  by_cases h : a = b
  · subst h; simp
  · rw [decide_eq_false h]
    refine beq_eq_false_iff_ne.2 fun e => h ?_
    rw [← keyB_list a, ← keyB_list b, e]

theorem take_ne {α : Type} {xs ys : List α} {i : Nat} {x y : α} (hx : xs[i]? = some x) (hy : ys[i]? = some y) (h : x ≠ y) : xs ≠ ys := fun e => by
  subst e
  rw [hx] at hy
  cases hy
  exact h rfl
theorem take_all {α : Type} {xs ys : List α} (hl : xs.length = ys.length) (h : ∀ i, i < xs.length → xs[i]? = ys[i]?) : xs = ys := by
  refine List.ext_getElem? fun i => ?_
  rcases Nat.lt_or_ge i xs.length with hi | hi
  · exact h i hi
  · rw [List.getElem?_eq_none hi, List.getElem?_eq_none (by omega)]

set_option maxRecDepth 100000 in
set_option maxHeartbeats 1000000 in
theorem equal_is (w : World) (A1 A2 : Option Addr) (n1 n2 c1 c2 : Nat) (xs ys : List UInt8) (hn1 : xs.length = n1) (hn2 : ys.length = n2) (h1 : BytesAt w A1 xs) (h2 : BytesAt w A2 ys) (hl : n1 ≤ 4611686018427387904) :
    Calls Try.prog 24 #[.slice A1 n1 c1, .slice A2 n2 c2] w (Told (.bool (decide (xs = ys))) w) := by
  by_cases hne : n1 = n2
  · subst hne
    have H1 := Lib.hid h1
    have H2 := Lib.hid h2
    have HN1 := Lib.hid hn1
    have HN2 := Lib.hid hn2
    clear h1 h2 hn1 hn2
    have hq : ((n1 : Int) == (n1 : Int)) = true := by simp
    go_enter Try.func24, Try.ntmps24
    go_wp2_with fail
    go_loopw [13] (fun v wr => ∃ i m : Nat, v = .int .i64 i ∧ i ≤ n1 ∧ wr = w.drewN m ∧ ∀ j, j < i → xs[j]? = ys[j]?) (fun v _ => n1 - (intOf v).toNat)
    case atStart => exact ⟨0, 0, rfl, by omega, rfl, fun j hj => by omega⟩
    case round =>
      obtain ⟨i, m, rfl, hi, rfl, heq⟩ := hrel
      by_cases hlt : i < n1
      · have hx : xs[i]? = some (xs[i]'(by rw [HN1.out]; exact hlt)) := List.getElem?_eq_getElem _
        have hy : ys[i]? = some (ys[i]'(by rw [HN2.out]; exact hlt)) := List.getElem?_eq_getElem _
        generalize xs[i]'(by rw [HN1.out]; exact hlt) = x at hx
        generalize ys[i]'(by rw [HN2.out]; exact hlt) = y at hy
        obtain ⟨g1, o1, rfl, hg1, k1⟩ := H1.out i x hx
        obtain ⟨g2, o2, rfl, hg2, k2⟩ := H2.out i y hy
        have HEQ := Lib.hid heq
        clear heq
        go_wp2_with fail
        go_quiet (fail)
        cases hbb : ((x.toNat : Int) != (y.toNat : Int))
        · have e : x = y := by
            rcases Decidable.em (x = y) with e | e
            · exact e
            · have := bne_eq_false_iff_eq.1 hbb
              exact UInt8.toNat_inj.1 (by omega)
          go_wp2_with fail
          refine ⟨⟨i + 1, _, by rw [show ((i + 1 : Nat) : Int) = (i : Int) + 1 by omega], by omega, rfl, fun j hj => ?_⟩, by simp [intOf]; omega⟩
          rcases Nat.lt_or_ge j i with h | h
          · exact HEQ.out j h
          · obtain rfl : j = i := by omega
            rw [hx, hy, e]
        · have e : x ≠ y := fun e => by subst e; simp at hbb
          have HD := Lib.hid (show decide (xs = ys) = false from decide_eq_false (take_ne hx hy e))
          go_wp2_with fail
          go_ret
          rw [HD.out]
          exact ⟨rfl, _, World.drewN_drewN _ _ _⟩
      · obtain rfl : i = n1 := by omega
        have HALL := Lib.hid (take_all (by rw [HN1.out, HN2.out]) (fun j hj => heq j (by rw [← HN1.out]; exact hj)))
        go_wp2_with fail
        go_ret
        exact ⟨by rw [decide_eq_true HALL.out]; rfl, m, rfl⟩
  · have hq : ((n1 : Int) == (n2 : Int)) = false := beq_eq_false_iff_ne.2 (by omega)
    have hd : decide (xs = ys) = false := decide_eq_false fun e => hne (by rw [← hn1, ← hn2, e])
    rw [hd]
    clear h1 h2
    go_enter Try.func24, Try.ntmps24
    go_wp2_with fail
    go_ret
    exact ⟨rfl, 0, rfl⟩

/-- the elements of a slice in memory -/
def ListAt {α : Type} (sz : Nat) (E : World → α → List Value → Prop) (w : World) (v : Value) (xs : List α) : Prop :=
  ∃ A cap, v = .slice A xs.length cap ∧ ∀ (i : Nat) (x : α), xs[i]? = some x → ∃ g off cs, A = some ⟨g, off, none⟩ ∧ g < w.heap.size ∧ (∀ (j : Nat) (c : Value), cs[j]? = some c → w.cell? ⟨g, off + i * sz + j, none⟩ = some c) ∧ cs.length = sz ∧ E w x cs
def PairE (w : World) (x : ByteArray × List UInt8) (cs : List Value) : Prop := ∃ A c, cs = [.string x.1, .slice A x.2.length c] ∧ BytesAt w A x.2
def VerE (w : World) (x : KV) (cs : List Value) : Prop := ∃ A c, cs = [.string x.1, .int .i64 x.2.st, .slice A x.2.bs.length c, .bool x.2.dead] ∧ BytesAt w A x.2.bs

theorem ListAt.keep {α : Type} {sz : Nat} {E : World → α → List Value → Prop} {w w' : World} {v : Value} {xs : List α} (h : ListAt sz E w v xs) (hE : ∀ x cs, E w x cs → E w' x cs) (ho : Only NoneOf w w') : ListAt sz E w' v xs := by
  obtain ⟨A, cap, hv, h⟩ := h
  refine ⟨A, cap, hv, fun i x hx => ?_⟩
  obtain ⟨g, off, cs, hA, hg, hc, hl, he⟩ := h i x hx
  exact ⟨g, off, cs, hA, Nat.lt_of_lt_of_le hg ho.size, fun j c hj => (ho.cell (p := ⟨g, off + i * sz + j, none⟩) hg (fun h => h)).trans (hc j c hj), hl, hE x cs he⟩
theorem PairE.keep {w w' : World} (ho : Only NoneOf w w') (x : ByteArray × List UInt8) (cs : List Value) (h : PairE w x cs) : PairE w' x cs := by
  obtain ⟨A, c, hcs, hb⟩ := h
  exact ⟨A, c, hcs, hb.keep ho⟩
theorem VerE.keep {w w' : World} (ho : Only NoneOf w w') (x : KV) (cs : List Value) (h : VerE w x cs) : VerE w' x cs := by
  obtain ⟨A, c, hcs, hb⟩ := h
  exact ⟨A, c, hcs, hb.keep ho⟩

set_option maxRecDepth 100000 in
set_option maxHeartbeats 4000000 in
theorem pairs_alike (w : World) (v1 v2 : Value) (xs ys : List (ByteArray × List UInt8)) (h1 : ListAt 2 PairE w v1 xs) (h2 : ListAt 2 PairE w v2 ys) (hl : xs.length ≤ 4611686018427387904) (hb : ∀ x ∈ xs, x.2.length ≤ 4611686018427387904) :
    Calls Try.prog 28 #[v1, v2] w (Told (.bool (decide (xs = ys))) w) := by
  obtain ⟨A1, c1, rfl, h1⟩ := h1
  obtain ⟨A2, c2, rfl, h2⟩ := h2
  by_cases hne : xs.length = ys.length
  · obtain ⟨n1, hn⟩ : ∃ n1, xs.length = n1 := ⟨_, rfl⟩
    have H1 := Lib.hid h1
    have H2 := Lib.hid h2
    have HN1 := Lib.hid hn
    have HN2 := Lib.hid (show ys.length = n1 by omega)
    rw [hn, show ys.length = n1 by omega]
    rw [hn] at hl
    clear h1 h2 hne hn
    have hq : ((n1 : Int) == (n1 : Int)) = true := by simp
    go_enter Try.func28, Try.ntmps28
    go_wp2_with fail
    go_loopw [13] (fun v wr => ∃ i m : Nat, v = .int .i64 i ∧ i ≤ n1 ∧ wr = w.drewN m ∧ ∀ j, j < i → xs[j]? = ys[j]?) (fun v _ => n1 - (intOf v).toNat)
    case atStart => exact ⟨0, 0, rfl, by omega, rfl, fun j hj => by omega⟩
    case round =>
      obtain ⟨i, m, rfl, hi, hm, heq⟩ := hrel
      have HM := Lib.hid hm
      have HO := Lib.hid (show Only NoneOf w wr by rw [hm]; exact (Only.refl _ _).drewN _)
      clear hm
      by_cases hlt : i < n1
      · have hx : xs[i]? = some (xs[i]'(by rw [HN1.out]; exact hlt)) := List.getElem?_eq_getElem _
        have hy : ys[i]? = some (ys[i]'(by rw [HN2.out]; exact hlt)) := List.getElem?_eq_getElem _
        generalize xs[i]'(by rw [HN1.out]; exact hlt) = x at hx
        generalize ys[i]'(by rw [HN2.out]; exact hlt) = y at hy
        obtain ⟨g1, o1, cs1, rfl, hg1, k1, _, B1, d1, rfl, hb1⟩ := H1.out i x hx
        obtain ⟨g2, o2, cs2, rfl, hg2, k2, _, B2, d2, rfl, hb2⟩ := H2.out i y hy
        have p0 := (HO.out.cell (p := ⟨g1, o1 + i * 2 + 0, none⟩) hg1 (fun h => h)).trans (k1 0 _ rfl)
        have p1 := (HO.out.cell (p := ⟨g1, o1 + i * 2 + 1, none⟩) hg1 (fun h => h)).trans (k1 1 _ rfl)
        have q0 := (HO.out.cell (p := ⟨g2, o2 + i * 2 + 0, none⟩) hg2 (fun h => h)).trans (k2 0 _ rfl)
        have q1 := (HO.out.cell (p := ⟨g2, o2 + i * 2 + 1, none⟩) hg2 (fun h => h)).trans (k2 1 _ rfl)
        rw [Nat.add_zero] at p0 q0
        have HEQ := Lib.hid heq
        have HEL := fun u (hu : Only NoneOf wr u) => Lib.hid (equal_is u B1 B2 x.2.length y.2.length d1 d2 x.2 y.2 rfl rfl ((hb1.keep HO.out).keep hu) ((hb2.keep HO.out).keep hu) (hb x (List.mem_of_getElem? hx)))
        have HNX := fun (hxy : x = y) m' => Lib.hid (show ∃ i' m'' : Nat, Value.int .i64 ((i : Int) + 1) = .int .i64 i' ∧ i' ≤ n1 ∧ wr.drewN m' = w.drewN m'' ∧ ∀ j, j < i' → xs[j]? = ys[j]? from
          ⟨i + 1, m + m', by rw [show ((i + 1 : Nat) : Int) = (i : Int) + 1 by omega], by omega, by rw [HM.out, World.drewN_drewN], fun j hj => by
            rcases Nat.lt_or_ge j i with h | h
            · exact heq j h
            · obtain rfl : j = i := by omega
              rw [hx, hy, hxy]⟩)
        obtain ⟨xk, xb⟩ := x
        obtain ⟨yk, yb⟩ := y
        have HNE := fun (hxy : (xk, xb) ≠ (yk, yb)) => Lib.hid (show decide (xs = ys) = false from decide_eq_false (take_ne hx hy hxy))
        simp only at p0 p1 q0 q1 HEL
        clear heq k1 k2 hb1 hb2
        cases hk : (xk.toList == yk.toList)
        · have HD := HNE (fun e => by injection e with e1 e2; rw [e1] at hk; simp at hk)
          go_wp2_with fail
          go_quiet (fail)
          go_wp2_with fail
          go_ret
          rw [HD.out]
          exact ⟨rfl, m + _, by rw [HM.out, World.drewN_drewN]⟩
        · have hkk : xk = yk := by rw [bytes_beq] at hk; exact of_decide_eq_true hk
          cases hbb : decide (xb = yb)
          · have HD := HNE (fun e => by injection e with e1 e2; rw [e2] at hbb; simp at hbb)
            simp only [hbb] at HEL
            go_wp2_with fail
            go_quiet ((go_at_call 24; exact Calls.quiet_of (HEL _ (by repeat (first | exact Only.refl _ _ | refine Only.drewN ?_ _))).out))
            go_wp2_with fail
            go_ret
            rw [HD.out]
            exact ⟨rfl, m + _, by rw [HM.out, World.drewN_drewN]⟩
          · have HN := HNX (by rw [hkk, of_decide_eq_true hbb])
            simp only [hbb] at HEL
            go_wp2_with fail
            go_quiet ((go_at_call 24; exact Calls.quiet_of (HEL _ (by repeat (first | exact Only.refl _ _ | refine Only.drewN ?_ _))).out))
            go_wp2_with fail
            exact ⟨(HN _).out, by simp [intOf]; omega⟩
      · obtain rfl : i = n1 := by omega
        have HALL := Lib.hid (take_all (by rw [HN1.out, HN2.out]) (fun j hj => heq j (by rw [← HN1.out]; exact hj)))
        go_wp2_with fail
        go_ret
        exact ⟨by rw [decide_eq_true HALL.out]; rfl, m, HM.out⟩
  · have hq : ((xs.length : Int) == (ys.length : Int)) = false := beq_eq_false_iff_ne.2 (by omega)
    have hd : decide (xs = ys) = false := decide_eq_false fun e => hne (by rw [e])
    rw [hd]
    clear h1 h2
    generalize xs.length = n1 at *
    generalize ys.length = n2 at *
    go_enter Try.func28, Try.ntmps28
    go_wp2_with fail
    go_ret
    exact ⟨rfl, 0, rfl⟩

end Go.Proofs.Ytnonnencdhogiaa

/-
  Layer 14's law: versions compared.
-/
namespace Go.Proofs.Ytnonnencdhogiaa
open Go.RowKit

instance : DecidableEq Ver := fun a b =>
  if h : a.st = b.st ∧ a.bs = b.bs ∧ a.dead = b.dead then .isTrue (by obtain ⟨s, c, d⟩ := a; obtain ⟨s', c', d'⟩ := b; obtain ⟨rfl, rfl, rfl⟩ := h; rfl) else .isFalse fun e => h (by subst e; exact ⟨rfl, rfl, rfl⟩)

set_option maxRecDepth 100000 in
set_option maxHeartbeats 4000000 in
theorem versions_alike (w : World) (v1 v2 : Value) (xs ys : List KV) (h1 : ListAt 4 VerE w v1 xs) (h2 : ListAt 4 VerE w v2 ys) (hl : xs.length ≤ 4611686018427387904) (hb : ∀ x ∈ xs, x.2.bs.length ≤ 4611686018427387904) :
    Calls Try.prog 30 #[v1, v2] w (Told (.bool (decide (xs = ys))) w) := by
  obtain ⟨A1, c1, rfl, h1⟩ := h1
  obtain ⟨A2, c2, rfl, h2⟩ := h2
  by_cases hne : xs.length = ys.length
  · obtain ⟨n1, hn⟩ : ∃ n1, xs.length = n1 := ⟨_, rfl⟩
    have H1 := Lib.hid h1
    have H2 := Lib.hid h2
    have HN1 := Lib.hid hn
    have HN2 := Lib.hid (show ys.length = n1 by omega)
    rw [hn, show ys.length = n1 by omega]
    rw [hn] at hl
    clear h1 h2 hne hn
    have hq : ((n1 : Int) == (n1 : Int)) = true := by simp
    go_enter Try.func30, Try.ntmps30
    go_wp2_with fail
    go_loopw [13] (fun v wr => ∃ i m : Nat, v = .int .i64 i ∧ i ≤ n1 ∧ wr = w.drewN m ∧ ∀ j, j < i → xs[j]? = ys[j]?) (fun v _ => n1 - (intOf v).toNat)
    case atStart => exact ⟨0, 0, rfl, by omega, rfl, fun j hj => by omega⟩
    case round =>
      obtain ⟨i, m, rfl, hi, hm, heq⟩ := hrel
      have HM := Lib.hid hm
      have HO := Lib.hid (show Only NoneOf w wr by rw [hm]; exact (Only.refl _ _).drewN _)
      clear hm
      by_cases hlt : i < n1
      · have hx : xs[i]? = some (xs[i]'(by rw [HN1.out]; exact hlt)) := List.getElem?_eq_getElem _
        have hy : ys[i]? = some (ys[i]'(by rw [HN2.out]; exact hlt)) := List.getElem?_eq_getElem _
        generalize xs[i]'(by rw [HN1.out]; exact hlt) = x at hx
        generalize ys[i]'(by rw [HN2.out]; exact hlt) = y at hy
        obtain ⟨g1, o1, cs1, rfl, hg1, k1, _, B1, d1, rfl, hb1⟩ := H1.out i x hx
        obtain ⟨g2, o2, cs2, rfl, hg2, k2, _, B2, d2, rfl, hb2⟩ := H2.out i y hy
        have p0 := (HO.out.cell (p := ⟨g1, o1 + i * 4 + 0, none⟩) hg1 (fun h => h)).trans (k1 0 _ rfl)
        have p1 := (HO.out.cell (p := ⟨g1, o1 + i * 4 + 1, none⟩) hg1 (fun h => h)).trans (k1 1 _ rfl)
        have p2 := (HO.out.cell (p := ⟨g1, o1 + i * 4 + 2, none⟩) hg1 (fun h => h)).trans (k1 2 _ rfl)
        have p3 := (HO.out.cell (p := ⟨g1, o1 + i * 4 + 3, none⟩) hg1 (fun h => h)).trans (k1 3 _ rfl)
        have q0 := (HO.out.cell (p := ⟨g2, o2 + i * 4 + 0, none⟩) hg2 (fun h => h)).trans (k2 0 _ rfl)
        have q1 := (HO.out.cell (p := ⟨g2, o2 + i * 4 + 1, none⟩) hg2 (fun h => h)).trans (k2 1 _ rfl)
        have q2 := (HO.out.cell (p := ⟨g2, o2 + i * 4 + 2, none⟩) hg2 (fun h => h)).trans (k2 2 _ rfl)
        have q3 := (HO.out.cell (p := ⟨g2, o2 + i * 4 + 3, none⟩) hg2 (fun h => h)).trans (k2 3 _ rfl)
        rw [Nat.add_zero] at p0 q0
        have HEQ := Lib.hid heq
        have HEL := fun u (hu : Only NoneOf wr u) => Lib.hid (equal_is u B1 B2 x.2.bs.length y.2.bs.length d1 d2 x.2.bs y.2.bs rfl rfl ((hb1.keep HO.out).keep hu) ((hb2.keep HO.out).keep hu) (hb x (List.mem_of_getElem? hx)))
        have HNX := fun (hxy : x = y) m' => Lib.hid (show ∃ i' m'' : Nat, Value.int .i64 ((i : Int) + 1) = .int .i64 i' ∧ i' ≤ n1 ∧ wr.drewN m' = w.drewN m'' ∧ ∀ j, j < i' → xs[j]? = ys[j]? from
          ⟨i + 1, m + m', by rw [show ((i + 1 : Nat) : Int) = (i : Int) + 1 by omega], by omega, by rw [HM.out, World.drewN_drewN], fun j hj => by
            rcases Nat.lt_or_ge j i with h | h
            · exact heq j h
            · obtain rfl : j = i := by omega
              rw [hx, hy, hxy]⟩)
        obtain ⟨xk, xst, xb, xd⟩ := x
        obtain ⟨yk, yst, yb, yd⟩ := y
        have HNE := fun (hxy : ((xk, ⟨xst, xb, xd⟩) : KV) ≠ (yk, ⟨yst, yb, yd⟩)) => Lib.hid (show decide (xs = ys) = false from decide_eq_false (take_ne hx hy hxy))
        simp only at p0 p1 p2 p3 q0 q1 q2 q3 HEL
        clear heq k1 k2 hb1 hb2
        cases hk : (xk.toList == yk.toList)
        · have HD := HNE (fun e => by injection e with e1 e2; rw [e1] at hk; simp at hk)
          go_wp2_with fail
          go_quiet (fail)
          go_wp2_with fail
          go_ret
          rw [HD.out]
          exact ⟨rfl, m + _, by rw [HM.out, World.drewN_drewN]⟩
        · have hkk : xk = yk := by rw [bytes_beq] at hk; exact of_decide_eq_true hk
          cases hs : (xst != yst)
          · have hss : xst = yst := bne_eq_false_iff_eq.1 hs
            cases hdd : (xd != yd)
            · have hde : xd = yd := bne_eq_false_iff_eq.1 hdd
              cases hbb : decide (xb = yb)
              · have HD := HNE (fun e => by injection e with e1 e2; injection e2 with e3 e4 e5; rw [e4] at hbb; simp at hbb)
                simp only [hbb] at HEL
                go_wp2_with fail
                go_quiet ((go_at_call 24; exact Calls.quiet_of (HEL _ (by repeat (first | exact Only.refl _ _ | refine Only.drewN ?_ _))).out))
                go_wp2_with fail
                go_ret
                rw [HD.out]
                exact ⟨rfl, m + _, by rw [HM.out, World.drewN_drewN]⟩
              · have HN := HNX (by rw [hkk, hss, hde, of_decide_eq_true hbb])
                simp only [hbb] at HEL
                go_wp2_with fail
                go_quiet ((go_at_call 24; exact Calls.quiet_of (HEL _ (by repeat (first | exact Only.refl _ _ | refine Only.drewN ?_ _))).out))
                go_wp2_with fail
                exact ⟨(HN _).out, by simp [intOf]; omega⟩
            · have HD := HNE (fun e => by injection e with e1 e2; injection e2 with e3 e4 e5; rw [e5] at hdd; simp at hdd)
              cases xd <;> cases yd
              case false.false => simp at hdd
              case true.true => simp at hdd
              all_goals
                go_wp2_with fail
                go_quiet (fail)
                go_wp2_with fail
                go_ret
                rw [HD.out]
                exact ⟨rfl, m + _, by rw [HM.out, World.drewN_drewN]⟩
          · have HD := HNE (fun e => by injection e with e1 e2; injection e2 with e3 e4 e5; rw [e3] at hs; simp at hs)
            go_wp2_with fail
            go_quiet (fail)
            go_wp2_with fail
            go_ret
            rw [HD.out]
            exact ⟨rfl, m + _, by rw [HM.out, World.drewN_drewN]⟩
      · obtain rfl : i = n1 := by omega
        have HALL := Lib.hid (take_all (by rw [HN1.out, HN2.out]) (fun j hj => heq j (by rw [← HN1.out]; exact hj)))
        go_wp2_with fail
        go_ret
        exact ⟨by rw [decide_eq_true HALL.out]; rfl, m, HM.out⟩
  · have hq : ((xs.length : Int) == (ys.length : Int)) = false := beq_eq_false_iff_ne.2 (by omega)
    have hd : decide (xs = ys) = false := decide_eq_false fun e => hne (by rw [e])
    rw [hd]
    clear h1 h2
    generalize xs.length = n1 at *
    generalize ys.length = n2 at *
    go_enter Try.func30, Try.ntmps30
    go_wp2_with fail
    go_ret
    exact ⟨rfl, 0, rfl⟩

end Go.Proofs.Ytnonnencdhogiaa

/-
  Layer 14's law: what a call tells; alike.
-/
namespace Go.Proofs.Ytnonnencdhogiaa
open Go.RowKit

/-- what a call tells -/
structure An where
  e : Int := 0
  n : Int := 0
  m : Int := 0
  is : Bool := false
  b : List UInt8 := []
  pairs : List (ByteArray × List UInt8) := []
  l : List KV := []
/-- its sizes are a machine's -/
structure An.Fit (x : An) : Prop where
  b : x.b.length ≤ 4611686018427387904
  pairs : x.pairs.length ≤ 4611686018427387904
  pair : ∀ p ∈ x.pairs, p.2.length ≤ 4611686018427387904
  l : x.l.length ≤ 4611686018427387904
  ver : ∀ p ∈ x.l, p.2.bs.length ≤ 4611686018427387904

def BytesV (w : World) (v : Value) (bs : List UInt8) : Prop := ∃ A c, v = .slice A bs.length c ∧ BytesAt w A bs
theorem BytesV.keep {w w' : World} {v : Value} {bs : List UInt8} (h : BytesV w v bs) (ho : Only NoneOf w w') : BytesV w' v bs := by
  obtain ⟨A, c, hv, hb⟩ := h
  exact ⟨A, c, hv, hb.keep ho⟩
theorem RowB.bytesV {w : World} {B : Nat} {v : Value} {l : List UInt8} (h : RowB w B v l) : BytesV w v l := by
  obtain ⟨A, c, hv, hb⟩ := h.at
  exact ⟨A, c, hv, hb⟩
theorem bytesV_nil (w : World) : BytesV w (.slice none 0 0) [] := ⟨none, 0, rfl, fun i c h => by simp at h⟩
theorem listAt_nil {α : Type} (sz : Nat) (E : World → α → List Value → Prop) (w : World) : ListAt sz E w (.slice none 0 0) [] := ⟨none, 0, rfl, fun i c h => by simp at h⟩

abbrev tellC (e n m : Int) (is : Bool) (vb vp vl : Value) : Array Value := #[.int .i64 e, .int .i64 n, .int .i64 m, .bool is, vb, vp, vl]
/-- a told thing in memory -/
def TAt (w : World) (cs : Array Value) (x : An) : Prop :=
  ∃ vb vp vl, cs = tellC x.e x.n x.m x.is vb vp vl ∧ BytesV w vb x.b ∧ ListAt 2 PairE w vp x.pairs ∧ ListAt 4 VerE w vl x.l
theorem TAt.keep {w w' : World} {cs : Array Value} {x : An} (h : TAt w cs x) (ho : Only NoneOf w w') : TAt w' cs x := by
  obtain ⟨vb, vp, vl, h1, h2, h3, h4⟩ := h
  exact ⟨vb, vp, vl, h1, h2.keep ho, h3.keep (fun x cs => PairE.keep ho x cs) ho, h4.keep (fun x cs => VerE.keep ho x cs) ho⟩

theorem drewN_only {w w' : World} (h : ∃ m, w' = w.drewN m) : Only NoneOf w w' := by
  obtain ⟨m, rfl⟩ := h
  exact (Only.refl _ _).drewN m

set_option maxRecDepth 100000 in
set_option maxHeartbeats 4000000 in
theorem alike_same (w : World) (cs ds : Array Value) (x : An) (hf : x.Fit) (h1 : TAt w cs x) (h2 : TAt w ds x) : Calls Try.prog 16 #[.agg cs, .agg ds] w fun e w' => e = .returned (.bool true) ∧ Only NoneOf w w' := by
  obtain ⟨vb, vp, vl, rfl, ⟨A, c, rfl, hb⟩, hp, hl⟩ := h1
  obtain ⟨vb', vp', vl', rfl, ⟨A', c', rfl, hb'⟩, hp', hl'⟩ := h2
  have hB := Blk.new w 33 (tellC x.e x.n x.m x.is (.slice A x.b.length c) vp vl)
  have hB1 := hB.alloc (.cells (tellC x.e x.n x.m x.is (.slice A' x.b.length c') vp' vl') 33)
  have hB2 := Blk.new' (w.alloc (.cells (tellC x.e x.n x.m x.is (.slice A x.b.length c) vp vl) 33)) 33 (tellC x.e x.n x.m x.is (.slice A' x.b.length c') vp' vl') (n := w.heap.size + 1) (by simp)
  have hO : Only NoneOf w ((w.alloc (.cells (tellC x.e x.n x.m x.is (.slice A x.b.length c) vp vl) 33)).alloc (.cells (tellC x.e x.n x.m x.is (.slice A' x.b.length c') vp' vl') 33)) := ((Only.refl _ _).alloc _).alloc _
  have HO := Lib.hid hO
  have HE := fun u (hu : Only NoneOf w u) => Lib.hid (equal_is u A A' x.b.length x.b.length c c' x.b x.b rfl rfl (hb.keep hu) (hb'.keep hu) hf.b)
  have HP := fun u (hu : Only NoneOf w u) => Lib.hid (pairs_alike u vp vp' x.pairs x.pairs (hp.keep (fun x cs => PairE.keep hu x cs) hu) (hp'.keep (fun x cs => PairE.keep hu x cs) hu) hf.pairs hf.pair)
  have HL := fun u (hu : Only NoneOf w u) => Lib.hid (versions_alike u vl vl' x.l x.l (hl.keep (fun x cs => VerE.keep hu x cs) hu) (hl'.keep (fun x cs => VerE.keep hu x cs) hu) hf.l hf.ver)
  simp only [decide_true] at HE HP HL
  have HB1 := Lib.hid hB1
  have HB2 := Lib.hid hB2
  have a0 := hB1.cellv 0 rfl
  have a1 := hB1.cellv 1 rfl
  have a2 := hB1.cellv 2 rfl
  have a3 := hB1.cellv 3 rfl
  have a4 := hB1.cellv 4 rfl
  have b0 := hB2.cellv 0 rfl
  have b1 := hB2.cellv 1 rfl
  have b2 := hB2.cellv 2 rfl
  have b3 := hB2.cellv 3 rfl
  have b4 := hB2.cellv 4 rfl
  clear hB hB1 hB2 hO hb hb' hp hp' hl hl'
  obtain ⟨xe, xn, xm, xi, xb, xp, xl⟩ := x
  simp only at *
  have q1 : (xe == xe) = true := by simp
  have q2 : (xn == xn) = true := by simp
  have q3 : (xm == xm) = true := by simp
  cases xi
  all_goals
    go_enter Try.func16, Try.ntmps16
    go_wp2_with fail
    refine (HE _ HO.out).out.mono ?_; rintro e w1 ⟨rfl, hw1⟩
    have HO1 := Lib.hid (drewN_only hw1)
    have HX1 := Lib.hid (HO.out.trans HO1.out)
    have c5 := (HB1.out.only HO1.out (fun h => h)).cellv 5 rfl
    have d5 := (HB2.out.only HO1.out (fun h => h)).cellv 5 rfl
    clear a0 a1 a2 a3 a4 b0 b1 b2 b3 b4 hw1
    go_wp2_with fail
    refine (HP _ HX1.out).out.mono ?_; rintro e w2 ⟨rfl, hw2⟩
    have HO2 := Lib.hid (HO1.out.trans (drewN_only hw2))
    have HX2 := Lib.hid (HX1.out.trans (drewN_only hw2))
    have c6 := (HB1.out.only HO2.out (fun h => h)).cellv 6 rfl
    have d6 := (HB2.out.only HO2.out (fun h => h)).cellv 6 rfl
    clear c5 d5 hw2
    go_wp2_with fail
    refine (HL _ HX2.out).out.mono ?_; rintro e w3 ⟨rfl, hw3⟩
    have HX3 := Lib.hid (HX2.out.trans (drewN_only hw3))
    clear c6 d6 hw3
    go_wp2_with fail
    go_ret
    exact ⟨rfl, HX3.out⟩

end Go.Proofs.Ytnonnencdhogiaa

/-
  Layer 14's law: Scanned.
-/
namespace Go.Proofs.Ytnonnencdhogiaa
open Go.RowKit Go.Shelf
attribute [local go_sem] Oper.semAt_some

def PairsPost (L : List (ByteArray × List UInt8)) (w : World) (e : Ending) (w' : World) : Prop := ∃ v rs, e = .returned v ∧ PRows w' w.heap.size v rs ∧ rs.map PRow.plain = L ∧ Only NoneOf w w'

theorem func_nil62 (u : World) (f : Nat) (c : Array Value) : (binOp .eql 62 (.func (.func f) #[] c) .nilFunc).run Try.prog u = .ok (.bool false) u := by kernel_rfl

set_option maxRecDepth 100000 in
set_option maxHeartbeats 4000000 in
theorem scanned_any (w : World) (p : Option Addr) (fr tt : ByteArray) (st : Int) (xs : List (ByteArray × List UInt8)) (hfew : xs.length * 40 ≤ 140737488355328)
    (hit : ∀ W b, Only NoneOf w W → W.cell? ⟨b, 0, none⟩ = some (.pointer p) → W.cell? ⟨b + 1, 0, none⟩ = some (.string fr) → W.cell? ⟨b + 2, 0, none⟩ = some (.string tt) → W.cell? ⟨b + 3, 0, none⟩ = some (.int .i64 st) → IterM Try.prog 56 (scanFn b) PairEnc xs NoneOf W) :
    Calls Try.prog 22 #[.pointer p, .string fr, .string tt, .int .i64 st] w (PairsPost xs w) := by
  have HIT := Lib.hid hit
  have hfn := func_nil62
  have HSC := fun u => Lib.hid (scan_is u p fr tt st)
  clear hit
  refine callsIn_wide (n := 1).1 (callsIn_of_wp_marks Try.func22 rfl trivial ?_ rfl)
  simp only [Try.ntmps22, List.size_toArray, List.length_cons, List.length_nil, Nat.reduceAdd, Nat.reduceSub, Array.replicate_succ, Array.replicate_zero, List.push_toArray, List.append_toArray, List.nil_append, List.cons_append]
  gi_wp2_with fail
  refine ⟨trivial, (callsIn_wide.2 (HSC _).out).mono ?_⟩
  rintro e w2 ⟨rfl, rfl⟩
  gi_wp2_with fail
  have hb := Blk.new w 30 #[.slice none 0 0]
  have hO1 : Only NoneOf w (w.alloc (.cells #[.slice none 0 0] 30)) := (Only.refl _ _).alloc _
  have hW2 : Only NoneOf w (scanBoxes (w.alloc (.cells #[.slice none 0 0] 30)) (.pointer p) fr tt st) := (((hO1.alloc _).alloc _).alloc _).alloc _
  have hob : Blk (scanBoxes (w.alloc (.cells #[.slice none 0 0] 30)) (.pointer p) fr tt st) w.heap.size 30 #[.slice none 0 0] := (((hb.alloc _).alloc _).alloc _).alloc _
  have hz2 : (scanBoxes (w.alloc (.cells #[.slice none 0 0] 30)) (.pointer p) fr tt st).heap.size = w.heap.size + 5 := by simp [scanBoxes]
  have k0 : (scanBoxes (w.alloc (.cells #[.slice none 0 0] 30)) (.pointer p) fr tt st).cell? ⟨w.heap.size + 1, 0, none⟩ = some (.pointer p) := ((((Blk.new' (w.alloc (.cells #[.slice none 0 0] 30)) 24 #[.pointer p] (n := w.heap.size + 1) (by simp)).alloc _).alloc _).alloc _).cellv 0 rfl
  have k1 : (scanBoxes (w.alloc (.cells #[.slice none 0 0] 30)) (.pointer p) fr tt st).cell? ⟨w.heap.size + 1 + 1, 0, none⟩ = some (.string fr) := (((Blk.new' ((w.alloc (.cells #[.slice none 0 0] 30)).alloc (.cells #[.pointer p] 24)) 9 #[.string fr] (n := w.heap.size + 1 + 1) (by simp)).alloc _).alloc _).cellv 0 rfl
  have k2 : (scanBoxes (w.alloc (.cells #[.slice none 0 0] 30)) (.pointer p) fr tt st).cell? ⟨w.heap.size + 1 + 2, 0, none⟩ = some (.string tt) := ((Blk.new' (((w.alloc (.cells #[.slice none 0 0] 30)).alloc (.cells #[.pointer p] 24)).alloc (.cells #[.string fr] 9)) 9 #[.string tt] (n := w.heap.size + 1 + 2) (by simp)).alloc _).cellv 0 rfl
  have k3 : (scanBoxes (w.alloc (.cells #[.slice none 0 0] 30)) (.pointer p) fr tt st).cell? ⟨w.heap.size + 1 + 3, 0, none⟩ = some (.int .i64 st) := (Blk.new' ((((w.alloc (.cells #[.slice none 0 0] 30)).alloc (.cells #[.pointer p] 24)).alloc (.cells #[.string fr] 9)).alloc (.cells #[.string tt] 9)) 3 #[.int .i64 st] (n := w.heap.size + 1 + 3) (by simp)).cellv 0 rfl
  obtain ⟨i0, hi, hz0, hz1, hz3⟩ := info_parts info48
  generalize hw2 : scanBoxes (w.alloc (.cells #[.slice none 0 0] 30)) (.pointer p) fr tt st = w2 at *
  clear hw2 hb hO1
  refine range_ownM (α := ByteArray × List UInt8) (xs := xs) (Enc := PairEnc) (Kp := NoneOf) (Nat.le_refl 1) rfl (fun _ _ => by kernel_rfl)
    (fun Wn hn _ => HIT.out Wn (w.heap.size + 1) (hW2.trans hn) ((hn.cell (p := ⟨w.heap.size + 1, 0, none⟩) (by show w.heap.size + 1 < _; omega) (fun h => h)).trans k0) ((hn.cell (p := ⟨w.heap.size + 1 + 1, 0, none⟩) (by show w.heap.size + 1 + 1 < _; omega) (fun h => h)).trans k1) ((hn.cell (p := ⟨w.heap.size + 1 + 2, 0, none⟩) (by show w.heap.size + 1 + 2 < _; omega) (fun h => h)).trans k2) ((hn.cell (p := ⟨w.heap.size + 1 + 3, 0, none⟩) (by show w.heap.size + 1 + 3 < _; omega) (fun h => h)).trans k3))
    (fun n x args A h => by obtain ⟨v, rfl, _⟩ := h; rfl) (fun {k} _ hh => hh)
    (fun E pre B => w2.heap.size + 2 ≤ E ∧ Only NoneOf w B ∧ ∃ v rs, Blk B w.heap.size 30 #[v] ∧ PRows B (w.heap.size + 1) v rs ∧ rs.map PRow.plain = pre ∧ ∀ k, PBlocks v rs k → E ≤ k)
    (fun cd E pre B => False)
    (fun E pre A B hs ho => by
      obtain ⟨h1, h3, v, rs, h5, h6, h7, h8⟩ := hs
      exact ⟨h1, h3.step ho (fun k hk hh => by have := hh.1; omega), v, rs, h5.only ho (fun hh => by have := hh.1; omega), h6.only ho (fun k hk hh => by have := h8 k hk; have := hh.2; omega), h7, h8⟩)
    (fun cd E pre A B hs ho => hs)
    (fun E B hE hB ho => ⟨hE, hW2.trans ho, _, [], hob.only ho (fun h => h), BRows.nil _ _, rfl, fun k hk => by
      rcases hk with hk | ⟨r, hr, _⟩
      · simp [Value.ownBlock] at hk
      · cases hr⟩)
    (fun n x a' B => w2.heap.size + 2 ≤ n ∧ ∃ b v, n ≤ b ∧ Blk B b 48 #[.string x.1, v] ∧ RowB B n v x.2 ∧ v.ownBlock ≠ some b ∧ a' = { tmps := #[.pointer p, .string fr, .string tt, .int .i64 st, undef, undef, undef, undef, .slice none 0 0, .pointer (some ⟨w.heap.size, 0, none⟩), .func (.func 56) #[] (scanFn (w.heap.size + 1)), .pointer (some ⟨b, 0, none⟩), .pointer p, .string fr, .string tt, .int .i64 st, .func (.func 56) #[] (scanFn (w.heap.size + 1)), .func (.func 56) #[] (scanFn (w.heap.size + 1)), .bool false, undef, undef, undef, .func (.func 56) #[] (scanFn (w.heap.size + 1)), .agg #[.string x.1, v], undef, undef, undef, undef, undef], defers := [] })
    (fun n x a' A B hs ho => by
      obtain ⟨hn, b, v, h1, h2, h3, h4, h5⟩ := hs
      exact ⟨hn, b, v, h1, h2.only ho (by omega), h3.only ho (fun g hg e => by have := (ownsRow_lt h3 hg).1; omega), h4, h5⟩)
    ?assign ?body ?done ?stop
  case assign =>
    rintro ⟨key, bs⟩ args A0 Wa K hx hsz hA0 ⟨v, rfl, hv⟩ hK
    obtain ⟨Av, cv, rfl⟩ := ownsRow_slice hv
    simp only at hv ⊢
    gi_wp2
    exact hK _ _ ((Only.refl _ _).alloc _) ⟨hsz, Wa.heap.size, _, hA0.size, Blk.new _ _ _, hv.keep ((Only.refl _ _).alloc _), fun e => by have := (ownsRow_lt hv e).2; omega, rfl⟩
  case body =>
    rintro E pre ⟨key, bs⟩ a' A0 Wb hloop hE hEA hpre ⟨_, hO0, v, rs, hV0, hR0, hpl, hg⟩ hoAW ⟨hn, b, vv, hb, hB, hvv, hne, rfl⟩
    have hV := hV0.only hoAW (fun hh => by have := hh.1; omega)
    have hR := hR0.only hoAW (fun k hk hh => by have := hg k hk; have := hh.2; omega)
    have hO := hO0.step hoAW (fun k hk hh => by have := hh.1; omega)
    have hlt : ∀ k, PBlocks v rs k → k < A0.heap.size := fun k hk => (hR0.lt hk).2
    have hsz := hoAW.size
    have hpl1 : rs.length + 1 ≤ xs.length := by
      have h1 := hpre.length_le
      have h2 := congrArg List.length hpl
      simp only [List.length_append, List.length_cons, List.length_nil, List.length_map] at h1 h2
      omega
    obtain ⟨Av, cv, rfl⟩ := ownsRow_slice hvv
    obtain ⟨A, cq, rfl⟩ := ownsRow_slice hR.own
    simp only at hB hvv
    have V0 := hV.cellv 0 rfl
    have V1 := hV.free 0
    have hVlt := hV.lt
    have b0 : Wb.cell? ⟨b, 0, none⟩ = some (.string key) := hB.cellv 0 rfl
    have b1 : Wb.cell? ⟨b, 1, none⟩ = some (.slice Av bs.length cv) := hB.cellv 1 rfl
    have hbw := World.block_lt_of_cell? _ _ b0
    have HN := Lib.hid (Blk.new Wb 48 #[.string key, .slice Av bs.length cv])
    have HRA := Lib.hid (hR.keep ((Only.refl _ Wb).alloc (.cells #[.string key, .slice Av bs.length cv] 48)))
    have HVA := Lib.hid (hV.alloc (.cells #[.string key, .slice Av bs.length cv] 48))
    have HVV := Lib.hid (hvv.keep ((Only.refl _ Wb).alloc (.cells #[.string key, .slice Av bs.length cv] 48)))
    have hnv : (Value.slice A rs.length cq).ownBlock ≠ some w.heap.size := fun e => by have := (ownsRow_lt hR.own e).1; omega
    have HZ2 := Lib.hid hz2
    have hz3' : w.heap.size + 5 ≤ w2.heap.size := by omega
    clear hz2
    gi_wp2_with (gi_at_builtin; refine wpListIn_append_own_at _ rfl (.tmp 24) (.tmp 26) 30 rfl (w.heap.size + 1) 48 i0 _ 2 40 Try.underlying30 hi hz0 hz1 hz3 rfl (by decide) (.slice A rs.length cq) rs.length (rs.flatMap PRow.cells) rfl HRA.out.own ⟨Wb.heap.size, 0, none⟩ 1 1 [.string key, .slice Av bs.length cv] rfl rfl (World.news_of_block HN.out) (by simp [Value.oneCell']) (by unfold maxLen; omega) (by omega) (by simp; omega) ?_; intro v' w3 hown' hgr _ hat; obtain ⟨g', cap', rfl⟩ := ownsRow_succ hown'; have hV3 := HVA.out.only (only_grown hgr) hnv; have x0 := hV3.cellv 0 rfl; have x1 := hV3.free 0)
    have hz2 := HZ2.out
    have hsn := BRows.snoc (r := (⟨key, .slice Av bs.length cv, bs⟩ : PRow)) HRA.out (only_grown hgr) hown' hat (HVV.out.base (by omega)) (fun g hg' hb' => by have := (ownsRow_lt HVV.out hg').1; have := hlt g hb'; omega)
    have hvb := fun k hk => bblocks_snoc (val := PRow.val) (v := .slice A rs.length cq) (v' := .slice (some ⟨g', 0, none⟩) (rs.length + 1) cap') (rs := rs) (r := (⟨key, .slice Av bs.length cv, bs⟩ : PRow)) (k := k) hat hk
    have hE' : ∀ k, PBlocks (.slice (some ⟨g', 0, none⟩) (rs.length + 1) cap') (rs ++ [⟨key, .slice Av bs.length cv, bs⟩]) k → E ≤ k := fun k hk => by
      rcases hvb k hk with h | h | h
      · exact hg k h
      · have := (ownsRow_lt HVV.out h).1; omega
      · simp at h; omega
    have hput : Only (· = w.heap.size) w3 (w3.setCell ⟨w.heap.size, 0, none⟩ (.slice (some ⟨g', 0, none⟩) (rs.length + 1) cap')) := (Only.refl (· = w.heap.size) w3).put (.inl rfl) _
    have hgr' : Only (fun k => (Value.slice A rs.length cq).ownBlock = some k) Wb w3 := Only.step ((Only.refl _ Wb).alloc _) (only_grown hgr) (fun _ _ h => h)
    have fin1 : Only (Theirs w2.heap.size E NoneOf) Wb (w3.setCell ⟨w.heap.size, 0, none⟩ (.slice (some ⟨g', 0, none⟩) (rs.length + 1) cap')) := Only.put (hgr'.mono (fun k _ e => .inr (hg k (.inl e)))) (.inl (.inl ⟨by simp; omega, fun h => h⟩)) _
    have fin2 : Only NoneOf w (w3.setCell ⟨w.heap.size, 0, none⟩ (.slice (some ⟨g', 0, none⟩) (rs.length + 1) cap')) := (hO.step hgr' (fun k hk e => by have := hg k (.inl e); omega)).step hput (fun k hk e => by omega)
    exact ⟨fin1, by omega, fin2, _, hV3.put 0 _, _, hsn.only hput (fun k hk e => by have := (hsn.lt hk).1; omega), by rw [List.map_append, hpl]; rfl, hE'⟩
  case done =>
    rintro E Wd hE ⟨_, hO, v, rs, hV, hR, hpl, hg⟩ hD
    have V0 := hV.cellv 0 rfl
    gi_wp2
    refine ⟨by simp, .inl ⟨_, _, rfl, run_takeDeferred hD, ?_⟩⟩
    have hP : Only (· = w2.heap.size) Wd (Wd.putObj w2.heap.size (.deferred none)) := Only.putObj (S := (· = w2.heap.size)) (Only.refl _ _) (.inl rfl) _
    exact ⟨_, results_tmp rfl _ _ _, v, rs, rfl, (hR.only hP (fun k hk e => by have := hg k hk; omega)).base (by omega), hpl, hO.step hP (fun k hk e => by omega)⟩
  case stop =>
    rintro E cd pre Wd hE hpre h
    exact h.elim

theorem scannedR (w : World) (s N : Nat) (T U : Nat → Prop) (R : List KV) (h : StoR w s T U R N) (hN : N ≤ NMAX) (fr tt : ByteArray) (st : Int) :
    Calls Try.prog 22 #[.pointer (some ⟨s, 0, none⟩), .string fr, .string tt, .int .i64 st] w (PairsPost (scanR R fr tt st) w) := by
  refine scanned_any w _ fr tt st _ ?_ (fun W b ho h0 h1 h2 h3 => scanIter W b s N T U R fr tt st (h.keep ho) hN h0 h1 h2 h3)
  obtain ⟨m, n, D, C, h1, h2, h3, h4, h5⟩ := h
  have h6 := keysR_length R
  have h7 : (scanR R fr tt st).length ≤ (keysR R).length := List.length_filterMap_le _ _
  unfold NMAX at hN
  omega

end Go.Proofs.Ytnonnencdhogiaa

/-
  Layer 14's law: call: what a store tells.
-/
namespace Go.Proofs.Ytnonnencdhogiaa
open Go.RowKit

/-- a call -/
structure Stp where
  kind : Int
  key : ByteArray
  st : Int
  bs : List UInt8
  dead : Bool
  tt : ByteArray
abbrev stepC (k : Int) (key : ByteArray) (st : Int) (v : Value) (dead : Bool) (tt : ByteArray) : Array Value := #[.int .i64 k, .string key, .int .i64 st, v, .bool dead, .string tt]

/-- what it tells -/
def ansR (R : List KV) (x : Stp) : An :=
  if x.kind = 0 then { e := codeR R x.key ⟨x.st, x.bs, x.dead⟩ }
  else if x.kind = 1 then (match found (verR R x.key) x.st with | none => {} | some b => { b := b, is := true })
  else if x.kind = 2 then (match (verR R x.key).getLast? with | none => {} | some y => { n := y.st, is := true })
  else if x.kind = 3 then { pairs := scanR R x.key x.tt x.st }
  else if x.kind = 4 then { n := (R.length - (vacR R x.st).length : Nat) }
  else if x.kind = 5 then { n := liveR R }
  else if x.kind = 6 then { n := (keysR R).length, m := R.length }
  else if x.kind = 7 then { l := versR R }
  else {}
/-- what came, behind it -/
def stepR (R : List KV) (x : Stp) : List KV :=
  if x.kind = 0 then afterR R x.key ⟨x.st, x.bs, x.dead⟩ else if x.kind = 4 then vacR R x.st else R

/-- a told thing that stays, whatever turns below lo -/
def TStay (lo : Nat) (w : World) (cs : Array Value) (x : An) : Prop := ∀ (S : Nat → Prop) (w' : World), Only S w w' → (∀ k, S k → k < lo) → TAt w' cs x
theorem TStay.at {lo : Nat} {w : World} {cs : Array Value} {x : An} (h : TStay lo w cs x) : TAt w cs x := h NoneOf w (Only.refl _ _) (fun _ h => h.elim)
theorem tstay_plain (lo : Nat) (w : World) (e n m : Int) (is : Bool) : TStay lo w (tellC e n m is (.slice none 0 0) (.slice none 0 0) (.slice none 0 0)) { e := e, n := n, m := m, is := is } :=
  fun _ w' _ _ => ⟨_, _, _, rfl, bytesV_nil w', listAt_nil _ _ w', listAt_nil _ _ w'⟩
theorem listAt_pairs {w : World} {base : Nat} {v : Value} {rs : List PRow} (h : PRows w base v rs) : ListAt 2 PairE w v (rs.map PRow.plain) := by
  obtain ⟨A, c, rfl⟩ := ownsRow_slice h.own
  refine ⟨A, c, by simp, fun i x hx => ?_⟩
  rw [List.getElem?_map] at hx
  obtain ⟨r, hr, rfl⟩ := Option.map_eq_some_iff.1 hx
  obtain ⟨g, rfl⟩ : ∃ g, A = some ⟨g, 0, none⟩ := by
    rcases h.own.2 with ⟨h0, h1⟩ | ⟨g, cap, cur, hv, _⟩
    · rw [List.eq_nil_of_length_eq_zero h1] at hr; cases hr
    · injection hv with hv1; exact ⟨g, hv1⟩
  obtain ⟨A', c', hv', hb⟩ := (h.vals r (List.mem_of_getElem? hr)).at
  refine ⟨g, 0, r.cells, rfl, (ownsRow_lt h.own (g := g) rfl).2, fun j c hj => ?_, rfl, A', c', by simp [PRow.cells, PRow.plain, hv'], hb⟩
  have hj2 : j < 2 := (List.getElem?_eq_some_iff.1 hj).1
  rw [Nat.zero_add, h.cell (fun _ => rfl) hr hj2]
  exact hj
theorem VRows.cell {w : World} {base g n c : Nat} {rs : List VRow} (h : VRows w base (.slice (some ⟨g, 0, none⟩) n c) rs) {i : Nat} {r : VRow} (hr : rs[i]? = some r) {j : Nat} (hj : j < 4) : w.cell? ⟨g, i * 4 + j, none⟩ = r.cells[j]? :=
  BRows.cell (α := VRow) (t := 27) (sz := 4) (cells := VRow.cells) (val := VRow.val) (bs := VRow.bs) ⟨h.own, h.val, h.apart, h.dist⟩ (fun _ => rfl) hr hj
theorem listAt_vers {w : World} {base : Nat} {v : Value} {rs : List VRow} (h : VRows w base v rs) : ListAt 4 VerE w v (rs.map VRow.plain) := by
  obtain ⟨A, c, rfl⟩ := ownsRow_slice h.own
  refine ⟨A, c, by simp, fun i x hx => ?_⟩
  rw [List.getElem?_map] at hx
  obtain ⟨r, hr, rfl⟩ := Option.map_eq_some_iff.1 hx
  obtain ⟨g, rfl⟩ : ∃ g, A = some ⟨g, 0, none⟩ := by
    rcases h.own.2 with ⟨h0, h1⟩ | ⟨g, cap, cur, hv, _⟩
    · rw [List.eq_nil_of_length_eq_zero h1] at hr; cases hr
    · injection hv with hv1; exact ⟨g, hv1⟩
  obtain ⟨A', c', hv', hb⟩ := (h.val r (List.mem_of_getElem? hr)).at
  refine ⟨g, 0, r.cells, rfl, (ownsRow_lt h.own (g := g) rfl).2, fun j c hj => ?_, rfl, A', c', by simp [VRow.cells, VRow.plain, hv'], hb⟩
  have hj2 : j < 4 := (List.getElem?_eq_some_iff.1 hj).1
  rw [Nat.zero_add, h.cell hr hj2]
  exact hj

theorem info33 : (Try.prog.info? 33).map (·.size) = some 7 := by kernel_rfl
theorem one_tell (e n m : Int) (is : Bool) (A1 A2 A3 : Option Addr) (n1 n2 n3 c1 c2 c3 : Nat) : (tellC e n m is (.slice A1 n1 c1) (.slice A2 n2 c2) (.slice A3 n3 c3)).all (·.oneCell') = true := by simp [Value.oneCell']

theorem liveIs2 (w : World) (s N : Nat) (T U : Nat → Prop) (R : List KV) (h : StoR w s T U R N) : Calls Try.prog 34 #[.pointer (some ⟨s, 0, none⟩)] w fun e w' => e = .returned (.int .i64 (liveR R)) ∧ Only NoneOf w w' :=
  (liveIs w s N T U R h).mono fun _ _ ⟨he, hw⟩ => ⟨he, hw ▸ Only.refl _ _⟩

/-- How call ends. -/
def CallPost (s N : Nat) (T U : Nat → Prop) (R : List KV) (x : Stp) (w : World) (e : Ending) (w' : World) : Prop :=
  ∃ cs T', e = .returned (.agg cs) ∧ TStay w.heap.size w' cs (ansR R x) ∧ StoR w' s T' U (stepR R x) (N + 1) ∧ Only T w w' ∧ ∀ k, T' k → T k ∨ w.heap.size ≤ k

theorem StoR.more {w : World} {s N N' : Nat} {T U : Nat → Prop} {R : List KV} (h : StoR w s T U R N) (hN : N ≤ N') : StoR w s T U R N' := by
  obtain ⟨m, n, D, C, h1, h2, h3, h4, h5⟩ := h
  exact ⟨m, n, D, C, h1, h2, h3, by omega, by omega⟩


set_option maxRecDepth 100000 in
set_option maxHeartbeats 4000000 in
theorem call_0 (w : World) (s N : Nat) (T U : Nat → Prop) (R : List KV) (h : StoR w s T U R N) (hN : N < NMAX) (x : Stp) (A : Option Addr) (cc : Nat) (hk : x.kind = 0) (hkey : x.key.size ≤ maxLen) (hby : BytesAt w A x.bs) :
    Calls Try.prog 17 #[.pointer (some ⟨s, 0, none⟩), .agg (stepC x.kind x.key x.st (.slice A x.bs.length cc) x.dead x.tt)] w (CallPost s N T U R x w) := by
  obtain ⟨kind, key, st, bs, dead, tt⟩ := x
  simp only at hk hkey hby ⊢
  subst hk
  obtain ⟨nn, hnn⟩ : ∃ nn, bs.length = nn := ⟨_, rfl⟩
  rw [hnn]
  have hlt := fun k hk => h.lt (k := k) hk
  have hO : Only NoneOf w (((w.alloc (.cells (stepC 0 key st (.slice A nn cc) dead tt) 29)).alloc (.cells (tellC 0 0 0 false (.slice none 0 0) (.slice none 0 0) (.slice none 0 0)) 33)).alloc (.cells (tellC 0 0 0 false (.slice none 0 0) (.slice none 0 0) (.slice none 0 0)) 33)) := (((Only.refl _ _).alloc _).alloc _).alloc _
  have hB3 := ((Blk.new w 29 (stepC 0 key st (.slice A nn cc) dead tt)).alloc (.cells (tellC 0 0 0 false (.slice none 0 0) (.slice none 0 0) (.slice none 0 0)) 33)).alloc (.cells (tellC 0 0 0 false (.slice none 0 0) (.slice none 0 0) (.slice none 0 0)) 33)
  have hB4 := (Blk.new' (w.alloc (.cells (stepC 0 key st (.slice A nn cc) dead tt) 29)) 33 (tellC 0 0 0 false (.slice none 0 0) (.slice none 0 0) (.slice none 0 0)) (n := w.heap.size + 1) (by simp)).alloc (.cells (tellC 0 0 0 false (.slice none 0 0) (.slice none 0 0) (.slice none 0 0)) 33)
  have hB5 := Blk.new' ((w.alloc (.cells (stepC 0 key st (.slice A nn cc) dead tt) 29)).alloc (.cells (tellC 0 0 0 false (.slice none 0 0) (.slice none 0 0) (.slice none 0 0)) 33)) 33 (tellC 0 0 0 false (.slice none 0 0) (.slice none 0 0) (.slice none 0 0)) (n := w.heap.size + 1 + 1) (by simp)
  have HO := Lib.hid hO
  have HS := Lib.hid (h.other (U' := fun k => U k ∨ k = w.heap.size + 1 ∨ k = w.heap.size + 1 + 1) hO (fun _ h => h.elim) (fun k hk => by
    have hsz : (((w.alloc (.cells (stepC 0 key st (.slice A nn cc) dead tt) 29)).alloc (.cells (tellC 0 0 0 false (.slice none 0 0) (.slice none 0 0) (.slice none 0 0)) 33)).alloc (.cells (tellC 0 0 0 false (.slice none 0 0) (.slice none 0 0) (.slice none 0 0)) 33)).heap.size = w.heap.size + 3 := by simp
    rw [hsz]
    rcases hk with hk | hk | hk
    · have := h.ult hk; exact ⟨by omega, .inl hk⟩
    · exact ⟨by omega, .inr (by omega)⟩
    · exact ⟨by omega, .inr (by omega)⟩))
  have HB4 := Lib.hid hB4
  have HB5 := Lib.hid hB5
  have HBY := Lib.hid (hby.keep hO)
  have c0 := hB3.cellv 0 rfl
  have c1 := hB3.cellv 1 rfl
  have c2 := hB3.cellv 2 rfl
  have c3 := hB3.cellv 3 rfl
  have c4 := hB3.cellv 4 rfl
  have c5 := hB3.cellv 5 rfl
  have h0 := h
  clear hO hB3 hB4 hB5 hby h
  go_enter Try.func17, Try.ntmps17
  go_wp2_with fail
  refine (applyR _ s N T _ R HS.out hN key st A nn cc dead bs hnn HBY.out).mono ?_; rintro e w4 ⟨rfl, T', hS4, hO4, hT4⟩
  have HO4 := Lib.hid hO4
  have hsz4 := hO4.size
  have hz4 : w.heap.size + 3 ≤ w4.heap.size := by simpa using hsz4
  have B4 := HB4.out.only hO4 (fun hk => by have := hlt _ hk; omega)
  have B5 := HB5.out.only hO4 (fun hk => by have := hlt _ hk; omega)
  have HS4 := Lib.hid hS4
  have HT4 := Lib.hid hT4
  clear hS4 hT4
  have f0 := B5.free 0
  have k0 := B5.cellv 0 rfl
  have F5 := Lib.hid (B5.put 0 (.int .i64 (codeR R key ⟨st, bs, dead⟩)))
  have F4 := Lib.hid (B4.far (p := ⟨w.heap.size + 1 + 1, 0, none⟩) (by simp) (.int .i64 (codeR R key ⟨st, bs, dead⟩)))
  have FR := Lib.hid (F4.out.row #[.int .i64 (codeR R key ⟨st, bs, dead⟩), .int .i64 0, .int .i64 0, .bool false, .slice none 0 0, .slice none 0 0, .slice none 0 0])
  have FO := Lib.hid (((Only.refl (fun k => k = w.heap.size + 1 ∨ k = w.heap.size + 1 + 1) w4).put (p := ⟨w.heap.size + 1 + 1, 0, none⟩) (.inl (.inr rfl)) (.int .i64 (codeR R key ⟨st, bs, dead⟩))).row (b := w.heap.size + 1) (.inl (.inl rfl)) #[.int .i64 (codeR R key ⟨st, bs, dead⟩), .int .i64 0, .int .i64 0, .bool false, .slice none 0 0, .slice none 0 0, .slice none 0 0])
  clear B4 B5 hO4
  go_wp2_with (first | (refine wpList_load_row rfl 33 (.tmp 5) rfl (w.heap.size + 1 + 1) rfl 33 _ (0, 0) _ F5.out Try.underlying33 rfl info33 ?_) | (refine wpList_store_row rfl 33 (.tmp 4) (.tmp 82) rfl (w.heap.size + 1) #[.int .i64 (codeR R key ⟨st, bs, dead⟩), .int .i64 0, .int .i64 0, .bool false, .slice none 0 0, .slice none 0 0, .slice none 0 0] rfl rfl 33 (tellC 0 0 0 false (.slice none 0 0) (.slice none 0 0) (.slice none 0 0)) F4.out info33 rfl (by simp [Value.oneCell']) ?_) | fail)
  refine bodyPost_ret (v := .agg #[.int .i64 (codeR R key ⟨st, bs, dead⟩), .int .i64 0, .int .i64 0, .bool false, .slice none 0 0, .slice none 0 0, .slice none 0 0]) (results_cell_row rfl _ _ _ 33 _ (0, 0) _ rfl FR.out Try.underlying33 rfl info33) rfl ⟨_, T', rfl, ?_, ?_, ?_, fun k hk => by rcases HT4.out k hk with h | h; exact .inl h; exact .inr (by have := HO.out.size; omega)⟩
  · exact tstay_plain _ _ _ _ _ _
  · have hfin := HS4.out.other (U' := U) FO.out (fun k hk => .inr hk) (fun k hk => ⟨by have := (h0.ult hk); have := FO.out.size; omega, .inl (.inl hk)⟩)
    exact hfin
  · refine ((HO.out.mono (S' := T) (fun _ _ h => h.elim)).step HO4.out (fun k hk h => h)).step FO.out (fun k hk e => by omega)

set_option maxRecDepth 100000 in
set_option maxHeartbeats 4000000 in
theorem call_4 (w : World) (s N : Nat) (T U : Nat → Prop) (R : List KV) (h : StoR w s T U R N) (hN : N < NMAX) (x : Stp) (A : Option Addr) (cc : Nat) (hk : x.kind = 4) (hkey : x.key.size ≤ maxLen) (hby : BytesAt w A x.bs) :
    Calls Try.prog 17 #[.pointer (some ⟨s, 0, none⟩), .agg (stepC x.kind x.key x.st (.slice A x.bs.length cc) x.dead x.tt)] w (CallPost s N T U R x w) := by
  obtain ⟨kind, key, st, bs, dead, tt⟩ := x
  simp only at hk hkey hby ⊢
  subst hk
  obtain ⟨nn, hnn⟩ : ∃ nn, bs.length = nn := ⟨_, rfl⟩
  rw [hnn]
  have hlt := fun k hk => h.lt (k := k) hk
  have hO : Only NoneOf w (((w.alloc (.cells (stepC 4 key st (.slice A nn cc) dead tt) 29)).alloc (.cells (tellC 0 0 0 false (.slice none 0 0) (.slice none 0 0) (.slice none 0 0)) 33)).alloc (.cells (tellC 0 0 0 false (.slice none 0 0) (.slice none 0 0) (.slice none 0 0)) 33)) := (((Only.refl _ _).alloc _).alloc _).alloc _
  have hB3 := ((Blk.new w 29 (stepC 4 key st (.slice A nn cc) dead tt)).alloc (.cells (tellC 0 0 0 false (.slice none 0 0) (.slice none 0 0) (.slice none 0 0)) 33)).alloc (.cells (tellC 0 0 0 false (.slice none 0 0) (.slice none 0 0) (.slice none 0 0)) 33)
  have hB4 := (Blk.new' (w.alloc (.cells (stepC 4 key st (.slice A nn cc) dead tt) 29)) 33 (tellC 0 0 0 false (.slice none 0 0) (.slice none 0 0) (.slice none 0 0)) (n := w.heap.size + 1) (by simp)).alloc (.cells (tellC 0 0 0 false (.slice none 0 0) (.slice none 0 0) (.slice none 0 0)) 33)
  have hB5 := Blk.new' ((w.alloc (.cells (stepC 4 key st (.slice A nn cc) dead tt) 29)).alloc (.cells (tellC 0 0 0 false (.slice none 0 0) (.slice none 0 0) (.slice none 0 0)) 33)) 33 (tellC 0 0 0 false (.slice none 0 0) (.slice none 0 0) (.slice none 0 0)) (n := w.heap.size + 1 + 1) (by simp)
  have HO := Lib.hid hO
  have HS := Lib.hid (h.other (U' := fun k => U k ∨ k = w.heap.size + 1 ∨ k = w.heap.size + 1 + 1) hO (fun _ h => h.elim) (fun k hk => by
    have hsz : (((w.alloc (.cells (stepC 4 key st (.slice A nn cc) dead tt) 29)).alloc (.cells (tellC 0 0 0 false (.slice none 0 0) (.slice none 0 0) (.slice none 0 0)) 33)).alloc (.cells (tellC 0 0 0 false (.slice none 0 0) (.slice none 0 0) (.slice none 0 0)) 33)).heap.size = w.heap.size + 3 := by simp
    rw [hsz]
    rcases hk with hk | hk | hk
    · have := h.ult hk; exact ⟨by omega, .inl hk⟩
    · exact ⟨by omega, .inr (by omega)⟩
    · exact ⟨by omega, .inr (by omega)⟩))
  have HB4 := Lib.hid hB4
  have HB5 := Lib.hid hB5
  have HBY := Lib.hid (hby.keep hO)
  have c0 := hB3.cellv 0 rfl
  have c1 := hB3.cellv 1 rfl
  have c2 := hB3.cellv 2 rfl
  have c3 := hB3.cellv 3 rfl
  have c4 := hB3.cellv 4 rfl
  have c5 := hB3.cellv 5 rfl
  have h0 := h
  clear hO hB3 hB4 hB5 hby h
  go_enter Try.func17, Try.ntmps17
  go_wp2_with fail
  refine (vacuumR _ s N T _ R HS.out (by omega) st).mono ?_; rintro e w4 ⟨rfl, T', hS4, hO4, hT4⟩
  have HO4 := Lib.hid hO4
  have hsz4 := hO4.size
  have hz4 : w.heap.size + 3 ≤ w4.heap.size := by simpa using hsz4
  have B4 := HB4.out.only hO4 (fun hk => by have := hlt _ hk; omega)
  have B5 := HB5.out.only hO4 (fun hk => by have := hlt _ hk; omega)
  have HS4 := Lib.hid hS4
  have HT4 := Lib.hid hT4
  clear hS4 hT4
  generalize hgn : ((R.length - (vacR R st).length : Nat) : Int) = gn at *
  have f1 := B5.free 1
  have k1 := B5.cellv 1 rfl
  have F5 := Lib.hid (B5.put 1 (.int .i64 gn))
  have F4 := Lib.hid (B4.far (p := ⟨w.heap.size + 1 + 1, 1, none⟩) (by simp) (.int .i64 gn))
  have FR := Lib.hid (F4.out.row #[.int .i64 0, .int .i64 gn, .int .i64 0, .bool false, .slice none 0 0, .slice none 0 0, .slice none 0 0])
  have FO := Lib.hid (((Only.refl (fun k => k = w.heap.size + 1 ∨ k = w.heap.size + 1 + 1) w4).put (p := ⟨w.heap.size + 1 + 1, 1, none⟩) (.inl (.inr rfl)) (.int .i64 gn)).row (b := w.heap.size + 1) (.inl (.inl rfl)) #[.int .i64 0, .int .i64 gn, .int .i64 0, .bool false, .slice none 0 0, .slice none 0 0, .slice none 0 0])
  clear B4 B5 hO4
  go_wp2_with (first | (refine wpList_load_row rfl 33 (.tmp 5) rfl (w.heap.size + 1 + 1) rfl 33 _ (0, 0) _ F5.out Try.underlying33 rfl info33 ?_) | (refine wpList_store_row rfl 33 (.tmp 4) (.tmp 82) rfl (w.heap.size + 1) #[.int .i64 0, .int .i64 gn, .int .i64 0, .bool false, .slice none 0 0, .slice none 0 0, .slice none 0 0] rfl rfl 33 (tellC 0 0 0 false (.slice none 0 0) (.slice none 0 0) (.slice none 0 0)) F4.out info33 rfl (by simp [Value.oneCell']) ?_) | fail)
  refine bodyPost_ret (v := .agg #[.int .i64 0, .int .i64 gn, .int .i64 0, .bool false, .slice none 0 0, .slice none 0 0, .slice none 0 0]) (results_cell_row rfl _ _ _ 33 _ (0, 0) _ rfl FR.out Try.underlying33 rfl info33) rfl ⟨_, T', rfl, ?_, ?_, ?_, fun k hk => by rcases HT4.out k hk with h | h; exact .inl h; exact .inr (by have := HO.out.size; omega)⟩
  · subst hgn; exact tstay_plain _ _ _ _ _ _
  · have hfin := HS4.out.other (U' := U) FO.out (fun k hk => .inr hk) (fun k hk => ⟨by have := (h0.ult hk); have := FO.out.size; omega, .inl (.inl hk)⟩)
    exact hfin.more (by omega)
  · refine ((HO.out.mono (S' := T) (fun _ _ h => h.elim)).step HO4.out (fun k hk h => h)).step FO.out (fun k hk e => by omega)

set_option maxRecDepth 100000 in
set_option maxHeartbeats 4000000 in
theorem call_5 (w : World) (s N : Nat) (T U : Nat → Prop) (R : List KV) (h : StoR w s T U R N) (_ : N < NMAX) (x : Stp) (A : Option Addr) (cc : Nat) (hk : x.kind = 5) (hkey : x.key.size ≤ maxLen) (hby : BytesAt w A x.bs) :
    Calls Try.prog 17 #[.pointer (some ⟨s, 0, none⟩), .agg (stepC x.kind x.key x.st (.slice A x.bs.length cc) x.dead x.tt)] w (CallPost s N T U R x w) := by
  obtain ⟨kind, key, st, bs, dead, tt⟩ := x
  simp only at hk hkey hby ⊢
  subst hk
  obtain ⟨nn, hnn⟩ : ∃ nn, bs.length = nn := ⟨_, rfl⟩
  rw [hnn]
  have hlt := fun k hk => h.lt (k := k) hk
  have hO : Only NoneOf w (((w.alloc (.cells (stepC 5 key st (.slice A nn cc) dead tt) 29)).alloc (.cells (tellC 0 0 0 false (.slice none 0 0) (.slice none 0 0) (.slice none 0 0)) 33)).alloc (.cells (tellC 0 0 0 false (.slice none 0 0) (.slice none 0 0) (.slice none 0 0)) 33)) := (((Only.refl _ _).alloc _).alloc _).alloc _
  have hB3 := ((Blk.new w 29 (stepC 5 key st (.slice A nn cc) dead tt)).alloc (.cells (tellC 0 0 0 false (.slice none 0 0) (.slice none 0 0) (.slice none 0 0)) 33)).alloc (.cells (tellC 0 0 0 false (.slice none 0 0) (.slice none 0 0) (.slice none 0 0)) 33)
  have hB4 := (Blk.new' (w.alloc (.cells (stepC 5 key st (.slice A nn cc) dead tt) 29)) 33 (tellC 0 0 0 false (.slice none 0 0) (.slice none 0 0) (.slice none 0 0)) (n := w.heap.size + 1) (by simp)).alloc (.cells (tellC 0 0 0 false (.slice none 0 0) (.slice none 0 0) (.slice none 0 0)) 33)
  have hB5 := Blk.new' ((w.alloc (.cells (stepC 5 key st (.slice A nn cc) dead tt) 29)).alloc (.cells (tellC 0 0 0 false (.slice none 0 0) (.slice none 0 0) (.slice none 0 0)) 33)) 33 (tellC 0 0 0 false (.slice none 0 0) (.slice none 0 0) (.slice none 0 0)) (n := w.heap.size + 1 + 1) (by simp)
  have HO := Lib.hid hO
  have HS := Lib.hid (h.keep hO)
  have HB4 := Lib.hid hB4
  have HB5 := Lib.hid hB5
  have HBY := Lib.hid (hby.keep hO)
  have c0 := hB3.cellv 0 rfl
  have c1 := hB3.cellv 1 rfl
  have c2 := hB3.cellv 2 rfl
  have c3 := hB3.cellv 3 rfl
  have c4 := hB3.cellv 4 rfl
  have c5 := hB3.cellv 5 rfl
  have h0 := h
  clear hO hB3 hB4 hB5 hby h
  go_enter Try.func17, Try.ntmps17
  go_wp2_with fail
  refine (liveIs2 _ s N T _ R HS.out).mono ?_; rintro e w4 ⟨rfl, hO4⟩
  have HO4 := Lib.hid hO4
  have hsz4 := hO4.size
  have hz4 : w.heap.size + 3 ≤ w4.heap.size := by simpa using hsz4
  have B4 := HB4.out.only hO4 (fun h => h)
  have B5 := HB5.out.only hO4 (fun h => h)
  have f1 := B5.free 1
  have k1 := B5.cellv 1 rfl
  have F5 := Lib.hid (B5.put 1 (.int .i64 (liveR R)))
  have F4 := Lib.hid (B4.far (p := ⟨w.heap.size + 1 + 1, 1, none⟩) (by simp) (.int .i64 (liveR R)))
  have FR := Lib.hid (F4.out.row #[.int .i64 0, .int .i64 (liveR R), .int .i64 0, .bool false, .slice none 0 0, .slice none 0 0, .slice none 0 0])
  have FO := Lib.hid (((Only.refl (fun k => k = w.heap.size + 1 ∨ k = w.heap.size + 1 + 1) w4).put (p := ⟨w.heap.size + 1 + 1, 1, none⟩) (.inl (.inr rfl)) (.int .i64 (liveR R))).row (b := w.heap.size + 1) (.inl (.inl rfl)) #[.int .i64 0, .int .i64 (liveR R), .int .i64 0, .bool false, .slice none 0 0, .slice none 0 0, .slice none 0 0])
  clear B4 B5 hO4
  go_wp2_with (first | (refine wpList_load_row rfl 33 (.tmp 5) rfl (w.heap.size + 1 + 1) rfl 33 _ (0, 0) _ F5.out Try.underlying33 rfl info33 ?_) | (refine wpList_store_row rfl 33 (.tmp 4) (.tmp 82) rfl (w.heap.size + 1) #[.int .i64 0, .int .i64 (liveR R), .int .i64 0, .bool false, .slice none 0 0, .slice none 0 0, .slice none 0 0] rfl rfl 33 (tellC 0 0 0 false (.slice none 0 0) (.slice none 0 0) (.slice none 0 0)) F4.out info33 rfl (by simp [Value.oneCell']) ?_) | fail)
  refine bodyPost_ret (v := .agg #[.int .i64 0, .int .i64 (liveR R), .int .i64 0, .bool false, .slice none 0 0, .slice none 0 0, .slice none 0 0]) (results_cell_row rfl _ _ _ 33 _ (0, 0) _ rfl FR.out Try.underlying33 rfl info33) rfl ⟨_, T, rfl, ?_, ?_, ?_, fun k hk => .inl hk⟩
  · exact tstay_plain _ _ _ _ _ _
  · exact (h0.keep ((HO.out.trans HO4.out).step FO.out (fun k hk e => by omega))).more (by omega)
  · exact ((HO.out.trans HO4.out).step FO.out (fun k hk e => by omega)).mono (fun _ _ h => h.elim)

set_option maxRecDepth 100000 in
set_option maxHeartbeats 4000000 in
theorem call_6 (w : World) (s N : Nat) (T U : Nat → Prop) (R : List KV) (h : StoR w s T U R N) (hN : N < NMAX) (x : Stp) (A : Option Addr) (cc : Nat) (hk : x.kind = 6) (hkey : x.key.size ≤ maxLen) (hby : BytesAt w A x.bs) :
    Calls Try.prog 17 #[.pointer (some ⟨s, 0, none⟩), .agg (stepC x.kind x.key x.st (.slice A x.bs.length cc) x.dead x.tt)] w (CallPost s N T U R x w) := by
  obtain ⟨kind, key, st, bs, dead, tt⟩ := x
  simp only at hk hkey hby ⊢
  subst hk
  obtain ⟨nn, hnn⟩ : ∃ nn, bs.length = nn := ⟨_, rfl⟩
  rw [hnn]
  have hlt := fun k hk => h.lt (k := k) hk
  have hO : Only NoneOf w (((w.alloc (.cells (stepC 6 key st (.slice A nn cc) dead tt) 29)).alloc (.cells (tellC 0 0 0 false (.slice none 0 0) (.slice none 0 0) (.slice none 0 0)) 33)).alloc (.cells (tellC 0 0 0 false (.slice none 0 0) (.slice none 0 0) (.slice none 0 0)) 33)) := (((Only.refl _ _).alloc _).alloc _).alloc _
  have hB3 := ((Blk.new w 29 (stepC 6 key st (.slice A nn cc) dead tt)).alloc (.cells (tellC 0 0 0 false (.slice none 0 0) (.slice none 0 0) (.slice none 0 0)) 33)).alloc (.cells (tellC 0 0 0 false (.slice none 0 0) (.slice none 0 0) (.slice none 0 0)) 33)
  have hB4 := (Blk.new' (w.alloc (.cells (stepC 6 key st (.slice A nn cc) dead tt) 29)) 33 (tellC 0 0 0 false (.slice none 0 0) (.slice none 0 0) (.slice none 0 0)) (n := w.heap.size + 1) (by simp)).alloc (.cells (tellC 0 0 0 false (.slice none 0 0) (.slice none 0 0) (.slice none 0 0)) 33)
  have hB5 := Blk.new' ((w.alloc (.cells (stepC 6 key st (.slice A nn cc) dead tt) 29)).alloc (.cells (tellC 0 0 0 false (.slice none 0 0) (.slice none 0 0) (.slice none 0 0)) 33)) 33 (tellC 0 0 0 false (.slice none 0 0) (.slice none 0 0) (.slice none 0 0)) (n := w.heap.size + 1 + 1) (by simp)
  have HO := Lib.hid hO
  have HS := Lib.hid (h.keep hO)
  have HB4 := Lib.hid hB4
  have HB5 := Lib.hid hB5
  have HBY := Lib.hid (hby.keep hO)
  have c0 := hB3.cellv 0 rfl
  have c1 := hB3.cellv 1 rfl
  have c2 := hB3.cellv 2 rfl
  have c3 := hB3.cellv 3 rfl
  have c4 := hB3.cellv 4 rfl
  have c5 := hB3.cellv 5 rfl
  have h0 := h
  clear hO hB3 hB4 hB5 hby h
  go_enter Try.func17, Try.ntmps17
  go_wp2_with fail
  refine (lenR _ s N T _ R HS.out (by omega)).mono ?_; rintro e w4 ⟨rfl, hO4⟩
  have HO4 := Lib.hid hO4
  have hsz4 := hO4.size
  have hz4 : w.heap.size + 3 ≤ w4.heap.size := by simpa using hsz4
  have B4 := HB4.out.only hO4 (fun h => h)
  have B5 := HB5.out.only hO4 (fun h => h)
  generalize hg1 : (((keysR R).length : Nat) : Int) = g1 at *
  generalize hg2 : ((R.length : Nat) : Int) = g2 at *
  have f1 := B5.free 1
  have k1 := B5.cellv 1 rfl
  have f2 := B5.free 2
  have k2 := B5.cellv 2 rfl
  have F5 := Lib.hid ((B5.put 1 (.int .i64 g1)).put 2 (.int .i64 g2))
  have F4 := Lib.hid ((B4.far (p := ⟨w.heap.size + 1 + 1, 1, none⟩) (by simp) (.int .i64 g1)).far (p := ⟨w.heap.size + 1 + 1, 2, none⟩) (by simp) (.int .i64 g2))
  have FR := Lib.hid (F4.out.row #[.int .i64 0, .int .i64 g1, .int .i64 g2, .bool false, .slice none 0 0, .slice none 0 0, .slice none 0 0])
  have FO := Lib.hid ((((Only.refl (fun k => k = w.heap.size + 1 ∨ k = w.heap.size + 1 + 1) w4).put (p := ⟨w.heap.size + 1 + 1, 1, none⟩) (.inl (.inr rfl)) (.int .i64 g1)).put (p := ⟨w.heap.size + 1 + 1, 2, none⟩) (.inl (.inr rfl)) (.int .i64 g2)).row (b := w.heap.size + 1) (.inl (.inl rfl)) #[.int .i64 0, .int .i64 g1, .int .i64 g2, .bool false, .slice none 0 0, .slice none 0 0, .slice none 0 0])
  clear B4 B5 hO4
  go_wp2_with (first | (refine wpList_load_row rfl 33 (.tmp 5) rfl (w.heap.size + 1 + 1) rfl 33 _ (0, 0) _ F5.out Try.underlying33 rfl info33 ?_) | (refine wpList_store_row rfl 33 (.tmp 4) (.tmp 82) rfl (w.heap.size + 1) #[.int .i64 0, .int .i64 g1, .int .i64 g2, .bool false, .slice none 0 0, .slice none 0 0, .slice none 0 0] rfl rfl 33 (tellC 0 0 0 false (.slice none 0 0) (.slice none 0 0) (.slice none 0 0)) F4.out info33 rfl (by simp [Value.oneCell']) ?_) | fail)
  refine bodyPost_ret (v := .agg #[.int .i64 0, .int .i64 g1, .int .i64 g2, .bool false, .slice none 0 0, .slice none 0 0, .slice none 0 0]) (results_cell_row rfl _ _ _ 33 _ (0, 0) _ rfl FR.out Try.underlying33 rfl info33) rfl ⟨_, T, rfl, ?_, ?_, ?_, fun k hk => .inl hk⟩
  · subst hg1; subst hg2; exact tstay_plain _ _ _ _ _ _
  · exact (h0.keep ((HO.out.trans HO4.out).step FO.out (fun k hk e => by omega))).more (by omega)
  · exact ((HO.out.trans HO4.out).step FO.out (fun k hk e => by omega)).mono (fun _ _ h => h.elim)

set_option maxRecDepth 100000 in
set_option maxHeartbeats 4000000 in
theorem call_1 (w : World) (s N : Nat) (T U : Nat → Prop) (R : List KV) (h : StoR w s T U R N) (_ : N < NMAX) (x : Stp) (A : Option Addr) (cc : Nat) (hk : x.kind = 1) (hkey : x.key.size ≤ maxLen) (hby : BytesAt w A x.bs) :
    Calls Try.prog 17 #[.pointer (some ⟨s, 0, none⟩), .agg (stepC x.kind x.key x.st (.slice A x.bs.length cc) x.dead x.tt)] w (CallPost s N T U R x w) := by
  obtain ⟨kind, key, st, bs, dead, tt⟩ := x
  simp only at hk hkey hby ⊢
  subst hk
  obtain ⟨nn, hnn⟩ : ∃ nn, bs.length = nn := ⟨_, rfl⟩
  rw [hnn]
  have hlt := fun k hk => h.lt (k := k) hk
  have hO : Only NoneOf w (((w.alloc (.cells (stepC 1 key st (.slice A nn cc) dead tt) 29)).alloc (.cells (tellC 0 0 0 false (.slice none 0 0) (.slice none 0 0) (.slice none 0 0)) 33)).alloc (.cells (tellC 0 0 0 false (.slice none 0 0) (.slice none 0 0) (.slice none 0 0)) 33)) := (((Only.refl _ _).alloc _).alloc _).alloc _
  have hB3 := ((Blk.new w 29 (stepC 1 key st (.slice A nn cc) dead tt)).alloc (.cells (tellC 0 0 0 false (.slice none 0 0) (.slice none 0 0) (.slice none 0 0)) 33)).alloc (.cells (tellC 0 0 0 false (.slice none 0 0) (.slice none 0 0) (.slice none 0 0)) 33)
  have hB4 := (Blk.new' (w.alloc (.cells (stepC 1 key st (.slice A nn cc) dead tt) 29)) 33 (tellC 0 0 0 false (.slice none 0 0) (.slice none 0 0) (.slice none 0 0)) (n := w.heap.size + 1) (by simp)).alloc (.cells (tellC 0 0 0 false (.slice none 0 0) (.slice none 0 0) (.slice none 0 0)) 33)
  have hB5 := Blk.new' ((w.alloc (.cells (stepC 1 key st (.slice A nn cc) dead tt) 29)).alloc (.cells (tellC 0 0 0 false (.slice none 0 0) (.slice none 0 0) (.slice none 0 0)) 33)) 33 (tellC 0 0 0 false (.slice none 0 0) (.slice none 0 0) (.slice none 0 0)) (n := w.heap.size + 1 + 1) (by simp)
  have HO := Lib.hid hO
  have HS := Lib.hid (h.keep hO)
  have HB4 := Lib.hid hB4
  have HB5 := Lib.hid hB5
  have HBY := Lib.hid (hby.keep hO)
  have c0 := hB3.cellv 0 rfl
  have c1 := hB3.cellv 1 rfl
  have c2 := hB3.cellv 2 rfl
  have c3 := hB3.cellv 3 rfl
  have c4 := hB3.cellv 4 rfl
  have c5 := hB3.cellv 5 rfl
  have h0 := h
  clear hO hB3 hB4 hB5 hby h
  go_enter Try.func17, Try.ntmps17
  go_wp2_with fail
  refine (getR _ s N T _ R HS.out key st hkey).mono ?_; rintro e w4 ⟨hget, hO4⟩
  have HO4 := Lib.hid hO4
  have hsz4 := hO4.size
  have hz4 : w.heap.size + 3 ≤ w4.heap.size := by simpa using hsz4
  have B4 := HB4.out.only hO4 (fun h => h)
  have B5 := HB5.out.only hO4 (fun h => h)
  obtain ⟨f, hf⟩ : ∃ f, found (verR R key) st = f := ⟨_, rfl⟩
  rw [hf] at hget
  have HF := Lib.hid hf
  clear hf
  cases f with
  | none =>
    obtain rfl := hget
    have f4 := B5.free 4
    have k4 := B5.cellv 4 rfl
    have f3 := B5.free 3
    have k3 := B5.cellv 3 rfl
    have F5 := Lib.hid ((B5.put 4 (.slice none 0 0)).put 3 (.bool false))
    have F4 := Lib.hid ((B4.far (p := ⟨w.heap.size + 1 + 1, 4, none⟩) (by simp) (.slice none 0 0)).far (p := ⟨w.heap.size + 1 + 1, 3, none⟩) (by simp) (.bool false))
    have FR := Lib.hid (F4.out.row #[.int .i64 0, .int .i64 0, .int .i64 0, .bool false, .slice none 0 0, .slice none 0 0, .slice none 0 0])
    have FO := Lib.hid ((((Only.refl (fun k => k = w.heap.size + 1 ∨ k = w.heap.size + 1 + 1) w4).put (p := ⟨w.heap.size + 1 + 1, 4, none⟩) (.inl (.inr rfl)) (.slice none 0 0)).put (p := ⟨w.heap.size + 1 + 1, 3, none⟩) (.inl (.inr rfl)) (.bool false)).row (b := w.heap.size + 1) (.inl (.inl rfl)) #[.int .i64 0, .int .i64 0, .int .i64 0, .bool false, .slice none 0 0, .slice none 0 0, .slice none 0 0])
    clear B4 B5 hO4
    go_wp2_with (first | (refine wpList_load_row rfl 33 (.tmp 5) rfl (w.heap.size + 1 + 1) rfl 33 _ (0, 0) _ F5.out Try.underlying33 rfl info33 ?_) | (refine wpList_store_row rfl 33 (.tmp 4) (.tmp 82) rfl (w.heap.size + 1) #[.int .i64 0, .int .i64 0, .int .i64 0, .bool false, .slice none 0 0, .slice none 0 0, .slice none 0 0] rfl rfl 33 (tellC 0 0 0 false (.slice none 0 0) (.slice none 0 0) (.slice none 0 0)) F4.out info33 rfl (by simp [Value.oneCell']) ?_) | fail)
    refine bodyPost_ret (v := .agg #[.int .i64 0, .int .i64 0, .int .i64 0, .bool false, .slice none 0 0, .slice none 0 0, .slice none 0 0]) (results_cell_row rfl _ _ _ 33 _ (0, 0) _ rfl FR.out Try.underlying33 rfl info33) rfl ⟨_, T, rfl, ?_, ?_, ?_, fun k hk => .inl hk⟩
    · have e : ansR R ⟨1, key, st, bs, dead, tt⟩ = {} := by simp [ansR, HF.out]
      rw [e]
      exact tstay_plain _ _ _ _ _ _
    · exact (h0.keep ((HO.out.trans HO4.out).step FO.out (fun k hk e => by omega))).more (by omega)
    · exact ((HO.out.trans HO4.out).step FO.out (fun k hk e => by omega)).mono (fun _ _ h => h.elim)
  | some b =>
    obtain ⟨vb, rfl, hvb⟩ := hget
    obtain ⟨Ab, cb, rfl⟩ := ownsRow_slice hvb
    have HVB := Lib.hid hvb
    clear hvb
    have f4 := B5.free 4
    have k4 := B5.cellv 4 rfl
    have f3 := B5.free 3
    have k3 := B5.cellv 3 rfl
    have F5 := Lib.hid ((B5.put 4 (.slice Ab b.length cb)).put 3 (.bool true))
    have F4 := Lib.hid ((B4.far (p := ⟨w.heap.size + 1 + 1, 4, none⟩) (by simp) (.slice Ab b.length cb)).far (p := ⟨w.heap.size + 1 + 1, 3, none⟩) (by simp) (.bool true))
    have FR := Lib.hid (F4.out.row #[.int .i64 0, .int .i64 0, .int .i64 0, .bool true, .slice Ab b.length cb, .slice none 0 0, .slice none 0 0])
    have FO := Lib.hid ((((Only.refl (fun k => k = w.heap.size + 1 ∨ k = w.heap.size + 1 + 1) w4).put (p := ⟨w.heap.size + 1 + 1, 4, none⟩) (.inl (.inr rfl)) (.slice Ab b.length cb)).put (p := ⟨w.heap.size + 1 + 1, 3, none⟩) (.inl (.inr rfl)) (.bool true)).row (b := w.heap.size + 1) (.inl (.inl rfl)) #[.int .i64 0, .int .i64 0, .int .i64 0, .bool true, .slice Ab b.length cb, .slice none 0 0, .slice none 0 0])
    clear B4 B5 hO4
    go_wp2_with (first | (refine wpList_load_row rfl 33 (.tmp 5) rfl (w.heap.size + 1 + 1) rfl 33 _ (0, 0) _ F5.out Try.underlying33 rfl info33 ?_) | (refine wpList_store_row rfl 33 (.tmp 4) (.tmp 82) rfl (w.heap.size + 1) #[.int .i64 0, .int .i64 0, .int .i64 0, .bool true, .slice Ab b.length cb, .slice none 0 0, .slice none 0 0] rfl rfl 33 (tellC 0 0 0 false (.slice none 0 0) (.slice none 0 0) (.slice none 0 0)) F4.out info33 rfl (by simp [Value.oneCell']) ?_) | fail)
    refine bodyPost_ret (v := .agg #[.int .i64 0, .int .i64 0, .int .i64 0, .bool true, .slice Ab b.length cb, .slice none 0 0, .slice none 0 0]) (results_cell_row rfl _ _ _ 33 _ (0, 0) _ rfl FR.out Try.underlying33 rfl info33) rfl ⟨_, T, rfl, ?_, ?_, ?_, fun k hk => .inl hk⟩
    · have e : ansR R ⟨1, key, st, bs, dead, tt⟩ = { b := b, is := true } := by simp [ansR, HF.out]
      rw [e]
      intro S w'' hS hlow
      have hsz3 : w.heap.size + 3 ≤ (((w.alloc (.cells (stepC 1 key st (.slice A nn cc) dead tt) 29)).alloc (.cells (tellC 0 0 0 false (.slice none 0 0) (.slice none 0 0) (.slice none 0 0)) 33)).alloc (.cells (tellC 0 0 0 false (.slice none 0 0) (.slice none 0 0) (.slice none 0 0)) 33)).heap.size := by simp
      have hlo := fun g hg => (ownsRow_lt HVB.out (g := g) hg).1
      exact ⟨_, _, _, rfl, ((HVB.out.only FO.out (fun g hg e => by have := hlo g hg; omega)).only hS (fun g hg e => by have := hlo g hg; have := hlow g e; omega)).bytesV, listAt_nil _ _ _, listAt_nil _ _ _⟩
    · exact (h0.keep ((HO.out.trans HO4.out).step FO.out (fun k hk e => by omega))).more (by omega)
    · exact ((HO.out.trans HO4.out).step FO.out (fun k hk e => by omega)).mono (fun _ _ h => h.elim)

set_option maxRecDepth 100000 in
set_option maxHeartbeats 4000000 in
theorem call_2 (w : World) (s N : Nat) (T U : Nat → Prop) (R : List KV) (h : StoR w s T U R N) (_ : N < NMAX) (x : Stp) (A : Option Addr) (cc : Nat) (hk : x.kind = 2) (hkey : x.key.size ≤ maxLen) (hby : BytesAt w A x.bs) :
    Calls Try.prog 17 #[.pointer (some ⟨s, 0, none⟩), .agg (stepC x.kind x.key x.st (.slice A x.bs.length cc) x.dead x.tt)] w (CallPost s N T U R x w) := by
  obtain ⟨kind, key, st, bs, dead, tt⟩ := x
  simp only at hk hkey hby ⊢
  subst hk
  obtain ⟨nn, hnn⟩ : ∃ nn, bs.length = nn := ⟨_, rfl⟩
  rw [hnn]
  have hlt := fun k hk => h.lt (k := k) hk
  have hO : Only NoneOf w (((w.alloc (.cells (stepC 2 key st (.slice A nn cc) dead tt) 29)).alloc (.cells (tellC 0 0 0 false (.slice none 0 0) (.slice none 0 0) (.slice none 0 0)) 33)).alloc (.cells (tellC 0 0 0 false (.slice none 0 0) (.slice none 0 0) (.slice none 0 0)) 33)) := (((Only.refl _ _).alloc _).alloc _).alloc _
  have hB3 := ((Blk.new w 29 (stepC 2 key st (.slice A nn cc) dead tt)).alloc (.cells (tellC 0 0 0 false (.slice none 0 0) (.slice none 0 0) (.slice none 0 0)) 33)).alloc (.cells (tellC 0 0 0 false (.slice none 0 0) (.slice none 0 0) (.slice none 0 0)) 33)
  have hB4 := (Blk.new' (w.alloc (.cells (stepC 2 key st (.slice A nn cc) dead tt) 29)) 33 (tellC 0 0 0 false (.slice none 0 0) (.slice none 0 0) (.slice none 0 0)) (n := w.heap.size + 1) (by simp)).alloc (.cells (tellC 0 0 0 false (.slice none 0 0) (.slice none 0 0) (.slice none 0 0)) 33)
  have hB5 := Blk.new' ((w.alloc (.cells (stepC 2 key st (.slice A nn cc) dead tt) 29)).alloc (.cells (tellC 0 0 0 false (.slice none 0 0) (.slice none 0 0) (.slice none 0 0)) 33)) 33 (tellC 0 0 0 false (.slice none 0 0) (.slice none 0 0) (.slice none 0 0)) (n := w.heap.size + 1 + 1) (by simp)
  have HO := Lib.hid hO
  have HS := Lib.hid (h.keep hO)
  have HB4 := Lib.hid hB4
  have HB5 := Lib.hid hB5
  have HBY := Lib.hid (hby.keep hO)
  have c0 := hB3.cellv 0 rfl
  have c1 := hB3.cellv 1 rfl
  have c2 := hB3.cellv 2 rfl
  have c3 := hB3.cellv 3 rfl
  have c4 := hB3.cellv 4 rfl
  have c5 := hB3.cellv 5 rfl
  have h0 := h
  clear hO hB3 hB4 hB5 hby h
  go_enter Try.func17, Try.ntmps17
  go_wp2_with fail
  refine (newestR _ s N T _ R HS.out key hkey).mono ?_; rintro e w4 ⟨hget, hO4⟩
  have HO4 := Lib.hid hO4
  have hsz4 := hO4.size
  have hz4 : w.heap.size + 3 ≤ w4.heap.size := by simpa using hsz4
  have B4 := HB4.out.only hO4 (fun h => h)
  have B5 := HB5.out.only hO4 (fun h => h)
  unfold newestT at hget
  obtain ⟨f, hf⟩ : ∃ f, (verR R key).getLast? = f := ⟨_, rfl⟩
  rw [hf] at hget
  have HF := Lib.hid hf
  clear hf
  cases f with
  | none =>
    obtain rfl := hget
    have f1 := B5.free 1
    have k1 := B5.cellv 1 rfl
    have f3 := B5.free 3
    have k3 := B5.cellv 3 rfl
    have F5 := Lib.hid ((B5.put 1 (.int .i64 0)).put 3 (.bool false))
    have F4 := Lib.hid ((B4.far (p := ⟨w.heap.size + 1 + 1, 1, none⟩) (by simp) (.int .i64 0)).far (p := ⟨w.heap.size + 1 + 1, 3, none⟩) (by simp) (.bool false))
    have FR := Lib.hid (F4.out.row #[.int .i64 0, .int .i64 0, .int .i64 0, .bool false, .slice none 0 0, .slice none 0 0, .slice none 0 0])
    have FO := Lib.hid ((((Only.refl (fun k => k = w.heap.size + 1 ∨ k = w.heap.size + 1 + 1) w4).put (p := ⟨w.heap.size + 1 + 1, 1, none⟩) (.inl (.inr rfl)) (.int .i64 0)).put (p := ⟨w.heap.size + 1 + 1, 3, none⟩) (.inl (.inr rfl)) (.bool false)).row (b := w.heap.size + 1) (.inl (.inl rfl)) #[.int .i64 0, .int .i64 0, .int .i64 0, .bool false, .slice none 0 0, .slice none 0 0, .slice none 0 0])
    clear B4 B5 hO4
    go_wp2_with (first | (refine wpList_load_row rfl 33 (.tmp 5) rfl (w.heap.size + 1 + 1) rfl 33 _ (0, 0) _ F5.out Try.underlying33 rfl info33 ?_) | (refine wpList_store_row rfl 33 (.tmp 4) (.tmp 82) rfl (w.heap.size + 1) #[.int .i64 0, .int .i64 0, .int .i64 0, .bool false, .slice none 0 0, .slice none 0 0, .slice none 0 0] rfl rfl 33 (tellC 0 0 0 false (.slice none 0 0) (.slice none 0 0) (.slice none 0 0)) F4.out info33 rfl (by simp [Value.oneCell']) ?_) | fail)
    refine bodyPost_ret (v := .agg #[.int .i64 0, .int .i64 0, .int .i64 0, .bool false, .slice none 0 0, .slice none 0 0, .slice none 0 0]) (results_cell_row rfl _ _ _ 33 _ (0, 0) _ rfl FR.out Try.underlying33 rfl info33) rfl ⟨_, T, rfl, ?_, ?_, ?_, fun k hk => .inl hk⟩
    · have e : ansR R ⟨2, key, st, bs, dead, tt⟩ = {} := by simp [ansR, HF.out]
      rw [e]
      exact tstay_plain _ _ _ _ _ _
    · exact (h0.keep ((HO.out.trans HO4.out).step FO.out (fun k hk e => by omega))).more (by omega)
    · exact ((HO.out.trans HO4.out).step FO.out (fun k hk e => by omega)).mono (fun _ _ h => h.elim)
  | some y =>
    obtain rfl := hget
    have f1 := B5.free 1
    have k1 := B5.cellv 1 rfl
    have f3 := B5.free 3
    have k3 := B5.cellv 3 rfl
    have F5 := Lib.hid ((B5.put 1 (.int .i64 y.st)).put 3 (.bool true))
    have F4 := Lib.hid ((B4.far (p := ⟨w.heap.size + 1 + 1, 1, none⟩) (by simp) (.int .i64 y.st)).far (p := ⟨w.heap.size + 1 + 1, 3, none⟩) (by simp) (.bool true))
    have FR := Lib.hid (F4.out.row #[.int .i64 0, .int .i64 y.st, .int .i64 0, .bool true, .slice none 0 0, .slice none 0 0, .slice none 0 0])
    have FO := Lib.hid ((((Only.refl (fun k => k = w.heap.size + 1 ∨ k = w.heap.size + 1 + 1) w4).put (p := ⟨w.heap.size + 1 + 1, 1, none⟩) (.inl (.inr rfl)) (.int .i64 y.st)).put (p := ⟨w.heap.size + 1 + 1, 3, none⟩) (.inl (.inr rfl)) (.bool true)).row (b := w.heap.size + 1) (.inl (.inl rfl)) #[.int .i64 0, .int .i64 y.st, .int .i64 0, .bool true, .slice none 0 0, .slice none 0 0, .slice none 0 0])
    clear B4 B5 hO4
    go_wp2_with (first | (refine wpList_load_row rfl 33 (.tmp 5) rfl (w.heap.size + 1 + 1) rfl 33 _ (0, 0) _ F5.out Try.underlying33 rfl info33 ?_) | (refine wpList_store_row rfl 33 (.tmp 4) (.tmp 82) rfl (w.heap.size + 1) #[.int .i64 0, .int .i64 y.st, .int .i64 0, .bool true, .slice none 0 0, .slice none 0 0, .slice none 0 0] rfl rfl 33 (tellC 0 0 0 false (.slice none 0 0) (.slice none 0 0) (.slice none 0 0)) F4.out info33 rfl (by simp [Value.oneCell']) ?_) | fail)
    refine bodyPost_ret (v := .agg #[.int .i64 0, .int .i64 y.st, .int .i64 0, .bool true, .slice none 0 0, .slice none 0 0, .slice none 0 0]) (results_cell_row rfl _ _ _ 33 _ (0, 0) _ rfl FR.out Try.underlying33 rfl info33) rfl ⟨_, T, rfl, ?_, ?_, ?_, fun k hk => .inl hk⟩
    · have e : ansR R ⟨2, key, st, bs, dead, tt⟩ = { n := y.st, is := true } := by simp [ansR, HF.out]
      rw [e]
      exact tstay_plain _ _ _ _ _ _
    · exact (h0.keep ((HO.out.trans HO4.out).step FO.out (fun k hk e => by omega))).more (by omega)
    · exact ((HO.out.trans HO4.out).step FO.out (fun k hk e => by omega)).mono (fun _ _ h => h.elim)

set_option maxRecDepth 100000 in
set_option maxHeartbeats 4000000 in
theorem call_3 (w : World) (s N : Nat) (T U : Nat → Prop) (R : List KV) (h : StoR w s T U R N) (hN : N < NMAX) (x : Stp) (A : Option Addr) (cc : Nat) (hk : x.kind = 3) (hkey : x.key.size ≤ maxLen) (hby : BytesAt w A x.bs) :
    Calls Try.prog 17 #[.pointer (some ⟨s, 0, none⟩), .agg (stepC x.kind x.key x.st (.slice A x.bs.length cc) x.dead x.tt)] w (CallPost s N T U R x w) := by
  obtain ⟨kind, key, st, bs, dead, tt⟩ := x
  simp only at hk hkey hby ⊢
  subst hk
  obtain ⟨nn, hnn⟩ : ∃ nn, bs.length = nn := ⟨_, rfl⟩
  rw [hnn]
  have hlt := fun k hk => h.lt (k := k) hk
  have hO : Only NoneOf w (((w.alloc (.cells (stepC 3 key st (.slice A nn cc) dead tt) 29)).alloc (.cells (tellC 0 0 0 false (.slice none 0 0) (.slice none 0 0) (.slice none 0 0)) 33)).alloc (.cells (tellC 0 0 0 false (.slice none 0 0) (.slice none 0 0) (.slice none 0 0)) 33)) := (((Only.refl _ _).alloc _).alloc _).alloc _
  have hB3 := ((Blk.new w 29 (stepC 3 key st (.slice A nn cc) dead tt)).alloc (.cells (tellC 0 0 0 false (.slice none 0 0) (.slice none 0 0) (.slice none 0 0)) 33)).alloc (.cells (tellC 0 0 0 false (.slice none 0 0) (.slice none 0 0) (.slice none 0 0)) 33)
  have hB4 := (Blk.new' (w.alloc (.cells (stepC 3 key st (.slice A nn cc) dead tt) 29)) 33 (tellC 0 0 0 false (.slice none 0 0) (.slice none 0 0) (.slice none 0 0)) (n := w.heap.size + 1) (by simp)).alloc (.cells (tellC 0 0 0 false (.slice none 0 0) (.slice none 0 0) (.slice none 0 0)) 33)
  have hB5 := Blk.new' ((w.alloc (.cells (stepC 3 key st (.slice A nn cc) dead tt) 29)).alloc (.cells (tellC 0 0 0 false (.slice none 0 0) (.slice none 0 0) (.slice none 0 0)) 33)) 33 (tellC 0 0 0 false (.slice none 0 0) (.slice none 0 0) (.slice none 0 0)) (n := w.heap.size + 1 + 1) (by simp)
  have HO := Lib.hid hO
  have HS := Lib.hid (h.keep hO)
  have HB4 := Lib.hid hB4
  have HB5 := Lib.hid hB5
  have HBY := Lib.hid (hby.keep hO)
  have c0 := hB3.cellv 0 rfl
  have c1 := hB3.cellv 1 rfl
  have c2 := hB3.cellv 2 rfl
  have c3 := hB3.cellv 3 rfl
  have c4 := hB3.cellv 4 rfl
  have c5 := hB3.cellv 5 rfl
  have h0 := h
  clear hO hB3 hB4 hB5 hby h
  go_enter Try.func17, Try.ntmps17
  go_wp2_with fail
  refine (scannedR _ s N T _ R HS.out (by omega) key tt st).mono ?_; rintro e w4 ⟨vp, rs, rfl, hvb, hpl, hO4⟩
  have HO4 := Lib.hid hO4
  have hsz4 := hO4.size
  have hz4 : w.heap.size + 3 ≤ w4.heap.size := by simpa using hsz4
  have B4 := HB4.out.only hO4 (fun h => h)
  have B5 := HB5.out.only hO4 (fun h => h)
  obtain ⟨Ab, cb, rfl⟩ := ownsRow_slice hvb.own
  have HVB := Lib.hid hvb
  have HPL := Lib.hid hpl
  clear hvb hpl
  have f5 := B5.free 5
  have k5 := B5.cellv 5 rfl
  have F5 := Lib.hid (B5.put 5 (.slice Ab rs.length cb))
  have F4 := Lib.hid (B4.far (p := ⟨w.heap.size + 1 + 1, 5, none⟩) (by simp) (.slice Ab rs.length cb))
  have FR := Lib.hid (F4.out.row #[.int .i64 0, .int .i64 0, .int .i64 0, .bool false, .slice none 0 0, .slice Ab rs.length cb, .slice none 0 0])
  have FO := Lib.hid (((Only.refl (fun k => k = w.heap.size + 1 ∨ k = w.heap.size + 1 + 1) w4).put (p := ⟨w.heap.size + 1 + 1, 5, none⟩) (.inl (.inr rfl)) (.slice Ab rs.length cb)).row (b := w.heap.size + 1) (.inl (.inl rfl)) #[.int .i64 0, .int .i64 0, .int .i64 0, .bool false, .slice none 0 0, .slice Ab rs.length cb, .slice none 0 0])
  clear B4 B5 hO4
  go_wp2_with (first | (refine wpList_load_row rfl 33 (.tmp 5) rfl (w.heap.size + 1 + 1) rfl 33 _ (0, 0) _ F5.out Try.underlying33 rfl info33 ?_) | (refine wpList_store_row rfl 33 (.tmp 4) (.tmp 82) rfl (w.heap.size + 1) #[.int .i64 0, .int .i64 0, .int .i64 0, .bool false, .slice none 0 0, .slice Ab rs.length cb, .slice none 0 0] rfl rfl 33 (tellC 0 0 0 false (.slice none 0 0) (.slice none 0 0) (.slice none 0 0)) F4.out info33 rfl (by simp [Value.oneCell']) ?_) | fail)
  refine bodyPost_ret (v := .agg #[.int .i64 0, .int .i64 0, .int .i64 0, .bool false, .slice none 0 0, .slice Ab rs.length cb, .slice none 0 0]) (results_cell_row rfl _ _ _ 33 _ (0, 0) _ rfl FR.out Try.underlying33 rfl info33) rfl ⟨_, T, rfl, ?_, ?_, ?_, fun k hk => .inl hk⟩
  · have e : ansR R ⟨3, key, st, bs, dead, tt⟩ = { pairs := rs.map PRow.plain } := by simp [ansR, HPL.out]
    rw [e]
    intro S w'' hS hlow
    have hsz3 : w.heap.size + 3 ≤ (((w.alloc (.cells (stepC 3 key st (.slice A nn cc) dead tt) 29)).alloc (.cells (tellC 0 0 0 false (.slice none 0 0) (.slice none 0 0) (.slice none 0 0)) 33)).alloc (.cells (tellC 0 0 0 false (.slice none 0 0) (.slice none 0 0) (.slice none 0 0)) 33)).heap.size := by simp
    have hlo := fun g hg => (HVB.out.lt (k := g) hg).1
    exact ⟨_, _, _, rfl, bytesV_nil _, listAt_pairs ((HVB.out.only FO.out (fun g hg e => by have := hlo g hg; omega)).only hS (fun g hg e => by have := hlo g hg; have := hlow g e; omega)), listAt_nil _ _ _⟩
  · exact (h0.keep ((HO.out.trans HO4.out).step FO.out (fun k hk e => by omega))).more (by omega)
  · exact ((HO.out.trans HO4.out).step FO.out (fun k hk e => by omega)).mono (fun _ _ h => h.elim)

set_option maxRecDepth 100000 in
set_option maxHeartbeats 4000000 in
theorem call_7 (w : World) (s N : Nat) (T U : Nat → Prop) (R : List KV) (h : StoR w s T U R N) (hN : N < NMAX) (x : Stp) (A : Option Addr) (cc : Nat) (hk : x.kind = 7) (hkey : x.key.size ≤ maxLen) (hby : BytesAt w A x.bs) :
    Calls Try.prog 17 #[.pointer (some ⟨s, 0, none⟩), .agg (stepC x.kind x.key x.st (.slice A x.bs.length cc) x.dead x.tt)] w (CallPost s N T U R x w) := by
  obtain ⟨kind, key, st, bs, dead, tt⟩ := x
  simp only at hk hkey hby ⊢
  subst hk
  obtain ⟨nn, hnn⟩ : ∃ nn, bs.length = nn := ⟨_, rfl⟩
  rw [hnn]
  have hlt := fun k hk => h.lt (k := k) hk
  have hO : Only NoneOf w (((w.alloc (.cells (stepC 7 key st (.slice A nn cc) dead tt) 29)).alloc (.cells (tellC 0 0 0 false (.slice none 0 0) (.slice none 0 0) (.slice none 0 0)) 33)).alloc (.cells (tellC 0 0 0 false (.slice none 0 0) (.slice none 0 0) (.slice none 0 0)) 33)) := (((Only.refl _ _).alloc _).alloc _).alloc _
  have hB3 := ((Blk.new w 29 (stepC 7 key st (.slice A nn cc) dead tt)).alloc (.cells (tellC 0 0 0 false (.slice none 0 0) (.slice none 0 0) (.slice none 0 0)) 33)).alloc (.cells (tellC 0 0 0 false (.slice none 0 0) (.slice none 0 0) (.slice none 0 0)) 33)
  have hB4 := (Blk.new' (w.alloc (.cells (stepC 7 key st (.slice A nn cc) dead tt) 29)) 33 (tellC 0 0 0 false (.slice none 0 0) (.slice none 0 0) (.slice none 0 0)) (n := w.heap.size + 1) (by simp)).alloc (.cells (tellC 0 0 0 false (.slice none 0 0) (.slice none 0 0) (.slice none 0 0)) 33)
  have hB5 := Blk.new' ((w.alloc (.cells (stepC 7 key st (.slice A nn cc) dead tt) 29)).alloc (.cells (tellC 0 0 0 false (.slice none 0 0) (.slice none 0 0) (.slice none 0 0)) 33)) 33 (tellC 0 0 0 false (.slice none 0 0) (.slice none 0 0) (.slice none 0 0)) (n := w.heap.size + 1 + 1) (by simp)
  have HO := Lib.hid hO
  have HS := Lib.hid (h.keep hO)
  have HB4 := Lib.hid hB4
  have HB5 := Lib.hid hB5
  have HBY := Lib.hid (hby.keep hO)
  have c0 := hB3.cellv 0 rfl
  have c1 := hB3.cellv 1 rfl
  have c2 := hB3.cellv 2 rfl
  have c3 := hB3.cellv 3 rfl
  have c4 := hB3.cellv 4 rfl
  have c5 := hB3.cellv 5 rfl
  have h0 := h
  clear hO hB3 hB4 hB5 hby h
  go_enter Try.func17, Try.ntmps17
  go_wp2_with fail
  refine (versionsR _ s N T _ R HS.out (by omega)).mono ?_; rintro e w4 ⟨vp, rs, rfl, hvb, hpl, hO4⟩
  have HO4 := Lib.hid hO4
  have hsz4 := hO4.size
  have hz4 : w.heap.size + 3 ≤ w4.heap.size := by simpa using hsz4
  have B4 := HB4.out.only hO4 (fun h => h)
  have B5 := HB5.out.only hO4 (fun h => h)
  obtain ⟨Ab, cb, rfl⟩ := ownsRow_slice hvb.own
  have HVB := Lib.hid hvb
  have HPL := Lib.hid hpl
  clear hvb hpl
  have f6 := B5.free 6
  have k6 := B5.cellv 6 rfl
  have F5 := Lib.hid (B5.put 6 (.slice Ab rs.length cb))
  have F4 := Lib.hid (B4.far (p := ⟨w.heap.size + 1 + 1, 6, none⟩) (by simp) (.slice Ab rs.length cb))
  have FR := Lib.hid (F4.out.row #[.int .i64 0, .int .i64 0, .int .i64 0, .bool false, .slice none 0 0, .slice none 0 0, .slice Ab rs.length cb])
  have FO := Lib.hid (((Only.refl (fun k => k = w.heap.size + 1 ∨ k = w.heap.size + 1 + 1) w4).put (p := ⟨w.heap.size + 1 + 1, 6, none⟩) (.inl (.inr rfl)) (.slice Ab rs.length cb)).row (b := w.heap.size + 1) (.inl (.inl rfl)) #[.int .i64 0, .int .i64 0, .int .i64 0, .bool false, .slice none 0 0, .slice none 0 0, .slice Ab rs.length cb])
  clear B4 B5 hO4
  go_wp2_with (first | (refine wpList_load_row rfl 33 (.tmp 5) rfl (w.heap.size + 1 + 1) rfl 33 _ (0, 0) _ F5.out Try.underlying33 rfl info33 ?_) | (refine wpList_store_row rfl 33 (.tmp 4) (.tmp 82) rfl (w.heap.size + 1) #[.int .i64 0, .int .i64 0, .int .i64 0, .bool false, .slice none 0 0, .slice none 0 0, .slice Ab rs.length cb] rfl rfl 33 (tellC 0 0 0 false (.slice none 0 0) (.slice none 0 0) (.slice none 0 0)) F4.out info33 rfl (by simp [Value.oneCell']) ?_) | fail)
  refine bodyPost_ret (v := .agg #[.int .i64 0, .int .i64 0, .int .i64 0, .bool false, .slice none 0 0, .slice none 0 0, .slice Ab rs.length cb]) (results_cell_row rfl _ _ _ 33 _ (0, 0) _ rfl FR.out Try.underlying33 rfl info33) rfl ⟨_, T, rfl, ?_, ?_, ?_, fun k hk => .inl hk⟩
  · have e : ansR R ⟨7, key, st, bs, dead, tt⟩ = { l := rs.map VRow.plain } := by simp [ansR, HPL.out]
    rw [e]
    intro S w'' hS hlow
    have hsz3 : w.heap.size + 3 ≤ (((w.alloc (.cells (stepC 7 key st (.slice A nn cc) dead tt) 29)).alloc (.cells (tellC 0 0 0 false (.slice none 0 0) (.slice none 0 0) (.slice none 0 0)) 33)).alloc (.cells (tellC 0 0 0 false (.slice none 0 0) (.slice none 0 0) (.slice none 0 0)) 33)).heap.size := by simp
    have hlo := fun g hg => (HVB.out.lt (k := g) hg).1
    exact ⟨_, _, _, rfl, bytesV_nil _, listAt_nil _ _ _, listAt_vers ((HVB.out.only FO.out (fun g hg e => by have := hlo g hg; omega)).only hS (fun g hg e => by have := hlo g hg; have := hlow g e; omega))⟩
  · exact (h0.keep ((HO.out.trans HO4.out).step FO.out (fun k hk e => by omega))).more (by omega)
  · exact ((HO.out.trans HO4.out).step FO.out (fun k hk e => by omega)).mono (fun _ _ h => h.elim)

end Go.Proofs.Ytnonnencdhogiaa

/-
  Layer 14's law: call, of whatever kind.
-/
namespace Go.Proofs.Ytnonnencdhogiaa
open Go.RowKit

abbrev zeroT : Array Value := tellC 0 0 0 false (.slice none 0 0) (.slice none 0 0) (.slice none 0 0)

set_option maxRecDepth 100000 in
set_option maxHeartbeats 4000000 in
theorem call_other (w : World) (p : Option Addr) (v : Value) (x : Stp) (hk : x.kind ≠ 0 ∧ x.kind ≠ 1 ∧ x.kind ≠ 2 ∧ x.kind ≠ 3 ∧ x.kind ≠ 4 ∧ x.kind ≠ 5 ∧ x.kind ≠ 6 ∧ x.kind ≠ 7) :
    Calls Try.prog 17 #[.pointer p, .agg (stepC x.kind x.key x.st v x.dead x.tt)] w fun e w' => e = .returned (.agg zeroT) ∧ Only NoneOf w w' := by
  obtain ⟨kind, key, st, bs, dead, tt⟩ := x
  simp only at hk ⊢
  obtain ⟨k0, k1, k2, k3, k4, k5, k6, k7⟩ := hk
  have q0 : (kind == 0) = false := beq_eq_false_iff_ne.2 k0
  have q1 : (kind == 1) = false := beq_eq_false_iff_ne.2 k1
  have q2 : (kind == 2) = false := beq_eq_false_iff_ne.2 k2
  have q3 : (kind == 3) = false := beq_eq_false_iff_ne.2 k3
  have q4 : (kind == 4) = false := beq_eq_false_iff_ne.2 k4
  have q5 : (kind == 5) = false := beq_eq_false_iff_ne.2 k5
  have q6 : (kind == 6) = false := beq_eq_false_iff_ne.2 k6
  have q7 : (kind == 7) = false := beq_eq_false_iff_ne.2 k7
  clear k0 k1 k2 k3 k4 k5 k6 k7
  have hB3 := ((Blk.new w 29 (stepC kind key st v dead tt)).alloc (.cells zeroT 33)).alloc (.cells zeroT 33)
  have F4 := (Blk.new' (w.alloc (.cells (stepC kind key st v dead tt) 29)) 33 zeroT (n := w.heap.size + 1) (by simp)).alloc (.cells zeroT 33)
  have F5 := Blk.new' ((w.alloc (.cells (stepC kind key st v dead tt) 29)).alloc (.cells zeroT 33)) 33 zeroT (n := w.heap.size + 1 + 1) (by simp)
  have FR := Lib.hid (F4.row zeroT)
  have FO := Lib.hid (((((Only.refl NoneOf w).alloc (.cells (stepC kind key st v dead tt) 29)).alloc (.cells zeroT 33)).alloc (.cells zeroT 33)).row (b := w.heap.size + 1) (.inr (by omega)) zeroT)
  have H4 := Lib.hid F4
  have H5 := Lib.hid F5
  have c0 := hB3.cellv 0 rfl
  clear hB3 F4 F5
  go_enter Try.func17, Try.ntmps17
  go_wp2_with (first | (refine wpList_load_row rfl 33 (.tmp 5) rfl (w.heap.size + 1 + 1) rfl 33 _ (0, 0) _ H5.out Try.underlying33 rfl info33 ?_) | (refine wpList_store_row rfl 33 (.tmp 4) (.tmp 82) rfl (w.heap.size + 1) zeroT rfl rfl 33 zeroT H4.out info33 rfl (by simp [Value.oneCell']) ?_) | fail)
  exact bodyPost_ret (v := .agg zeroT) (results_cell_row rfl _ _ _ 33 _ (0, 0) _ rfl FR.out Try.underlying33 rfl info33) rfl ⟨rfl, FO.out⟩

theorem call_is (w : World) (s N : Nat) (T U : Nat → Prop) (R : List KV) (h : StoR w s T U R N) (hN : N < NMAX) (x : Stp) (A : Option Addr) (cc : Nat) (hkey : x.key.size ≤ maxLen) (hby : BytesAt w A x.bs) :
    Calls Try.prog 17 #[.pointer (some ⟨s, 0, none⟩), .agg (stepC x.kind x.key x.st (.slice A x.bs.length cc) x.dead x.tt)] w (CallPost s N T U R x w) := by
  by_cases k0 : x.kind = 0
  · exact call_0 w s N T U R h hN x A cc k0 hkey hby
  by_cases k1 : x.kind = 1
  · exact call_1 w s N T U R h hN x A cc k1 hkey hby
  by_cases k2 : x.kind = 2
  · exact call_2 w s N T U R h hN x A cc k2 hkey hby
  by_cases k3 : x.kind = 3
  · exact call_3 w s N T U R h hN x A cc k3 hkey hby
  by_cases k4 : x.kind = 4
  · exact call_4 w s N T U R h hN x A cc k4 hkey hby
  by_cases k5 : x.kind = 5
  · exact call_5 w s N T U R h hN x A cc k5 hkey hby
  by_cases k6 : x.kind = 6
  · exact call_6 w s N T U R h hN x A cc k6 hkey hby
  by_cases k7 : x.kind = 7
  · exact call_7 w s N T U R h hN x A cc k7 hkey hby
  refine (call_other w _ _ x ⟨k0, k1, k2, k3, k4, k5, k6, k7⟩).mono ?_
  rintro e w' ⟨rfl, ho⟩
  have e1 : ansR R x = {} := by simp [ansR, k0, k1, k2, k3, k4, k5, k6, k7]
  have e2 : stepR R x = R := by simp [stepR, k0, k4]
  exact ⟨zeroT, T, rfl, by rw [e1]; exact tstay_plain _ _ _ _ _ _, by rw [e2]; exact (h.keep ho).more (by omega), ho.mono (fun _ _ h => h.elim), fun k hk => .inl hk⟩

end Go.Proofs.Ytnonnencdhogiaa

/-
  From a law's walk to its row's step: whatever the parameters, a law answers true and leaves what was there as it was.
-/
namespace Go.Proofs.Ytnonnencdhogiaa
open Go.ChangeShapes Go.WideShapes Go.ChangeAt Go.RowKit Go.Deep

/-- How a law ends: true; nothing that was there has turned. -/
def LawPost (w : World) (e : Ending) (w' : World) : Prop := e = .returned (.bool true) ∧ Below w.heap.size w w'

section
variable {H : Type} {enc : TypeId × Value → H} {P : Program}

theorem trodAll_keeps (hl : laidOutB P = true) {W W' : World} (hb : Below W.heap.size W W') (sp : Nat → Bool) :
    ∀ (ts : List TypeId) (vs : List Value) (ds : List (DataW H)) (ps : List MemPlace), (ts.all fun t => P.readableRec t && decide (t < P.types.size)) = true →
      DataW.TrodAll enc P W 0 (fun _ => true) true ts vs ds ps → (∀ p ∈ ps, p.block < W.heap.size) → (∀ p ∈ ps, sp p.block = true) → DataW.TrodAll enc P W' 0 sp true ts vs ds ps
  | [], vs, ds, ps, _, h, _, _ => by cases vs <;> cases ds <;> simp_all [DataW.TrodAll]
  | t :: ts, vs, ds, ps, ht, h, hlt, hsp => by
    obtain ⟨v, vs', d, ds', p, q, rfl, rfl, rfl, h1, h2⟩ := trodAll_cons h
    simp only [List.all_cons, Bool.and_eq_true, decide_eq_true_eq] at ht
    exact ⟨p, q, WideElems.Trod_stays hl ht.1.1 ht.1.2 h1 (fun x hx => hb.same (hlt x (by simp [hx]))) (fun x hx => hsp x (by simp [hx])),
      trodAll_keeps hl hb sp ts vs' ds' q ht.2 h2 (fun x hx => hlt x (by simp [hx])) (fun x hx => hsp x (by simp [hx])), rfl⟩

theorem law_post {f : Func} {s : ChangeSpec} {tb : TypeId} {W W' : World} {args : Array Value} {ds gs : List (DataW H)} {before : List MemPlace}
    (hl : laidOutB P = true) (hr : (f.params.toList.all fun t => P.readableRec t && decide (t < P.types.size)) = true) (hv : s.vars = []) (hrt : f.resultTypes = #[tb]) (hbt : P.underlying tb = some .bool)
    (hs1 : (s.fn H (ds ++ gs)).results = [.lit (.bool true)]) (hs2 : (s.fn H (ds ++ gs)).args = ds) (hs3 : (s.fn H (ds ++ gs)).vars = [])
    (hW : DataW.Whole enc P f.params.toList s.vars false W args.toList ds gs before) (hb : Below W.heap.size W W') :
    s.post enc P f false true false false W args (.bool true) W' := by
  have hlt := hW.lt
  have hW' := hW
  obtain ⟨p, q, hA, hV, rfl, _, _⟩ := hW
  rw [hv] at hV
  obtain ⟨rfl, rfl⟩ := trodVars_none hV
  refine ⟨ds, [], p ++ [], [], p, [], hW', ?_, ?_, ?_, World.keptBut_mono (fun x hx => ⟨hx, ?_⟩) (hb.frame (· ∈ p ++ [])), fun h => by cases h⟩
  · rw [hrt, hs1]
    exact trodAll_mk1 (shut_bool hbt true)
  · rw [hs2]
    exact trodAll_keeps hl hb _ _ _ _ _ hr hA (fun x hx => hlt x (by simpa using hx)) (fun x hx => by simpa using hlt x (by simpa using hx))
  · rw [hv, hs3]
    rfl
  · exact .inr (.inl (by simpa using hx))

theorem law_calls {f : Func} {k : FuncId} {s : ChangeSpec} {tb : TypeId} {W : World} {args : Array Value} {ds gs : List (DataW H)} {before : List MemPlace}
    (hl : laidOutB P = true) (hr : (f.params.toList.all fun t => P.readableRec t && decide (t < P.types.size)) = true) (hv : s.vars = []) (hrt : f.resultTypes = #[tb]) (hbt : P.underlying tb = some .bool)
    (hs1 : (s.fn H (ds ++ gs)).results = [.lit (.bool true)]) (hs2 : (s.fn H (ds ++ gs)).args = ds) (hs3 : (s.fn H (ds ++ gs)).vars = [])
    (hW : DataW.Whole enc P f.params.toList s.vars false W args.toList ds gs before) (walk : Calls P k args W (LawPost W)) :
    Calls P k args W fun e W' => ∃ v, e = .returned v ∧ s.post enc P f false true false false W args v W' :=
  walk.mono fun _ _ ⟨he, hb⟩ => ⟨_, he, law_post hl hr hv hrt hbt hs1 hs2 hs3 hW hb⟩

/-- A struct by value, each field of one cell: its fields, each with its own reading. -/
theorem open_fields {w : World} {base : Nat} {spare : Nat → Bool} {held : Bool} {t : TypeId} {fs : Array Field} {v : Value} {d : DataW H} {p : List MemPlace}
    (hs : P.underlying t = some (.struct fs)) (hone : oneCellFields P fs = true) (hC : P.cellsOf t = fs.size)
    (hv : ∃ cs, v = .agg cs ∧ cs.size = P.cellsOf t) (h : DataW.Trod enc P w base spare held t v d p) :
    ∃ cs : List Value, v = .agg cs.toArray ∧ cs.length = fs.size ∧
      ∀ (j : Nat) (f : Field), fs[j]? = some f → ∃ (c : Value) (y : DataW H × List MemPlace) (n : Nat), cs[j]? = some c ∧ DataW.trod enc P w base spare held n f.type [c] = some y := by
  obtain ⟨cs, rfl, hsz⟩ := hv
  obtain ⟨l⟩ := cs
  obtain ⟨fuel, hf⟩ := h
  obtain ⟨xs, n, _, _, hcl, hlen, hg⟩ := DataW.trod_struct hs hf
  have hl : l.length = fs.size := by rw [← hC]; exact hsz
  refine ⟨l, rfl, hl, fun j f hj => ?_⟩
  obtain ⟨ho, hk⟩ := hone_of hone j f hj
  have hjl : j < fs.size := (Array.getElem?_eq_some_iff.1 hj).1
  have h1 := hg j f hj
  rw [ho, hk] at h1
  have hc : (Value.agg l.toArray).cells.toList = l := by simp [Value.cells]
  rw [hc, List.drop_eq_getElem_cons (by omega)] at h1
  simp only [List.take_succ_cons, List.take_zero] at h1
  exact ⟨l[j]'(by omega), xs[j]'(by omega), n, List.getElem?_eq_getElem _, by rw [h1]; exact List.getElem?_eq_getElem _⟩

/-- The i-th field is an integer. -/
theorem field_int {w : World} {base : Nat} {spare : Nat → Bool} {held : Bool} {n : Nat} {t : TypeId} {k : IntKind} {c : Value} {y : DataW H × List MemPlace} (ht : P.underlying t = some (.int k))
    (h : DataW.trod enc P w base spare held n t [c] = some y) : ∃ x, c = .int k x ∧ (Lit.int k x).wf = true := by
  obtain ⟨x, hx, _, hw⟩ := DataW.trod_int ht h
  exact ⟨x, by simpa using hx, hw⟩
theorem field_bool {w : World} {base : Nat} {spare : Nat → Bool} {held : Bool} {n : Nat} {t : TypeId} {c : Value} {y : DataW H × List MemPlace} (ht : P.underlying t = some .bool)
    (h : DataW.trod enc P w base spare held n t [c] = some y) : ∃ x, c = .bool x := by
  obtain ⟨x, hx, _⟩ := DataW.trod_bool ht h
  exact ⟨x, by simpa using hx⟩
theorem field_string {w : World} {base : Nat} {spare : Nat → Bool} {held : Bool} {n : Nat} {t : TypeId} {c : Value} {y : DataW H × List MemPlace} (ht : P.underlying t = some .string)
    (h : DataW.trod enc P w base spare held n t [c] = some y) : ∃ x : ByteArray, c = .string x ∧ x.size ≤ maxLen := by
  obtain ⟨x, hx, _, hw⟩ := DataW.trod_string ht h
  exact ⟨x, by simpa using hx, hw⟩

theorem int_of {w : World} {base b0 : Nat} {spare : Nat → Bool} {held : Bool} {r : Reach} {t : TypeId} {k : IntKind} {v : Value} {d : DataW H} {p : List MemPlace} (ht : P.underlying t = some (.int k))
    (hv : Value.okWide P w r b0 t v) (h : DataW.Trod enc P w base spare held t v d p) : ∃ x, v = .int k x ∧ (Lit.int k x).wf = true := by
  obtain ⟨x, hx, _, _, hw⟩ := open_int ht hv h
  exact ⟨x, hx, hw⟩
end

theorem ownKnob_none : ownKnob Try.prog.godebug = none := by kernel_rfl
theorem laidOut : laidOutB Try.prog = true := by kernel_rfl

theorem wf64 {x : Int} (h : (Lit.int .i64 x).wf = true) : -9223372036854775808 ≤ x ∧ x ≤ 9223372036854775807 := by
  simpa [Lit.wf, IntKind.min, IntKind.max, IntKind.signed, IntKind.bits] using h

end Go.Proofs.Ytnonnencdhogiaa

/-
  A slice that comes in, opened to the cells of its elements.
-/
namespace Go.Proofs.Ytnonnencdhogiaa
open Go.ChangeShapes Go.WideShapes Go.ChangeAt Go.RowKit Go.Deep

section
variable {H : Type} {enc : TypeId × Value → H} {P : Program} {w : World} {base : Nat} {spare : Nat → Bool} {held : Bool}

theorem cell_place {w : World} {a : Addr} {v : Value} (h : w.cell? a = some v) : a = ⟨a.block, a.off, none⟩ := by
  obtain ⟨b, o, s⟩ := a
  cases s with
  | none => rfl
  | some x =>
    unfold World.cell? at h
    simp only at h
    split at h <;> simp at h

/-- A slice's elements, each as the row of its cells. 'sz' is the element's number of cells. -/
theorem open_elems {t e : TypeId} {sz : Nat} {v : Value} {d : DataW H} {p : List MemPlace} (ht : P.underlying t = some (.slice e)) (hsz : P.cellsOf e = sz) (h0 : 0 < sz)
    (hv : ∃ a len cap, v = .slice a len cap) (h : DataW.Trod enc P w 0 (fun _ => true) held t v d p) :
    ∃ (A : Option Addr) (len cap : Nat), v = .slice A len cap ∧ len ≤ cap ∧ cap ≤ maxLen ∧
      (A = none ∧ len = 0 ∧ cap = 0 ∨ ∃ D S, d = .slice D S ∧ D.length = len ∧ D.length + S.length = cap) ∧
      ∀ i, i < len → ∃ (blk off : Nat) (cs : List Value) (n : Nat) (x : DataW H × List MemPlace), A = some ⟨blk, off, none⟩ ∧ blk < w.heap.size ∧ cs.length = sz ∧
        (∀ j v, cs[j]? = some v → w.cell? ⟨blk, off + i * sz + j, none⟩ = some v) ∧ DataW.trod enc P w 0 (fun _ => true) held n e cs = some x := by
  obtain ⟨A, len, cap, rfl⟩ := hv
  obtain ⟨fuel, hf⟩ := h
  have hc1 : (Value.slice A len cap).cells.toList = [Value.slice A len cap] := by simp [Value.cells]
  rw [hc1] at hf
  rcases open_slice ht hf with ⟨h1, h2⟩ | ⟨a, len', cap', m, n, D, Pl, h1, _, hl, hm, hmm, hx, hi⟩
  · simp only [List.cons.injEq, Value.slice.injEq, and_true] at h1
    obtain ⟨rfl, rfl, rfl⟩ := h1
    exact ⟨none, 0, 0, rfl, Nat.le_refl _, Nat.zero_le _, .inl ⟨rfl, rfl, rfl⟩, fun i hi => absurd hi (by omega)⟩
  · simp only [List.cons.injEq, Value.slice.injEq, and_true] at h1
    obtain ⟨rfl, rfl, rfl⟩ := h1
    simp only [if_true] at hmm
    simp only [Prod.mk.injEq] at hx
    refine ⟨some a, len, cap, rfl, hl, hm, .inr ⟨_, _, hx.1, by simp, by simp; omega⟩, fun i hlt => ?_⟩
    obtain ⟨cs, hcs, htr⟩ := hi i (by omega)
    rw [hsz] at hcs
    obtain ⟨_, hlen, hat⟩ := World.cells?_some hcs
    have hcell : ∀ j v, cs[j]? = some v → w.cell? (a.add (i * sz + j)) = some v := by
      intro j v hj
      have hjl : j < sz := by rw [← hlen]; exact (List.getElem?_eq_some_iff.1 hj).1
      have := hat j hjl
      rw [Go.Deep.add_add, hj] at this
      exact this
    have h00 : cs[0]? = some (cs[0]'(by omega)) := List.getElem?_eq_getElem (by omega)
    have hc0 := hcell 0 _ h00
    have hadd : ∀ k, (a.add k).block = a.block := fun k => by unfold Addr.add; split <;> rfl
    have hb : a.block < w.heap.size := by
      have hbl := World.block_lt_of_cell? _ _ hc0
      rw [hadd] at hbl
      exact hbl
    have hsp : a.spot = none := by
      obtain ⟨cs0, hcs0, _⟩ := hi 0 (by omega)
      rw [hsz] at hcs0
      obtain ⟨_, hlen0, hat0⟩ := World.cells?_some hcs0
      have e0 := hat0 0 h0
      rw [Go.Deep.add_add, List.getElem?_eq_getElem (by omega)] at e0
      have e1 : (a.add (0 * sz + 0)) = a := by simp [Addr.add]
      rw [e1] at e0
      have := cell_place e0
      exact congrArg Addr.spot this
    refine ⟨a.block, a.off, cs, n, _, ?_, hb, hlen, fun j v hj => ?_, htr⟩
    · obtain ⟨x, y, z⟩ := a
      simp only at hsp
      rw [hsp]
    · have := hcell j v hj
      have e : a.add (i * sz + j) = ⟨a.block, a.off + i * sz + j, none⟩ := by
        unfold Addr.add
        split
        · rename_i hz
          obtain ⟨x, y, z⟩ := a
          simp only at hsp
          subst hsp
          simp only [Addr.mk.injEq, and_true, true_and]
          omega
        · simp only [Addr.mk.injEq, and_true, true_and]
          omega
      rw [e] at this
      exact this

/-- A struct's row of cells, each field of one cell. -/
theorem fields_of {t : TypeId} {fs : Array Field} {cs : List Value} {fuel : Nat} {x : DataW H × List MemPlace} (hs : P.underlying t = some (.struct fs)) (hone : oneCellFields P fs = true) (hC : P.cellsOf t = fs.size)
    (h : DataW.trod enc P w base spare held fuel t cs = some x) :
    cs.length = fs.size ∧ ∀ (j : Nat) (f : Field), fs[j]? = some f → ∃ (c : Value) (y : DataW H × List MemPlace) (n : Nat), cs[j]? = some c ∧ DataW.trod enc P w base spare held n f.type [c] = some y := by
  obtain ⟨xs, n, _, _, hcl, hlen, hg⟩ := DataW.trod_struct hs h
  have hl : cs.length = fs.size := by rw [← hC]; exact hcl
  refine ⟨hl, fun j f hj => ?_⟩
  obtain ⟨ho, hk⟩ := hone_of hone j f hj
  have hjl : j < fs.size := (Array.getElem?_eq_some_iff.1 hj).1
  have h1 := hg j f hj
  rw [ho, hk, List.drop_eq_getElem_cons (by omega)] at h1
  simp only [List.take_succ_cons, List.take_zero] at h1
  exact ⟨cs[j]'(by omega), xs[j]'(by omega), n, List.getElem?_eq_getElem _, by rw [h1]; exact List.getElem?_eq_getElem _⟩
end
end Go.Proofs.Ytnonnencdhogiaa

/-
  Layer 14's laws: scripts and lists of versions that come in, opened.
-/
namespace Go.Proofs.Ytnonnencdhogiaa
open Go.ChangeShapes Go.WideShapes Go.ChangeAt Go.RowKit Go.Deep

theorem lawPost {f : FuncId} {args : Array Value} {w : World} (h : Calls Try.prog f args w (Ans (.bool true) w)) : Calls Try.prog f args w (LawPost w) :=
  h.mono fun _ _ ⟨he, ho⟩ => ⟨he, ho.below (fun _ h => h.elim) (Nat.le_refl _)⟩

theorem list_of {α : Type} {P : Nat → α → Prop} : ∀ n : Nat, (∀ i, i < n → ∃ x, P i x) → ∃ s : List α, s.length = n ∧ ∀ i x, s[i]? = some x → P i x
  | 0, _ => ⟨[], rfl, fun i x h => by simp at h⟩
  | n + 1, h => by
    obtain ⟨s, hs, hp⟩ := list_of n (fun i hi => h i (by omega))
    obtain ⟨x, hx⟩ := h n (by omega)
    refine ⟨s ++ [x], by simp [hs], fun i y hy => ?_⟩
    by_cases hi : i < s.length
    · rw [List.getElem?_append_left hi] at hy; exact hp i y hy
    · have hil : i < (s ++ [x]).length := (List.getElem?_eq_some_iff.1 hy).1
      have : i = s.length := by simp at hil; omega
      subst this
      have e : y = x := by simpa using hy.symm
      rw [e, hs]; exact hx

section
variable {H : Type} {enc : TypeId × Value → H} {w : World} {held : Bool}

theorem field_bytes {n : Nat} {c : Value} {y : DataW H × List MemPlace} (h : DataW.trod enc Try.prog w 0 (fun _ => true) held n 25 [c] = some y) : ∃ A cap, ∃ bs : List UInt8, c = .slice A bs.length cap ∧ BytesAt w A bs := by
  have hs : ∃ a len cap, c = .slice a len cap := by
    rcases open_slice Try.underlying25 h with ⟨h1, _⟩ | ⟨a, len, cap, _, _, _, _, h1, _⟩
    · exact ⟨none, 0, 0, by simpa using h1⟩
    · exact ⟨some a, len, cap, by simpa using h1⟩
  obtain ⟨a, len, cap, rfl⟩ := hs
  obtain ⟨A, n', cap', hv, _, _, _, hi⟩ := open_elems (sz := 1) (v := .slice a len cap) Try.underlying25 (by kernel_rfl) (by omega) ⟨_, _, _, rfl⟩ ⟨n, by simpa [Value.cells] using h⟩
  injection hv with h1 h2 h3
  subst h1; subst h2; subst h3
  have hx : ∀ i, i < len → ∃ b : UInt8, ∃ g off, a = some ⟨g, off, none⟩ ∧ g < w.heap.size ∧ w.cell? ⟨g, off + i, none⟩ = some (byteV b) := by
    intro i hlt
    obtain ⟨blk, off, cs, m, y, hA, hb, hlen, hc, ht⟩ := hi i hlt
    match cs, hlen with
    | [c], _ =>
      obtain ⟨x, rfl, hw⟩ := field_int Try.underlying5 ht
      have hr : 0 ≤ x ∧ x ≤ 255 := by simpa [Lit.wf, IntKind.min, IntKind.max, IntKind.signed, IntKind.bits] using hw
      refine ⟨UInt8.ofNat x.toNat, blk, off, hA, hb, ?_⟩
      have h0 := hc 0 _ rfl
      rw [Nat.mul_one, Nat.add_zero] at h0
      rw [h0]
      have hn : (UInt8.ofNat x.toNat).toNat = x.toNat := by rw [UInt8.toNat_ofNat']; omega
      simp only [byteV, hn]
      congr 2
      omega
  obtain ⟨bs, hbs, hp⟩ := list_of len hx
  refine ⟨a, cap, bs, by rw [hbs], fun i c hc => ?_⟩
  obtain ⟨g, off, h1, h2, h3⟩ := hp i c hc
  exact ⟨g, off, h1, h2, h3⟩

/-- four cells of a version -/
theorem ver_cells {n : Nat} {cs : List Value} {x : DataW H × List MemPlace} (h : DataW.trod enc Try.prog w 0 (fun _ => true) held n 27 cs = some x) :
    ∃ (key : ByteArray) (st : Int) (A : Option Addr) (cap : Nat) (bs : List UInt8) (dead : Bool), cs = [.string key, .int .i64 st, .slice A bs.length cap, .bool dead] ∧ key.size ≤ maxLen ∧ BytesAt w A bs := by
  obtain ⟨hl, hf⟩ := fields_of Try.underlying27 (by kernel_rfl) (by kernel_rfl) h
  obtain ⟨c0, _, _, h0, t0⟩ := hf 0 _ rfl
  obtain ⟨c1, _, _, h1, t1⟩ := hf 1 _ rfl
  obtain ⟨c2, _, _, h2, t2⟩ := hf 2 _ rfl
  obtain ⟨c3, _, _, h3, t3⟩ := hf 3 _ rfl
  obtain ⟨key, rfl, hk⟩ := field_string Try.underlying9 t0
  obtain ⟨st, rfl, _⟩ := field_int Try.underlying3 t1
  obtain ⟨A, cap, bs, rfl, hb⟩ := field_bytes t2
  obtain ⟨dead, rfl⟩ := field_bool Try.underlying4 t3
  refine ⟨key, st, A, cap, bs, dead, ?_, hk, hb⟩
  have hl4 : cs.length = 4 := hl
  match cs, hl4 with
  | [a, b, c, d], _ =>
    simp only [List.getElem?_cons_zero, List.getElem?_cons_succ, Option.some.injEq] at h0 h1 h2 h3
    rw [h0, h1, h2, h3]

/-- a step's cells at a place -/
def StepAt (w : World) (g o : Nat) (x : Stp) (A : Option Addr) (cap : Nat) : Prop :=
  g < w.heap.size ∧ w.cell? ⟨g, o, none⟩ = some (.int .i64 x.kind) ∧ w.cell? ⟨g, o + 1, none⟩ = some (.string x.key) ∧ w.cell? ⟨g, o + 2, none⟩ = some (.int .i64 x.st) ∧ w.cell? ⟨g, o + 3, none⟩ = some (.slice A x.bs.length cap) ∧
    w.cell? ⟨g, o + 4, none⟩ = some (.bool x.dead) ∧ w.cell? ⟨g, o + 5, none⟩ = some (.string x.tt) ∧ BytesAt w A x.bs ∧ x.key.size ≤ maxLen
/-- a script in memory -/
def StepsAt (w : World) (A : Option Addr) (xs : List Stp) : Prop := ∀ (i : Nat) (x : Stp), xs[i]? = some x → ∃ g off Ab cap, A = some ⟨g, off, none⟩ ∧ StepAt w g (off + i * 6) x Ab cap
/-- a list of versions in memory -/
def VersAt (w : World) (A : Option Addr) (xs : List KV) : Prop := ∀ (i : Nat) (x : KV), xs[i]? = some x → ∃ g off Ab cap, A = some ⟨g, off, none⟩ ∧ g < w.heap.size ∧ w.cell? ⟨g, off + i * 4, none⟩ = some (.string x.1) ∧ w.cell? ⟨g, off + i * 4 + 1, none⟩ = some (.int .i64 x.2.st) ∧
    w.cell? ⟨g, off + i * 4 + 2, none⟩ = some (.slice Ab x.2.bs.length cap) ∧ w.cell? ⟨g, off + i * 4 + 3, none⟩ = some (.bool x.2.dead) ∧ BytesAt w Ab x.2.bs ∧ x.1.size ≤ maxLen

theorem StepAt.keep {w w' : World} {g o cap : Nat} {x : Stp} {A : Option Addr} (h : StepAt w g o x A cap) (ho : Only NoneOf w w') : StepAt w' g o x A cap := by
  obtain ⟨h0, h1, h2, h3, h4, h5, h6, h7, h8⟩ := h
  have hc := fun j => ho.cell (p := ⟨g, j, none⟩) h0 (fun h => h)
  exact ⟨Nat.lt_of_lt_of_le h0 ho.size, (hc _).trans h1, (hc _).trans h2, (hc _).trans h3, (hc _).trans h4, (hc _).trans h5, (hc _).trans h6, h7.keep ho, h8⟩
theorem StepsAt.keep {w w' : World} {A : Option Addr} {xs : List Stp} (h : StepsAt w A xs) (ho : Only NoneOf w w') : StepsAt w' A xs := fun i x hx => by
  obtain ⟨g, off, Ab, cap, hA, hs⟩ := h i x hx
  exact ⟨g, off, Ab, cap, hA, hs.keep ho⟩
theorem VersAt.keep {w w' : World} {A : Option Addr} {xs : List KV} (h : VersAt w A xs) (ho : Only NoneOf w w') : VersAt w' A xs := fun i x hx => by
  obtain ⟨g, off, Ab, cap, hA, h0, h1, h2, h3, h4, h5, h6⟩ := h i x hx
  have hc := fun j => ho.cell (p := ⟨g, j, none⟩) h0 (fun h => h)
  exact ⟨g, off, Ab, cap, hA, Nat.lt_of_lt_of_le h0 ho.size, (hc _).trans h1, (hc _).trans h2, (hc _).trans h3, (hc _).trans h4, h5.keep ho, h6⟩

theorem open_steps {v : Value} {d : DataW H} {p : List MemPlace} (hv : ∃ a len cap, v = .slice a len cap) (h : DataW.Trod enc Try.prog w 0 (fun _ => true) held 23 v d p) :
    ∃ A cap, ∃ s : List Stp, v = .slice A s.length cap ∧ (A = none ∧ s.length = 0 ∧ cap = 0 ∨ ∃ D S, d = .slice D S ∧ D.length = s.length ∧ D.length + S.length = cap) ∧ StepsAt w A s := by
  obtain ⟨A, n, cap, rfl, hl, hm, hdd, hi⟩ := open_elems (sz := 6) Try.underlying23 (by kernel_rfl) (by omega) hv h
  have hx : ∀ i, i < n → ∃ x : Stp, ∃ g off Ab cap', A = some ⟨g, off, none⟩ ∧ StepAt w g (off + i * 6) x Ab cap' := by
    intro i hlt
    obtain ⟨blk, off, cs, m, x, hA, hb, hlen, hc, ht⟩ := hi i hlt
    match cs, hlen with
    | [k0, k1, k2, k3, k4, k5], _ =>
      obtain ⟨xs, n', _, _, hcl, hxl, hg⟩ := DataW.trod_struct Try.underlying29 ht
      have e3 : Try.prog.cellsOf 3 = 1 := by kernel_rfl
      have e27 : Try.prog.cellsOf 27 = 4 := by kernel_rfl
      have e9 : Try.prog.cellsOf 9 = 1 := by kernel_rfl
      have g0 : DataW.trod enc Try.prog w 0 (fun _ => true) held n' 3 (([k0, k1, k2, k3, k4, k5].drop 0).take (Try.prog.cellsOf 3)) = xs[0]? := hg 0 _ rfl
      have g1 : DataW.trod enc Try.prog w 0 (fun _ => true) held n' 27 (([k0, k1, k2, k3, k4, k5].drop 1).take (Try.prog.cellsOf 27)) = xs[1]? := hg 1 _ rfl
      have g2 : DataW.trod enc Try.prog w 0 (fun _ => true) held n' 9 (([k0, k1, k2, k3, k4, k5].drop 5).take (Try.prog.cellsOf 9)) = xs[2]? := hg 2 _ rfl
      rw [e3] at g0
      rw [e27] at g1
      rw [e9] at g2
      simp only [List.drop_succ_cons, List.drop_zero, List.take_succ_cons, List.take_zero] at g0 g1 g2
      have hx3 : xs.length = 3 := hxl
      match xs, hx3 with
      | [x0, x1, x2], _ =>
        obtain ⟨kind, rfl, _⟩ := field_int Try.underlying3 g0
        obtain ⟨key, st, Ab, cap', bs, dead, hcs, hk, hby⟩ := ver_cells g1
        obtain ⟨tt, rfl, _⟩ := field_string Try.underlying9 g2
        simp only [List.cons.injEq, and_true] at hcs
        obtain ⟨rfl, rfl, rfl, rfl⟩ := hcs
        exact ⟨⟨kind, key, st, bs, dead, tt⟩, blk, off, Ab, cap', hA, hb, hc 0 _ rfl, hc 1 _ rfl, hc 2 _ rfl, hc 3 _ rfl, hc 4 _ rfl, hc 5 _ rfl, hby, hk⟩
  obtain ⟨s, hs, hp⟩ := list_of n hx
  subst hs
  exact ⟨A, cap, s, rfl, hdd, hp⟩

theorem open_vers {v : Value} {d : DataW H} {p : List MemPlace} (hv : ∃ a len cap, v = .slice a len cap) (h : DataW.Trod enc Try.prog w 0 (fun _ => true) held 31 v d p) :
    ∃ A cap, ∃ s : List KV, v = .slice A s.length cap ∧ (A = none ∧ s.length = 0 ∧ cap = 0 ∨ ∃ D S, d = .slice D S ∧ D.length = s.length ∧ D.length + S.length = cap) ∧ VersAt w A s := by
  obtain ⟨A, n, cap, rfl, hl, hm, hdd, hi⟩ := open_elems (sz := 4) Try.underlying31 (by kernel_rfl) (by omega) hv h
  have hx : ∀ i, i < n → ∃ x : KV, ∃ g off Ab cap', A = some ⟨g, off, none⟩ ∧ g < w.heap.size ∧ w.cell? ⟨g, off + i * 4, none⟩ = some (.string x.1) ∧ w.cell? ⟨g, off + i * 4 + 1, none⟩ = some (.int .i64 x.2.st) ∧
    w.cell? ⟨g, off + i * 4 + 2, none⟩ = some (.slice Ab x.2.bs.length cap') ∧ w.cell? ⟨g, off + i * 4 + 3, none⟩ = some (.bool x.2.dead) ∧ BytesAt w Ab x.2.bs ∧ x.1.size ≤ maxLen := by
    intro i hlt
    obtain ⟨blk, off, cs, m, x, hA, hb, hlen, hc, ht⟩ := hi i hlt
    obtain ⟨key, st, Ab, cap', bs, dead, rfl, hk, hby⟩ := ver_cells ht
    exact ⟨(key, ⟨st, bs, dead⟩), blk, off, Ab, cap', hA, hb, hc 0 _ rfl, hc 1 _ rfl, hc 2 _ rfl, hc 3 _ rfl, hby, hk⟩
  obtain ⟨s, hs, hp⟩ := list_of n hx
  subst hs
  exact ⟨A, cap, s, rfl, hdd, hp⟩
end

/-- A script holds at most so many. -/
theorem steps_few {H : Type} {ts : List TypeId} {ds : List (DataW H)} {A : Option Addr} {n cap : Nat} {d : DataW H} (j : Nat) (h : (DataW.weightsEach Try.prog ts ds).all (· ≤ reachBytes) = true) (ht : ts[j]? = some 23) (hj : ds[j]? = some d)
    (hd : A = none ∧ n = 0 ∧ cap = 0 ∨ ∃ D S, d = .slice D S ∧ D.length = n ∧ D.length + S.length = cap) : n ≤ 1759218604390 := by
  rcases hd with ⟨_, h0, _⟩ | ⟨D, S, rfl, hD, _⟩
  · omega
  · have := sized_slice h ht hj Try.underlying23
    rw [show Try.prog.bytesOf 29 = 80 by kernel_rfl] at this
    unfold reachBytes at this
    omega
theorem vers_few {H : Type} {ts : List TypeId} {ds : List (DataW H)} {A : Option Addr} {n cap : Nat} {d : DataW H} (j : Nat) (h : (DataW.weightsEach Try.prog ts ds).all (· ≤ reachBytes) = true) (ht : ts[j]? = some 31) (hj : ds[j]? = some d)
    (hd : A = none ∧ n = 0 ∧ cap = 0 ∨ ∃ D S, d = .slice D S ∧ D.length = n ∧ D.length + S.length = cap) : n ≤ 2513169434843 := by
  rcases hd with ⟨_, h0, _⟩ | ⟨D, S, rfl, hD, _⟩
  · omega
  · have := sized_slice h ht hj Try.underlying31
    rw [show Try.prog.bytesOf 27 = 56 by kernel_rfl] at this
    unfold reachBytes at this
    omega

end Go.Proofs.Ytnonnencdhogiaa

/-
  Layer 14's law: storeFixed.
-/
namespace Go.Proofs.Ytnonnencdhogiaa
open Go.RowKit

abbrev kA : ByteArray := ⟨#[97]⟩
abbrev kB : ByteArray := ⟨#[98]⟩
abbrev RF1 : List KV := [(kB, ⟨2, [20], false⟩)]
abbrev RF2 : List KV := [(kB, ⟨2, [20], false⟩), (kB, ⟨5, [], true⟩)]
abbrev RF3 : List KV := [(kB, ⟨2, [20], false⟩), (kB, ⟨5, [], true⟩), (kA, ⟨3, [], false⟩)]

theorem fx_v0 : verR [] kB = [] := rfl
theorem fx_v1 : verR RF1 kB = [⟨2, [20], false⟩] := by decide
theorem fx_v2 : verR RF2 kA = [] := by decide
theorem fx_v3b : verR RF3 kB = [⟨2, [20], false⟩, ⟨5, [], true⟩] := by decide
theorem fx_v3a : verR RF3 kA = [⟨3, [], false⟩] := by decide
theorem fx_c1 : codeR [] kB ⟨2, [20], false⟩ = 0 := by decide
theorem fx_c2 : codeR RF1 kB ⟨5, [], true⟩ = 0 := by decide
theorem fx_c3 : codeR RF2 kA ⟨3, [], false⟩ = 0 := by decide
theorem fx_a1 : afterR [] kB ⟨2, [20], false⟩ = RF1 := by unfold afterR; rw [if_pos fx_c1]; rfl
theorem fx_a2 : afterR RF1 kB ⟨5, [], true⟩ = RF2 := by unfold afterR; rw [if_pos fx_c2]; rfl
theorem fx_a3 : afterR RF2 kA ⟨3, [], false⟩ = RF3 := by unfold afterR; rw [if_pos fx_c3]; rfl
theorem fx_g4 : found (verR RF3 kB) 4 = some [20] := by decide
theorem fx_g5 : found (verR RF3 kB) 5 = none := by decide
theorem fx_keys : keysR RF3 = [[97], [98]] := sorted_unique _ _ (keysR_sorted _) (by decide) fun k => by
  rw [keysR_mem]
  constructor
  · rintro ⟨x, hx⟩
    simp only [RF3, List.mem_cons, Prod.mk.injEq, List.not_mem_nil, or_false] at hx
    rcases hx with ⟨h, _⟩ | ⟨h, _⟩ | ⟨h, _⟩
    · have := keyB_inj (a := k) (b := [98]) h; simp [this]
    · have := keyB_inj (a := k) (b := [98]) h; simp [this]
    · have := keyB_inj (a := k) (b := [97]) h; simp [this]
  · intro h
    simp only [List.mem_cons, List.not_mem_nil, or_false] at h
    rcases h with rfl | rfl
    · exact ⟨⟨3, [], false⟩, by simp [RF3]⟩
    · exact ⟨⟨5, [], true⟩, by simp [RF3]⟩
theorem fx_live : liveR RF3 = 1 := by
  unfold liveR
  rw [fx_keys]
  decide
theorem fx_vac : vacR RF3 5 = [(kB, ⟨5, [], true⟩), (kA, ⟨3, [], false⟩)] := by decide
theorem fx_vers : (versR (vacR RF3 5)).length = 2 := by rw [versR_length, fx_vac]; rfl

set_option maxRecDepth 100000 in
set_option maxHeartbeats 4000000 in
theorem fixed_is (w : World) : Calls Try.prog 15 #[] w fun e w' => e = .returned (.bool true) ∧ Only NoneOf w w' := by
  have HN := Lib.hid (newR w NoneOf (fun _ h => h.elim))
  go_enter Try.func15, Try.ntmps15
  go_wp2_with fail
  refine HN.out.mono ?_; rintro e w1 ⟨rfl, T1, h1, ho1, ht1⟩
  have hb1 : BytesAt (w1.alloc (.cells #[.int .u8 20] 5)) (some ⟨w1.heap.size, 0, none⟩) [20] := fun i c hc => by
    cases i with
    | zero => simp at hc; subst hc; exact ⟨_, 0, rfl, by simp, (Blk.new w1 5 #[.int .u8 20]).cellv 0 rfl⟩
    | succ i => simp at hc
  have HA1 := applyR _ _ _ _ _ _ (h1.keep ((Only.refl NoneOf w1).alloc (.cells #[.int .u8 20] 5))) (by decide) kB 2 (some ⟨w1.heap.size, 0, none⟩) 1 1 false [20] rfl hb1
  have HO1 := Lib.hid (ho1.alloc (.cells #[.int .u8 20] 5))
  have HT1 := Lib.hid ht1
  rw [fx_c1, fx_a1] at HA1
  clear h1 ho1 ht1 hb1
  go_wp2_with fail
  refine HA1.mono ?_; rintro e w2 ⟨rfl, T2, h2, ho2, ht2⟩
  have HO2 := Lib.hid (HO1.out.step ho2 (fun k hk hh => by have := HT1.out k hh; omega))
  have HT2 := Lib.hid (show ∀ k, T2 k → w.heap.size ≤ k from fun k hk => by
    rcases ht2 k hk with h | h
    · exact HT1.out k h
    · have := HO1.out.size; omega)
  have HA2 := applyR _ _ _ _ _ _ h2 (by decide) kB 5 none 0 0 true [] rfl (fun i c h => by simp at h)
  rw [fx_c2, fx_a2] at HA2
  clear HA1 ho2 ht2 h2
  go_wp2_with fail
  refine HA2.mono ?_; rintro e w3 ⟨rfl, T3, h3, ho3, ht3⟩
  have HO3 := Lib.hid (HO2.out.step ho3 (fun k hk hh => by have := HT2.out k hh; omega))
  have HT3 := Lib.hid (show ∀ k, T3 k → w.heap.size ≤ k from fun k hk => by
    rcases ht3 k hk with h | h
    · exact HT2.out k h
    · have := HO2.out.size; omega)
  have HA3 := applyR _ _ _ _ _ _ h3 (by decide) kA 3 none 0 0 false [] rfl (fun i c h => by simp at h)
  rw [fx_c3, fx_a3] at HA3
  clear HA2 ho3 ht3 h3
  go_wp2_with fail
  refine HA3.mono ?_; rintro e w4 ⟨rfl, T4, h4, ho4, ht4⟩
  have HO4 := Lib.hid (HO3.out.step ho4 (fun k hk hh => by have := HT3.out k hh; omega))
  have HT4 := Lib.hid (show ∀ k, T4 k → w.heap.size ≤ k from fun k hk => by
    rcases ht4 k hk with h | h
    · exact HT3.out k h
    · have := HO3.out.size; omega)
  have H4 := Lib.hid h4
  clear HA3 ho4 ht4 h4
  have HG := getR _ _ _ _ _ _ H4.out kB 4 (by decide)
  rw [fx_g4] at HG
  go_wp2_with fail
  refine HG.mono ?_; rintro e w5 ⟨⟨v5, rfl, hv5⟩, ho5⟩
  obtain ⟨A5, c5, rfl, hb5⟩ := RowB.at hv5
  obtain ⟨g5, o5, rfl, hg5, hc5⟩ := hb5 0 20 rfl
  have H5 := Lib.hid (H4.out.keep ho5)
  have HO5 := Lib.hid (HO4.out.trans ho5)
  rw [Nat.add_zero] at hc5
  clear HG ho5 hb5 hv5
  have HG := getR _ _ _ _ _ _ H5.out kB 5 (by decide)
  rw [fx_g5] at HG
  go_wp2_with fail
  refine HG.mono ?_; rintro e w6 ⟨rfl, ho6⟩
  have H6 := Lib.hid (H5.out.keep ho6)
  have HO6 := Lib.hid (HO5.out.trans ho6)
  have hc6 := (ho6.cell (p := ⟨g5, o5, none⟩) hg5 (fun h => h)).trans hc5
  have hg6 := Nat.lt_of_lt_of_le hg5 ho6.size
  clear HG ho6 hc5 hg5
  have HL := lenR _ _ _ _ _ _ H6.out (by decide)
  rw [fx_keys] at HL
  go_wp2_with fail
  refine HL.mono ?_; rintro e w7 ⟨rfl, ho7⟩
  have H7 := Lib.hid (H6.out.keep ho7)
  have HO7 := Lib.hid (HO6.out.trans ho7)
  have hc7 := (ho7.cell (p := ⟨g5, o5, none⟩) hg6 (fun h => h)).trans hc6
  clear HL ho7 hc6 hg6
  have HV := liveIs2 _ _ _ _ _ _ H7.out
  rw [fx_live] at HV
  go_wp2_with fail
  refine HV.mono ?_; rintro e w8 ⟨rfl, ho8⟩
  have H8 := Lib.hid (H7.out.keep ho8)
  have HO8 := Lib.hid (HO7.out.trans ho8)
  clear HV ho8 hc7
  have HC := vacuumR _ _ _ _ _ _ H8.out (by decide) 5
  have e2 : (RF3.length - (vacR RF3 5).length : Nat) = 1 := by rw [fx_vac]; rfl
  rw [e2] at HC
  go_wp2_with fail
  refine HC.mono ?_; rintro e w9 ⟨rfl, T9, h9, ho9, ht9⟩
  have HO9 := Lib.hid (HO8.out.step ho9 (fun k hk hh => by have := HT4.out k hh; omega))
  have HVS := versionsR _ _ _ _ _ _ h9 (by decide)
  clear HC ho9 ht9
  go_wp2_with fail
  refine HVS.mono ?_; rintro e w10 ⟨v, rs, rfl, hr, hpl, ho10⟩
  have hlen : rs.length = 2 := by rw [← fx_vers, ← hpl, List.length_map]
  obtain ⟨A, c, rfl⟩ := ownsRow_slice hr.own
  rw [hlen]
  have HO10 := Lib.hid (HO9.out.trans ho10)
  clear HVS ho10 hr hpl
  go_wp2_with fail
  go_ret
  exact ⟨rfl, HO10.out⟩

end Go.Proofs.Ytnonnencdhogiaa

