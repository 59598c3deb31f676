/-
  Layer 14's law: bytes, pairs, versions compared.
-/
import Derived.Test.YtnonnencdhogiaaS20
import Derived.Deep.QuietTactic
import Derived.BigQuiet
namespace Go.Proofs.Ytnonnencdhogiaa
open Go.RowKit

/-- It answers, and turned nothing but the draw. -/
abbrev Told (v : Value) (w : World) (e : Ending) (w' : World) : Prop := e = .returned v ∧ ∃ m, w' = w.drewN m

theorem BytesAt.drewN {w : World} {A : Option Addr} {bs : List UInt8} (h : BytesAt w A bs) (n : Nat) : BytesAt (w.drewN n) A bs := h.keep ((Only.refl NoneOf w).drewN n)

theorem bytes_beq (a b : ByteArray) : (a.toList == b.toList) = decide (a = b) := by
  rw [ByteArray.toList_eq, ByteArray.toList_eq]
  by_cases h : a = b
  · subst h; simp
  · rw [decide_eq_false h]
    refine beq_eq_false_iff_ne.2 fun e => h ?_
    rw [← keyB_list a, ← keyB_list b, e]

theorem take_ne {α : Type} {xs ys : List α} {i : Nat} {x y : α} (hx : xs[i]? = some x) (hy : ys[i]? = some y) (h : x ≠ y) : xs ≠ ys := fun e => by
  subst e
  rw [hx] at hy
  cases hy
  exact h rfl
theorem take_all {α : Type} {xs ys : List α} (hl : xs.length = ys.length) (h : ∀ i, i < xs.length → xs[i]? = ys[i]?) : xs = ys := by
  refine List.ext_getElem? fun i => ?_
  rcases Nat.lt_or_ge i xs.length with hi | hi
  · exact h i hi
  · rw [List.getElem?_eq_none hi, List.getElem?_eq_none (by omega)]

set_option maxRecDepth 100000 in
set_option maxHeartbeats 1000000 in
theorem equal_is (w : World) (A1 A2 : Option Addr) (n1 n2 c1 c2 : Nat) (xs ys : List UInt8) (hn1 : xs.length = n1) (hn2 : ys.length = n2) (h1 : BytesAt w A1 xs) (h2 : BytesAt w A2 ys) (hl : n1 ≤ 4611686018427387904) :
    Calls Try.prog 24 #[.slice A1 n1 c1, .slice A2 n2 c2] w (Told (.bool (decide (xs = ys))) w) := by
  by_cases hne : n1 = n2
  · subst hne
    have H1 := Lib.hid h1
    have H2 := Lib.hid h2
    have HN1 := Lib.hid hn1
    have HN2 := Lib.hid hn2
    clear h1 h2 hn1 hn2
    have hq : ((n1 : Int) == (n1 : Int)) = true := by simp
    go_enter Try.func24, Try.ntmps24
    go_wp2_with fail
    go_loopw [13] (fun v wr => ∃ i m : Nat, v = .int .i64 i ∧ i ≤ n1 ∧ wr = w.drewN m ∧ ∀ j, j < i → xs[j]? = ys[j]?) (fun v _ => n1 - (intOf v).toNat)
    case atStart => exact ⟨0, 0, rfl, by omega, rfl, fun j hj => by omega⟩
    case round =>
      obtain ⟨i, m, rfl, hi, rfl, heq⟩ := hrel
      by_cases hlt : i < n1
      · have hx : xs[i]? = some (xs[i]'(by rw [HN1.out]; exact hlt)) := List.getElem?_eq_getElem _
        have hy : ys[i]? = some (ys[i]'(by rw [HN2.out]; exact hlt)) := List.getElem?_eq_getElem _
        generalize xs[i]'(by rw [HN1.out]; exact hlt) = x at hx
        generalize ys[i]'(by rw [HN2.out]; exact hlt) = y at hy
        obtain ⟨g1, o1, rfl, hg1, k1⟩ := H1.out i x hx
        obtain ⟨g2, o2, rfl, hg2, k2⟩ := H2.out i y hy
        have HEQ := Lib.hid heq
        clear heq
        go_wp2_with fail
        go_quiet (fail)
        cases hbb : ((x.toNat : Int) != (y.toNat : Int))
        · have e : x = y := by
            rcases Decidable.em (x = y) with e | e
            · exact e
            · have := bne_eq_false_iff_eq.1 hbb
              exact UInt8.toNat_inj.1 (by omega)
          go_wp2_with fail
          refine ⟨⟨i + 1, _, by rw [show ((i + 1 : Nat) : Int) = (i : Int) + 1 by omega], by omega, rfl, fun j hj => ?_⟩, by simp [intOf]; omega⟩
          rcases Nat.lt_or_ge j i with h | h
          · exact HEQ.out j h
          · obtain rfl : j = i := by omega
            rw [hx, hy, e]
        · have e : x ≠ y := fun e => by subst e; simp at hbb
          have HD := Lib.hid (show decide (xs = ys) = false from decide_eq_false (take_ne hx hy e))
          go_wp2_with fail
          go_ret
          rw [HD.out]
          exact ⟨rfl, _, World.drewN_drewN _ _ _⟩
      · obtain rfl : i = n1 := by omega
        have HALL := Lib.hid (take_all (by rw [HN1.out, HN2.out]) (fun j hj => heq j (by rw [← HN1.out]; exact hj)))
        go_wp2_with fail
        go_ret
        exact ⟨by rw [decide_eq_true HALL.out]; rfl, m, rfl⟩
  · have hq : ((n1 : Int) == (n2 : Int)) = false := beq_eq_false_iff_ne.2 (by omega)
    have hd : decide (xs = ys) = false := decide_eq_false fun e => hne (by rw [← hn1, ← hn2, e])
    rw [hd]
    clear h1 h2
    go_enter Try.func24, Try.ntmps24
    go_wp2_with fail
    go_ret
    exact ⟨rfl, 0, rfl⟩

/-- the elements of a slice in memory -/
def ListAt {α : Type} (sz : Nat) (E : World → α → List Value → Prop) (w : World) (v : Value) (xs : List α) : Prop :=
  ∃ A cap, v = .slice A xs.length cap ∧ ∀ (i : Nat) (x : α), xs[i]? = some x → ∃ g off cs, A = some ⟨g, off, none⟩ ∧ g < w.heap.size ∧ (∀ (j : Nat) (c : Value), cs[j]? = some c → w.cell? ⟨g, off + i * sz + j, none⟩ = some c) ∧ cs.length = sz ∧ E w x cs
def PairE (w : World) (x : ByteArray × List UInt8) (cs : List Value) : Prop := ∃ A c, cs = [.string x.1, .slice A x.2.length c] ∧ BytesAt w A x.2
def VerE (w : World) (x : KV) (cs : List Value) : Prop := ∃ A c, cs = [.string x.1, .int .i64 x.2.st, .slice A x.2.bs.length c, .bool x.2.dead] ∧ BytesAt w A x.2.bs

theorem ListAt.keep {α : Type} {sz : Nat} {E : World → α → List Value → Prop} {w w' : World} {v : Value} {xs : List α} (h : ListAt sz E w v xs) (hE : ∀ x cs, E w x cs → E w' x cs) (ho : Only NoneOf w w') : ListAt sz E w' v xs := by
  obtain ⟨A, cap, hv, h⟩ := h
  refine ⟨A, cap, hv, fun i x hx => ?_⟩
  obtain ⟨g, off, cs, hA, hg, hc, hl, he⟩ := h i x hx
  exact ⟨g, off, cs, hA, Nat.lt_of_lt_of_le hg ho.size, fun j c hj => (ho.cell (p := ⟨g, off + i * sz + j, none⟩) hg (fun h => h)).trans (hc j c hj), hl, hE x cs he⟩
theorem PairE.keep {w w' : World} (ho : Only NoneOf w w') (x : ByteArray × List UInt8) (cs : List Value) (h : PairE w x cs) : PairE w' x cs := by
  obtain ⟨A, c, hcs, hb⟩ := h
  exact ⟨A, c, hcs, hb.keep ho⟩
theorem VerE.keep {w w' : World} (ho : Only NoneOf w w') (x : KV) (cs : List Value) (h : VerE w x cs) : VerE w' x cs := by
  obtain ⟨A, c, hcs, hb⟩ := h
  exact ⟨A, c, hcs, hb.keep ho⟩

set_option maxRecDepth 100000 in
set_option maxHeartbeats 4000000 in
theorem pairs_alike (w : World) (v1 v2 : Value) (xs ys : List (ByteArray × List UInt8)) (h1 : ListAt 2 PairE w v1 xs) (h2 : ListAt 2 PairE w v2 ys) (hl : xs.length ≤ 4611686018427387904) (hb : ∀ x ∈ xs, x.2.length ≤ 4611686018427387904) :
    Calls Try.prog 28 #[v1, v2] w (Told (.bool (decide (xs = ys))) w) := by
  obtain ⟨A1, c1, rfl, h1⟩ := h1
  obtain ⟨A2, c2, rfl, h2⟩ := h2
  by_cases hne : xs.length = ys.length
  · obtain ⟨n1, hn⟩ : ∃ n1, xs.length = n1 := ⟨_, rfl⟩
    have H1 := Lib.hid h1
    have H2 := Lib.hid h2
    have HN1 := Lib.hid hn
    have HN2 := Lib.hid (show ys.length = n1 by omega)
    rw [hn, show ys.length = n1 by omega]
    rw [hn] at hl
    clear h1 h2 hne hn
    have hq : ((n1 : Int) == (n1 : Int)) = true := by simp
    go_enter Try.func28, Try.ntmps28
    go_wp2_with fail
    go_loopw [13] (fun v wr => ∃ i m : Nat, v = .int .i64 i ∧ i ≤ n1 ∧ wr = w.drewN m ∧ ∀ j, j < i → xs[j]? = ys[j]?) (fun v _ => n1 - (intOf v).toNat)
    case atStart => exact ⟨0, 0, rfl, by omega, rfl, fun j hj => by omega⟩
    case round =>
      obtain ⟨i, m, rfl, hi, hm, heq⟩ := hrel
      have HM := Lib.hid hm
      have HO := Lib.hid (show Only NoneOf w wr by rw [hm]; exact (Only.refl _ _).drewN _)
      clear hm
      by_cases hlt : i < n1
      · have hx : xs[i]? = some (xs[i]'(by rw [HN1.out]; exact hlt)) := List.getElem?_eq_getElem _
        have hy : ys[i]? = some (ys[i]'(by rw [HN2.out]; exact hlt)) := List.getElem?_eq_getElem _
        generalize xs[i]'(by rw [HN1.out]; exact hlt) = x at hx
        generalize ys[i]'(by rw [HN2.out]; exact hlt) = y at hy
        obtain ⟨g1, o1, cs1, rfl, hg1, k1, _, B1, d1, rfl, hb1⟩ := H1.out i x hx
        obtain ⟨g2, o2, cs2, rfl, hg2, k2, _, B2, d2, rfl, hb2⟩ := H2.out i y hy
        have p0 := (HO.out.cell (p := ⟨g1, o1 + i * 2 + 0, none⟩) hg1 (fun h => h)).trans (k1 0 _ rfl)
        have p1 := (HO.out.cell (p := ⟨g1, o1 + i * 2 + 1, none⟩) hg1 (fun h => h)).trans (k1 1 _ rfl)
        have q0 := (HO.out.cell (p := ⟨g2, o2 + i * 2 + 0, none⟩) hg2 (fun h => h)).trans (k2 0 _ rfl)
        have q1 := (HO.out.cell (p := ⟨g2, o2 + i * 2 + 1, none⟩) hg2 (fun h => h)).trans (k2 1 _ rfl)
        rw [Nat.add_zero] at p0 q0
        have HEQ := Lib.hid heq
        have HEL := fun u (hu : Only NoneOf wr u) => Lib.hid (equal_is u B1 B2 x.2.length y.2.length d1 d2 x.2 y.2 rfl rfl ((hb1.keep HO.out).keep hu) ((hb2.keep HO.out).keep hu) (hb x (List.mem_of_getElem? hx)))
        have HNX := fun (hxy : x = y) m' => Lib.hid (show ∃ i' m'' : Nat, Value.int .i64 ((i : Int) + 1) = .int .i64 i' ∧ i' ≤ n1 ∧ wr.drewN m' = w.drewN m'' ∧ ∀ j, j < i' → xs[j]? = ys[j]? from
          ⟨i + 1, m + m', by rw [show ((i + 1 : Nat) : Int) = (i : Int) + 1 by omega], by omega, by rw [HM.out, World.drewN_drewN], fun j hj => by
            rcases Nat.lt_or_ge j i with h | h
            · exact heq j h
            · obtain rfl : j = i := by omega
              rw [hx, hy, hxy]⟩)
        obtain ⟨xk, xb⟩ := x
        obtain ⟨yk, yb⟩ := y
        have HNE := fun (hxy : (xk, xb) ≠ (yk, yb)) => Lib.hid (show decide (xs = ys) = false from decide_eq_false (take_ne hx hy hxy))
        simp only at p0 p1 q0 q1 HEL
        clear heq k1 k2 hb1 hb2
        cases hk : (xk.toList == yk.toList)
        · have HD := HNE (fun e => by injection e with e1 e2; rw [e1] at hk; simp at hk)
          go_wp2_with fail
          go_quiet (fail)
          go_wp2_with fail
          go_ret
          rw [HD.out]
          exact ⟨rfl, m + _, by rw [HM.out, World.drewN_drewN]⟩
        · have hkk : xk = yk := by rw [bytes_beq] at hk; exact of_decide_eq_true hk
          cases hbb : decide (xb = yb)
          · have HD := HNE (fun e => by injection e with e1 e2; rw [e2] at hbb; simp at hbb)
            simp only [hbb] at HEL
            go_wp2_with fail
            go_quiet ((go_at_call 24; exact Calls.quiet_of (HEL _ (by repeat (first | exact Only.refl _ _ | refine Only.drewN ?_ _))).out))
            go_wp2_with fail
            go_ret
            rw [HD.out]
            exact ⟨rfl, m + _, by rw [HM.out, World.drewN_drewN]⟩
          · have HN := HNX (by rw [hkk, of_decide_eq_true hbb])
            simp only [hbb] at HEL
            go_wp2_with fail
            go_quiet ((go_at_call 24; exact Calls.quiet_of (HEL _ (by repeat (first | exact Only.refl _ _ | refine Only.drewN ?_ _))).out))
            go_wp2_with fail
            exact ⟨(HN _).out, by simp [intOf]; omega⟩
      · obtain rfl : i = n1 := by omega
        have HALL := Lib.hid (take_all (by rw [HN1.out, HN2.out]) (fun j hj => heq j (by rw [← HN1.out]; exact hj)))
        go_wp2_with fail
        go_ret
        exact ⟨by rw [decide_eq_true HALL.out]; rfl, m, HM.out⟩
  · have hq : ((xs.length : Int) == (ys.length : Int)) = false := beq_eq_false_iff_ne.2 (by omega)
    have hd : decide (xs = ys) = false := decide_eq_false fun e => hne (by rw [e])
    rw [hd]
    clear h1 h2
    generalize xs.length = n1 at *
    generalize ys.length = n2 at *
    go_enter Try.func28, Try.ntmps28
    go_wp2_with fail
    go_ret
    exact ⟨rfl, 0, rfl⟩

end Go.Proofs.Ytnonnencdhogiaa
