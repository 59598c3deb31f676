/-
  Layer 14's law: versions compared.
-/
import Derived.Test.YtnonnencdhogiaaS21
namespace Go.Proofs.Ytnonnencdhogiaa
open Go.RowKit

instance : DecidableEq Ver := fun a b =>
  if h : a.st = b.st ∧ a.bs = b.bs ∧ a.dead = b.dead then .isTrue (by obtain ⟨s, c, d⟩ := a; obtain ⟨s', c', d'⟩ := b; obtain ⟨rfl, rfl, rfl⟩ := h; rfl) else .isFalse fun e => h (by subst e; exact ⟨rfl, rfl, rfl⟩)

set_option maxRecDepth 100000 in
set_option maxHeartbeats 4000000 in
theorem versions_alike (w : World) (v1 v2 : Value) (xs ys : List KV) (h1 : ListAt 4 VerE w v1 xs) (h2 : ListAt 4 VerE w v2 ys) (hl : xs.length ≤ 4611686018427387904) (hb : ∀ x ∈ xs, x.2.bs.length ≤ 4611686018427387904) :
    Calls Try.prog 30 #[v1, v2] w (Told (.bool (decide (xs = ys))) w) := by
  obtain ⟨A1, c1, rfl, h1⟩ := h1
  obtain ⟨A2, c2, rfl, h2⟩ := h2
  by_cases hne : xs.length = ys.length
  · obtain ⟨n1, hn⟩ : ∃ n1, xs.length = n1 := ⟨_, rfl⟩
    have H1 := Lib.hid h1
    have H2 := Lib.hid h2
    have HN1 := Lib.hid hn
    have HN2 := Lib.hid (show ys.length = n1 by omega)
    rw [hn, show ys.length = n1 by omega]
    rw [hn] at hl
    clear h1 h2 hne hn
    have hq : ((n1 : Int) == (n1 : Int)) = true := by simp
    go_enter Try.func30, Try.ntmps30
    go_wp2_with fail
    go_loopw [13] (fun v wr => ∃ i m : Nat, v = .int .i64 i ∧ i ≤ n1 ∧ wr = w.drewN m ∧ ∀ j, j < i → xs[j]? = ys[j]?) (fun v _ => n1 - (intOf v).toNat)
    case atStart => exact ⟨0, 0, rfl, by omega, rfl, fun j hj => by omega⟩
    case round =>
      obtain ⟨i, m, rfl, hi, hm, heq⟩ := hrel
      have HM := Lib.hid hm
      have HO := Lib.hid (show Only NoneOf w wr by rw [hm]; exact (Only.refl _ _).drewN _)
      clear hm
      by_cases hlt : i < n1
      · have hx : xs[i]? = some (xs[i]'(by rw [HN1.out]; exact hlt)) := List.getElem?_eq_getElem _
        have hy : ys[i]? = some (ys[i]'(by rw [HN2.out]; exact hlt)) := List.getElem?_eq_getElem _
        generalize xs[i]'(by rw [HN1.out]; exact hlt) = x at hx
        generalize ys[i]'(by rw [HN2.out]; exact hlt) = y at hy
        obtain ⟨g1, o1, cs1, rfl, hg1, k1, _, B1, d1, rfl, hb1⟩ := H1.out i x hx
        obtain ⟨g2, o2, cs2, rfl, hg2, k2, _, B2, d2, rfl, hb2⟩ := H2.out i y hy
        have p0 := (HO.out.cell (p := ⟨g1, o1 + i * 4 + 0, none⟩) hg1 (fun h => h)).trans (k1 0 _ rfl)
        have p1 := (HO.out.cell (p := ⟨g1, o1 + i * 4 + 1, none⟩) hg1 (fun h => h)).trans (k1 1 _ rfl)
        have p2 := (HO.out.cell (p := ⟨g1, o1 + i * 4 + 2, none⟩) hg1 (fun h => h)).trans (k1 2 _ rfl)
        have p3 := (HO.out.cell (p := ⟨g1, o1 + i * 4 + 3, none⟩) hg1 (fun h => h)).trans (k1 3 _ rfl)
        have q0 := (HO.out.cell (p := ⟨g2, o2 + i * 4 + 0, none⟩) hg2 (fun h => h)).trans (k2 0 _ rfl)
        have q1 := (HO.out.cell (p := ⟨g2, o2 + i * 4 + 1, none⟩) hg2 (fun h => h)).trans (k2 1 _ rfl)
        have q2 := (HO.out.cell (p := ⟨g2, o2 + i * 4 + 2, none⟩) hg2 (fun h => h)).trans (k2 2 _ rfl)
        have q3 := (HO.out.cell (p := ⟨g2, o2 + i * 4 + 3, none⟩) hg2 (fun h => h)).trans (k2 3 _ rfl)
        rw [Nat.add_zero] at p0 q0
        have HEQ := Lib.hid heq
        have HEL := fun u (hu : Only NoneOf wr u) => Lib.hid (equal_is u B1 B2 x.2.bs.length y.2.bs.length d1 d2 x.2.bs y.2.bs rfl rfl ((hb1.keep HO.out).keep hu) ((hb2.keep HO.out).keep hu) (hb x (List.mem_of_getElem? hx)))
        have HNX := fun (hxy : x = y) m' => Lib.hid (show ∃ i' m'' : Nat, Value.int .i64 ((i : Int) + 1) = .int .i64 i' ∧ i' ≤ n1 ∧ wr.drewN m' = w.drewN m'' ∧ ∀ j, j < i' → xs[j]? = ys[j]? from
          ⟨i + 1, m + m', by rw [show ((i + 1 : Nat) : Int) = (i : Int) + 1 by omega], by omega, by rw [HM.out, World.drewN_drewN], fun j hj => by
            rcases Nat.lt_or_ge j i with h | h
            · exact heq j h
            · obtain rfl : j = i := by omega
              rw [hx, hy, hxy]⟩)
        obtain ⟨xk, xst, xb, xd⟩ := x
        obtain ⟨yk, yst, yb, yd⟩ := y
        have HNE := fun (hxy : ((xk, ⟨xst, xb, xd⟩) : KV) ≠ (yk, ⟨yst, yb, yd⟩)) => Lib.hid (show decide (xs = ys) = false from decide_eq_false (take_ne hx hy hxy))
        simp only at p0 p1 p2 p3 q0 q1 q2 q3 HEL
        clear heq k1 k2 hb1 hb2
        cases hk : (xk.toList == yk.toList)
        · have HD := HNE (fun e => by injection e with e1 e2; rw [e1] at hk; simp at hk)
          go_wp2_with fail
          go_quiet (fail)
          go_wp2_with fail
          go_ret
          rw [HD.out]
          exact ⟨rfl, m + _, by rw [HM.out, World.drewN_drewN]⟩
        · have hkk : xk = yk := by rw [bytes_beq] at hk; exact of_decide_eq_true hk
          cases hs : (xst != yst)
          · have hss : xst = yst := bne_eq_false_iff_eq.1 hs
            cases hdd : (xd != yd)
            · have hde : xd = yd := bne_eq_false_iff_eq.1 hdd
              cases hbb : decide (xb = yb)
              · have HD := HNE (fun e => by injection e with e1 e2; injection e2 with e3 e4 e5; rw [e4] at hbb; simp at hbb)
                simp only [hbb] at HEL
                go_wp2_with fail
                go_quiet ((go_at_call 24; exact Calls.quiet_of (HEL _ (by repeat (first | exact Only.refl _ _ | refine Only.drewN ?_ _))).out))
                go_wp2_with fail
                go_ret
                rw [HD.out]
                exact ⟨rfl, m + _, by rw [HM.out, World.drewN_drewN]⟩
              · have HN := HNX (by rw [hkk, hss, hde, of_decide_eq_true hbb])
                simp only [hbb] at HEL
                go_wp2_with fail
                go_quiet ((go_at_call 24; exact Calls.quiet_of (HEL _ (by repeat (first | exact Only.refl _ _ | refine Only.drewN ?_ _))).out))
                go_wp2_with fail
                exact ⟨(HN _).out, by simp [intOf]; omega⟩
            · have HD := HNE (fun e => by injection e with e1 e2; injection e2 with e3 e4 e5; rw [e5] at hdd; simp at hdd)
              cases xd <;> cases yd
              case false.false => simp at hdd
              case true.true => simp at hdd
              all_goals
                go_wp2_with fail
                go_quiet (fail)
                go_wp2_with fail
                go_ret
                rw [HD.out]
                exact ⟨rfl, m + _, by rw [HM.out, World.drewN_drewN]⟩
          · have HD := HNE (fun e => by injection e with e1 e2; injection e2 with e3 e4 e5; rw [e3] at hs; simp at hs)
            go_wp2_with fail
            go_quiet (fail)
            go_wp2_with fail
            go_ret
            rw [HD.out]
            exact ⟨rfl, m + _, by rw [HM.out, World.drewN_drewN]⟩
      · obtain rfl : i = n1 := by omega
        have HALL := Lib.hid (take_all (by rw [HN1.out, HN2.out]) (fun j hj => heq j (by rw [← HN1.out]; exact hj)))
        go_wp2_with fail
        go_ret
        exact ⟨by rw [decide_eq_true HALL.out]; rfl, m, HM.out⟩
  · have hq : ((xs.length : Int) == (ys.length : Int)) = false := beq_eq_false_iff_ne.2 (by omega)
    have hd : decide (xs = ys) = false := decide_eq_false fun e => hne (by rw [e])
    rw [hd]
    clear h1 h2
    generalize xs.length = n1 at *
    generalize ys.length = n2 at *
    go_enter Try.func30, Try.ntmps30
    go_wp2_with fail
    go_ret
    exact ⟨rfl, 0, rfl⟩

end Go.Proofs.Ytnonnencdhogiaa
