/-
  Layer 14's law: what a call tells; alike.
-/
import Derived.Test.YtnonnencdhogiaaS22
namespace Go.Proofs.Ytnonnencdhogiaa
open Go.RowKit

/-- what a call tells -/
structure An where
  e : Int := 0
  n : Int := 0
  m : Int := 0
  is : Bool := false
  b : List UInt8 := []
  pairs : List (ByteArray × List UInt8) := []
  l : List KV := []
/-- its sizes are a machine's -/
structure An.Fit (x : An) : Prop where
  b : x.b.length ≤ 4611686018427387904
  pairs : x.pairs.length ≤ 4611686018427387904
  pair : ∀ p ∈ x.pairs, p.2.length ≤ 4611686018427387904
  l : x.l.length ≤ 4611686018427387904
  ver : ∀ p ∈ x.l, p.2.bs.length ≤ 4611686018427387904

def BytesV (w : World) (v : Value) (bs : List UInt8) : Prop := ∃ A c, v = .slice A bs.length c ∧ BytesAt w A bs
theorem BytesV.keep {w w' : World} {v : Value} {bs : List UInt8} (h : BytesV w v bs) (ho : Only NoneOf w w') : BytesV w' v bs := by
  obtain ⟨A, c, hv, hb⟩ := h
  exact ⟨A, c, hv, hb.keep ho⟩
theorem RowB.bytesV {w : World} {B : Nat} {v : Value} {l : List UInt8} (h : RowB w B v l) : BytesV w v l := by
  obtain ⟨A, c, hv, hb⟩ := h.at
  exact ⟨A, c, hv, hb⟩
theorem bytesV_nil (w : World) : BytesV w (.slice none 0 0) [] := ⟨none, 0, rfl, fun i c h => by simp at h⟩
theorem listAt_nil {α : Type} (sz : Nat) (E : World → α → List Value → Prop) (w : World) : ListAt sz E w (.slice none 0 0) [] := ⟨none, 0, rfl, fun i c h => by simp at h⟩

abbrev tellC (e n m : Int) (is : Bool) (vb vp vl : Value) : Array Value := #[.int .i64 e, .int .i64 n, .int .i64 m, .bool is, vb, vp, vl]
/-- a told thing in memory -/
def TAt (w : World) (cs : Array Value) (x : An) : Prop :=
  ∃ vb vp vl, cs = tellC x.e x.n x.m x.is vb vp vl ∧ BytesV w vb x.b ∧ ListAt 2 PairE w vp x.pairs ∧ ListAt 4 VerE w vl x.l
theorem TAt.keep {w w' : World} {cs : Array Value} {x : An} (h : TAt w cs x) (ho : Only NoneOf w w') : TAt w' cs x := by
  obtain ⟨vb, vp, vl, h1, h2, h3, h4⟩ := h
  exact ⟨vb, vp, vl, h1, h2.keep ho, h3.keep (fun x cs => PairE.keep ho x cs) ho, h4.keep (fun x cs => VerE.keep ho x cs) ho⟩

theorem drewN_only {w w' : World} (h : ∃ m, w' = w.drewN m) : Only NoneOf w w' := by
  obtain ⟨m, rfl⟩ := h
  exact (Only.refl _ _).drewN m

set_option maxRecDepth 100000 in
set_option maxHeartbeats 4000000 in
theorem alike_same (w : World) (cs ds : Array Value) (x : An) (hf : x.Fit) (h1 : TAt w cs x) (h2 : TAt w ds x) : Calls Try.prog 16 #[.agg cs, .agg ds] w fun e w' => e = .returned (.bool true) ∧ Only NoneOf w w' := by
  obtain ⟨vb, vp, vl, rfl, ⟨A, c, rfl, hb⟩, hp, hl⟩ := h1
  obtain ⟨vb', vp', vl', rfl, ⟨A', c', rfl, hb'⟩, hp', hl'⟩ := h2
  have hB := Blk.new w 33 (tellC x.e x.n x.m x.is (.slice A x.b.length c) vp vl)
  have hB1 := hB.alloc (.cells (tellC x.e x.n x.m x.is (.slice A' x.b.length c') vp' vl') 33)
  have hB2 := Blk.new' (w.alloc (.cells (tellC x.e x.n x.m x.is (.slice A x.b.length c) vp vl) 33)) 33 (tellC x.e x.n x.m x.is (.slice A' x.b.length c') vp' vl') (n := w.heap.size + 1) (by simp)
  have hO : Only NoneOf w ((w.alloc (.cells (tellC x.e x.n x.m x.is (.slice A x.b.length c) vp vl) 33)).alloc (.cells (tellC x.e x.n x.m x.is (.slice A' x.b.length c') vp' vl') 33)) := ((Only.refl _ _).alloc _).alloc _
  have HO := Lib.hid hO
  have HE := fun u (hu : Only NoneOf w u) => Lib.hid (equal_is u A A' x.b.length x.b.length c c' x.b x.b rfl rfl (hb.keep hu) (hb'.keep hu) hf.b)
  have HP := fun u (hu : Only NoneOf w u) => Lib.hid (pairs_alike u vp vp' x.pairs x.pairs (hp.keep (fun x cs => PairE.keep hu x cs) hu) (hp'.keep (fun x cs => PairE.keep hu x cs) hu) hf.pairs hf.pair)
  have HL := fun u (hu : Only NoneOf w u) => Lib.hid (versions_alike u vl vl' x.l x.l (hl.keep (fun x cs => VerE.keep hu x cs) hu) (hl'.keep (fun x cs => VerE.keep hu x cs) hu) hf.l hf.ver)
  simp only [decide_true] at HE HP HL
  have HB1 := Lib.hid hB1
  have HB2 := Lib.hid hB2
  have a0 := hB1.cellv 0 rfl
  have a1 := hB1.cellv 1 rfl
  have a2 := hB1.cellv 2 rfl
  have a3 := hB1.cellv 3 rfl
  have a4 := hB1.cellv 4 rfl
  have b0 := hB2.cellv 0 rfl
  have b1 := hB2.cellv 1 rfl
  have b2 := hB2.cellv 2 rfl
  have b3 := hB2.cellv 3 rfl
  have b4 := hB2.cellv 4 rfl
  clear hB hB1 hB2 hO hb hb' hp hp' hl hl'
  obtain ⟨xe, xn, xm, xi, xb, xp, xl⟩ := x
  simp only at *
  have q1 : (xe == xe) = true := by simp
  have q2 : (xn == xn) = true := by simp
  have q3 : (xm == xm) = true := by simp
  cases xi
  all_goals
    go_enter Try.func16, Try.ntmps16
    go_wp2_with fail
    refine (HE _ HO.out).out.mono ?_; rintro e w1 ⟨rfl, hw1⟩
    have HO1 := Lib.hid (drewN_only hw1)
    have HX1 := Lib.hid (HO.out.trans HO1.out)
    have c5 := (HB1.out.only HO1.out (fun h => h)).cellv 5 rfl
    have d5 := (HB2.out.only HO1.out (fun h => h)).cellv 5 rfl
    clear a0 a1 a2 a3 a4 b0 b1 b2 b3 b4 hw1
    go_wp2_with fail
    refine (HP _ HX1.out).out.mono ?_; rintro e w2 ⟨rfl, hw2⟩
    have HO2 := Lib.hid (HO1.out.trans (drewN_only hw2))
    have HX2 := Lib.hid (HX1.out.trans (drewN_only hw2))
    have c6 := (HB1.out.only HO2.out (fun h => h)).cellv 6 rfl
    have d6 := (HB2.out.only HO2.out (fun h => h)).cellv 6 rfl
    clear c5 d5 hw2
    go_wp2_with fail
    refine (HL _ HX2.out).out.mono ?_; rintro e w3 ⟨rfl, hw3⟩
    have HX3 := Lib.hid (HX2.out.trans (drewN_only hw3))
    clear c6 d6 hw3
    go_wp2_with fail
    go_ret
    exact ⟨rfl, HX3.out⟩

end Go.Proofs.Ytnonnencdhogiaa
