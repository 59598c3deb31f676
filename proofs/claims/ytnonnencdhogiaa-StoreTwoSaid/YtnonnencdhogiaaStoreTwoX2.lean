/-
  Layer 14's law StoreTwo walked.
-/
import Derived.Test.YtnonnencdhogiaaStoreTwoX1
namespace Go.Proofs.Ytnonnencdhogiaa
open Go.RowKit

theorem info65 : (Try.prog.info? 65).map (fun i => (i.zero, i.size, i.bytes)) = some (some (.slice none 0 0), 1, 24) := by kernel_rfl

/-- told things may be written, nothing else -/
def R33 (w w' : World) : Prop := Only (fun k => ∃ cs, Blk w k 33 cs) w w'
theorem r33_of (w w' : World) (h : Only NoneOf w w') : R33 w w' := h.mono fun _ _ h => h.elim
theorem r33_row {w : World} {b : Nat} {cs cs' : Array Value} (h : Blk w b 33 cs) : R33 w (w.setRow b cs') := (Only.refl (fun k => ∃ cs, Blk w k 33 cs) w).row (.inl ⟨cs, h⟩) _
theorem stay33 {T : Nat → Prop} {Q : World → Prop} {w w' : World} (h : ∀ w'', Only (T33 T w) w w'' → Q w'') (ho : R33 w w') : ∀ w'', Only (T33 T w') w' w'' → Q w'' := fun w'' ho' => h w'' (Only.step (S := T33 T w) (S' := T33 T w') (ho.mono fun _ _ hk => .inr hk) ho' fun k hk hh => by
  rcases hh with hh | ⟨cs, hb⟩
  · exact .inl hh
  · by_cases hs : ∃ cs, Blk w k 33 cs
    · exact .inr hs
    · exact .inr ⟨cs, blk_back ho hk hs hb⟩)

/-- the values of the region that asks the document -/
def WqT (bw i o nr cp : Nat) (A : Option Addr) (x : Stp) (Ab : Option Addr) (cb : Nat) (T : Nat → Prop) (R : List KV) (z : Value) : Nat → Value → World → Prop
  | 0, v, _ => v = .slice (some ⟨bw, 0, none⟩) 2 2
  | 1, v, _ => v = .int .i64 (i : Int)
  | 2, v, _ => v = .int .i64 (o : Int)
  | 3, v, _ => v = .pointer (some ⟨bw, o, none⟩)
  | 4, v, _ => v = .slice A nr cp
  | 5, v, _ => v = .agg (stepC x.kind x.key x.st (.slice Ab x.bs.length cb) x.dead x.tt)
  | 6, v, w => ∃ cs A2 c2 rs2, v = .tuple #[.agg cs, .slice A2 (List.length rs2) c2] ∧ RGood rs2 (stepR R x) ∧ ∀ w'', Only (T33 T w) w w'' → TAt w'' cs (ansR R x) ∧ RAt w'' A2 rs2
  | 7, v, w => ∃ cs A2 c2 rs2, v = .tuple #[.agg cs, .slice A2 (List.length rs2) c2] ∧ RGood rs2 (stepR R x) ∧ ∀ w'', Only (T33 T w) w w'' → TAt w'' cs (ansR R x) ∧ RAt w'' A2 rs2
  | 8, v, w => ∃ cs, v = .agg cs ∧ ∀ w'', Only (T33 T w) w w'' → TAt w'' cs (ansR R x)
  | 9, v, w => ∃ A2 c2 rs2, v = .slice A2 (List.length rs2) c2 ∧ RGood rs2 (stepR R x) ∧ ∀ w'', Only (T33 T w) w w'' → RAt w'' A2 rs2
  | 11, v, _ => v = z
  | _, _, _ => True
theorem WqT_keep {bw i o nr cp : Nat} {A : Option Addr} {x : Stp} {Ab : Option Addr} {cb : Nat} {T : Nat → Prop} {R : List KV} {z : Value} {j : Nat} {v : Value} {w w' : World} (h : WqT bw i o nr cp A x Ab cb T R z j v w) (ho : R33 w w') : WqT bw i o nr cp A x Ab cb T R z j v w' :=
  match j, h with
  | 0, h | 1, h | 2, h | 3, h | 4, h | 5, h | 11, h => h
  | 6, ⟨cs, A2, c2, rs2, h1, h2, h3⟩ => ⟨cs, A2, c2, rs2, h1, h2, stay33 h3 ho⟩
  | 7, ⟨cs, A2, c2, rs2, h1, h2, h3⟩ => ⟨cs, A2, c2, rs2, h1, h2, stay33 h3 ho⟩
  | 8, ⟨cs, h1, h3⟩ => ⟨cs, h1, stay33 h3 ho⟩
  | 9, ⟨A2, c2, rs2, h1, h2, h3⟩ => ⟨A2, c2, rs2, h1, h2, stay33 h3 ho⟩
  | 10, _ => trivial
  | _ + 12, _ => trivial
/-- the told thing's block -/
def G8 (W8 : World) (T : Nat → Prop) (ans : An) : Nat → Value → World → Prop
  | 0, _, w => Only NoneOf W8 w
  | 1, c, w => Only NoneOf W8 w ∧ ∃ b, c = .pointer (some ⟨b, 0, none⟩) ∧ W8.heap.size ≤ b ∧ Blk w b 33 (tellC 0 0 0 false (.slice none 0 0) (.slice none 0 0) (.slice none 0 0))
  | _ + 2, c, w => Only NoneOf W8 w ∧ ∃ b cs, c = .pointer (some ⟨b, 0, none⟩) ∧ W8.heap.size ≤ b ∧ Blk w b 33 cs ∧ (∃ A1 n1 c1 A2 n2 c2 A3 n3 c3, cs = tellC ans.e ans.n ans.m ans.is (.slice A1 n1 c1) (.slice A2 n2 c2) (.slice A3 n3 c3)) ∧ ∀ w'', Only (T33 T w) w w'' → TAt w'' cs ans
theorem G8.only {W8 : World} {T : Nat → Prop} {ans : An} {k : Nat} {c : Value} {w : World} (h : G8 W8 T ans k c w) : Only NoneOf W8 w := by
  match k, h with
  | 0, h => exact h
  | 1, h => exact h.1
  | _ + 2, h => exact h.1
theorem G8.keep {W8 : World} {T : Nat → Prop} {ans : An} {k : Nat} {c : Value} {w w' : World} (h : G8 W8 T ans k c w) (ho : Only NoneOf w w') : G8 W8 T ans k c w' := by
  match k, h with
  | 0, h => exact Only.trans h ho
  | 1, ⟨h1, b, h2, h3, h4⟩ => exact ⟨h1.trans ho, b, h2, h3, h4.only ho (fun h => h)⟩
  | _ + 2, ⟨h1, b, cs, h2, h3, h4, h5, h6⟩ => exact ⟨h1.trans ho, b, cs, h2, h3, h4.only ho (fun h => h), h5, stay33 h6 (r33_of _ _ ho)⟩
theorem G8.end {W8 : World} {T : Nat → Prop} {ans : An} {k : Nat} {c : Value} {w : World} (h : G8 W8 T ans k c w) (hk : 1 < k) : Only NoneOf W8 w ∧ ∃ b cs, c = .pointer (some ⟨b, 0, none⟩) ∧ W8.heap.size ≤ b ∧ Blk w b 33 cs ∧ (∃ A1 n1 c1 A2 n2 c2 A3 n3 c3, cs = tellC ans.e ans.n ans.m ans.is (.slice A1 n1 c1) (.slice A2 n2 c2) (.slice A3 n3 c3)) ∧ ∀ w'', Only (T33 T w) w w'' → TAt w'' cs ans := by
  match k, h, hk with
  | _ + 2, h, _ => exact h

/-- the values of the region that asks the store -/
def SqT (bs i o s : Nat) (x : Stp) (Ab : Option Addr) (cb lo : Nat) (R : List KV) (tc : Array Value) : Nat → Value → World → Prop
  | 0, v, _ => v = .slice (some ⟨bs, 0, none⟩) 2 2
  | 1, v, _ => v = .int .i64 (i : Int)
  | 2, v, _ => v = .int .i64 (o : Int)
  | 3, v, _ => v = .pointer (some ⟨bs, o, none⟩)
  | 4, v, _ => v = .pointer (some ⟨s, 0, none⟩)
  | 5, v, _ => v = .agg (stepC x.kind x.key x.st (.slice Ab x.bs.length cb) x.dead x.tt)
  | 6, v, w => TellV lo (ansR R x) v w
  | 7, v, _ => v = .agg tc
  | 8, v, _ => v = .bool true
  | 9, v, _ => v = .bool false
  | _, _, _ => True
theorem SqT_keep (bs i o s : Nat) (x : Stp) (Ab : Option Addr) (cb lo : Nat) (R : List KV) (tc : Array Value) {T : Nat → Prop} (hlo : ∀ k, T k → k < lo) (j : Nat) (v : Value) (w w' : World) (h : SqT bs i o s x Ab cb lo R tc j v w) (ho : Only T w w') : SqT bs i o s x Ab cb lo R tc j v w' :=
  match j, h with
  | 0, h | 1, h | 2, h | 3, h | 4, h | 5, h | 7, h | 8, h | 9, h => h
  | 6, ⟨cs, h1, h2⟩ => ⟨cs, h1, h2.turn ho hlo⟩
  | _ + 10, _ => trivial

def TwG (wb : World) (s i : Nat) (T U : Nat → Prop) (R : List KV) (x : Stp) (b6 b7 bs bw : Nat) (row tc sc wc : Array Value) : Nat → World → Prop
  | 0, w => StoR w s T U R i ∧ Only NoneOf wb w ∧ Blk w b6 29 row ∧ Blk w b7 33 tc ∧ Blk w bs 24 sc ∧ Blk w bw 65 wc
  | _ + 1, w => ∃ T', StoR w s T' U (stepR R x) (i + 1) ∧ Only T wb w ∧ (∀ k, T' k → T k ∨ wb.heap.size ≤ k) ∧ Blk w b6 29 row ∧ Blk w b7 33 tc ∧ Blk w bs 24 sc ∧ Blk w bw 65 wc
section
variable {wb : World} {s i : Nat} {T U : Nat → Prop} {R : List KV} {x : Stp} {b6 b7 bs bw : Nat} {row tc sc wc : Array Value} {k : Nat} {w : World}
theorem TwG.keep {w' : World} (h : TwG wb s i T U R x b6 b7 bs bw row tc sc wc k w) (ho : Only NoneOf w w') : TwG wb s i T U R x b6 b7 bs bw row tc sc wc k w' := by
  match k, h with
  | 0, ⟨h1, h2, h3, h4, h5, h6⟩ => exact ⟨h1.keep ho, h2.trans ho, h3.only ho (fun h => h), h4.only ho (fun h => h), h5.only ho (fun h => h), h6.only ho (fun h => h)⟩
  | _ + 1, ⟨T', h1, h2, h3, h4, h5, h6, h7⟩ => exact ⟨T', h1.keep ho, h2.step ho (fun _ _ h => h.elim), h3, h4.only ho (fun h => h), h5.only ho (fun h => h), h6.only ho (fun h => h), h7.only ho (fun h => h)⟩
theorem TwG.blks (h : TwG wb s i T U R x b6 b7 bs bw row tc sc wc k w) : Blk w b6 29 row ∧ Blk w b7 33 tc ∧ Blk w bs 24 sc ∧ Blk w bw 65 wc := by
  match k, h with
  | 0, ⟨_, _, h⟩ => exact h
  | _ + 1, ⟨_, _, _, _, h⟩ => exact h
theorem TwG.blk6 (h : TwG wb s i T U R x b6 b7 bs bw row tc sc wc k w) : Blk w b6 29 row := h.blks.1
theorem TwG.blk7 (h : TwG wb s i T U R x b6 b7 bs bw row tc sc wc k w) : Blk w b7 33 tc := h.blks.2.1
theorem TwG.turned (h : TwG wb s i T U R x b6 b7 bs bw row tc sc wc k w) : Only T wb w := by
  match k, h with
  | 0, ⟨_, h2, _⟩ => exact h2.mono fun _ _ h => h.elim
  | _ + 1, ⟨_, _, h2, _⟩ => exact h2
theorem TwG.end (h : TwG wb s i T U R x b6 b7 bs bw row tc sc wc k w) (hk : 0 < k) : ∃ T', StoR w s T' U (stepR R x) (i + 1) ∧ Only T wb w ∧ (∀ k, T' k → T k ∨ wb.heap.size ≤ k) := by
  match k, h, hk with
  | _ + 1, ⟨T', h1, h2, h3, _⟩, _ => exact ⟨T', h1, h2, h3⟩
end

/-- the values at the end -/
def EndT (bs bw s0 s1 n0 n1 c0 c1 : Nat) (A0 A1 : Option Addr) (R0 R1 : List KV) : Nat → Value → World → Prop
  | 0, v, _ => v = .slice (some ⟨bs, 0, none⟩) 2 2
  | 1, v, _ => v = .pointer (some ⟨bs, 0, none⟩)
  | 2, v, _ => v = .pointer (some ⟨s0, 0, none⟩)
  | 3, v, w => ListAt 4 VerE w v (versR R0)
  | 4, v, _ => v = .slice (some ⟨bw, 0, none⟩) 2 2
  | 5, v, _ => v = .pointer (some ⟨bw, 0, none⟩)
  | 6, v, _ => v = .slice A0 n0 c0
  | 7, v, w => ListAt 4 VerE w v (versR R0)
  | 8, v, _ => v = .bool true
  | 9, v, _ => v = .bool true
  | 10, v, _ => v = .slice (some ⟨bs, 0, none⟩) 2 2
  | 11, v, _ => v = .pointer (some ⟨bs, 1, none⟩)
  | 12, v, _ => v = .pointer (some ⟨s1, 0, none⟩)
  | 13, v, w => ListAt 4 VerE w v (versR R1)
  | 14, v, _ => v = .slice (some ⟨bw, 0, none⟩) 2 2
  | 15, v, _ => v = .pointer (some ⟨bw, 1, none⟩)
  | 16, v, _ => v = .slice A1 n1 c1
  | 17, v, w => ListAt 4 VerE w v (versR R1)
  | 18, v, _ => v = .bool true
  | 19, v, _ => v = .bool true
  | _, _, _ => True
theorem EndT_keep (bs bw s0 s1 n0 n1 c0 c1 : Nat) (A0 A1 : Option Addr) (R0 R1 : List KV) (j : Nat) (v : Value) (w w' : World) (h : EndT bs bw s0 s1 n0 n1 c0 c1 A0 A1 R0 R1 j v w) (ho : Only NoneOf w w') : EndT bs bw s0 s1 n0 n1 c0 c1 A0 A1 R0 R1 j v w' :=
  match j, h with
  | 0, h | 1, h | 2, h | 4, h | 5, h | 6, h | 8, h | 9, h | 10, h | 11, h | 12, h | 14, h | 15, h | 16, h | 18, h | 19, h => h
  | 3, h => ListAt.keep h (fun x cs => VerE.keep ho x cs) ho
  | 7, h => ListAt.keep h (fun x cs => VerE.keep ho x cs) ho
  | 13, h => ListAt.keep h (fun x cs => VerE.keep ho x cs) ho
  | 17, h => ListAt.keep h (fun x cs => VerE.keep ho x cs) ho
  | _ + 20, _ => trivial

theorem twoV_get {o : Nat} (ho : o < 2) (x y : Value) : (twoV o x y)[o]? = some x := by
  have : o = 0 ∨ o = 1 := by omega
  rcases this with rfl | rfl <;> rfl
theorem twoV_set {o : Nat} (ho : o < 2) (x y z : Value) : (twoV o x y).setIfInBounds o z = twoV o z y := by
  have : o = 0 ∨ o = 1 := by omega
  rcases this with rfl | rfl <;> rfl

set_option maxRecDepth 100000 in
set_option maxHeartbeats 8000000 in
theorem two_walk (A : Option Addr) (cap : Nat) (xs : List Stp) (w : World) (hX : StepsAt w A xs) (hfew : xs.length ≤ 1759218604390) : Calls Try.prog 11 #[.slice A xs.length cap] w (Ans (.bool true) w) := by
  have HFX := fun u => Lib.hid (fixed_is u)
  have HX := Lib.hid hX
  have HNW := fun u U hU => Lib.hid (newR u U hU)
  obtain ⟨n, hn⟩ : ∃ n, xs.length = n := ⟨_, rfl⟩
  have HN := Lib.hid hn
  rw [hn] at hfew ⊢
  clear hX hn
  go_enter Try.func11, Try.ntmps11
  go_wp2_with fail
  refine (HFX w).out.mono ?_; rintro e w1 ⟨rfl, ho1⟩
  have HO1 := Lib.hid ho1
  clear ho1
  go_wp2_with fail
  refine (HNW w1 NoneOf (fun _ h => h.elim)).out.mono ?_; rintro e w2 ⟨rfl, T0, hs0, ho2, ht0⟩
  have HS0 := Lib.hid hs0
  have HT0 := Lib.hid ht0
  have HO2 := Lib.hid ho2
  have HL0 := Lib.hid (show ∀ k, T0 k → k < w2.heap.size from fun k hk => hs0.lt hk)
  obtain ⟨s0, hse0⟩ : ∃ s0, w1.heap.size + 1 = s0 := ⟨_, rfl⟩
  rw [hse0] at HS0 ⊢
  clear hs0 ho2 ht0 hse0
  go_wp2_with fail
  refine (HNW w2 T0 HL0.out).out.mono ?_; rintro e w3 ⟨rfl, T1, hs1, ho3, ht1⟩
  have HS1 := Lib.hid hs1
  have HT1 := Lib.hid ht1
  have HO3 := Lib.hid ho3
  obtain ⟨s1, hse1⟩ : ∃ s1, w2.heap.size + 1 = s1 := ⟨_, rfl⟩
  rw [hse1] at HS1 ⊢
  clear hs1 ho3 ht1 hse1 HNW
  go_wp2_with fail
  obtain ⟨W4, hW4⟩ : ∃ W4, (((w3.alloc (.cells #[.pointer (some ⟨s0, 0, none⟩), .pointer (some ⟨s1, 0, none⟩)] 24)).alloc (.cells #[] 27)).alloc (.cells #[] 27)).alloc (.cells #[.slice (some ⟨w3.heap.size + 1, 0, none⟩) 0 0, .slice (some ⟨w3.heap.size + 1 + 1, 0, none⟩) 0 0] 65) = W4 := ⟨_, rfl⟩
  have HB4 := Lib.hid (show Blk W4 w3.heap.size 24 #[.pointer (some ⟨s0, 0, none⟩), .pointer (some ⟨s1, 0, none⟩)] by rw [← hW4]; exact (((Blk.new w3 24 #[.pointer (some ⟨s0, 0, none⟩), .pointer (some ⟨s1, 0, none⟩)]).alloc _).alloc _).alloc _)
  have HW4b := Lib.hid (show Blk W4 (w3.heap.size + 1 + 1 + 1) 65 #[.slice (some ⟨w3.heap.size + 1, 0, none⟩) 0 0, .slice (some ⟨w3.heap.size + 1 + 1, 0, none⟩) 0 0] by rw [← hW4]; exact Blk.new' _ _ _ (by simp))
  have HO4 := Lib.hid (show Only NoneOf w3 W4 by rw [← hW4]; exact ((((Only.refl _ _).alloc _).alloc _).alloc _).alloc _)
  have hz4 : W4.heap.size = w3.heap.size + 4 := by rw [← hW4]; simp
  rw [hW4]
  clear hW4
  have HR0 := Lib.hid (show TwRel w s0 s1 w3.heap.size (w3.heap.size + 1 + 1 + 1) n (.int .i64 0) W4 from by
    have hw1 := HO1.out.size
    have hw2 := HO2.out.size
    have hw3 := HO3.out.size
    have hl1 : ∀ k, T1 k → k < w3.heap.size := fun k hk => HS1.out.lt hk
    refine ⟨0, T0, T1, [], [], _, _, 0, 0, [], [], rfl, by omega, ⟨⟨rfl, GoodR.nil⟩, ⟨rfl, GoodR.nil⟩, HS0.out.other (HO3.out.trans HO4.out) (fun _ h => h.elim) (fun k hk => ?_), HS1.out.other HO4.out (fun _ h => h.elim) (fun k hk => ?_), fun w' _ => ⟨fun i r hr => by simp at hr, fun i r hr => by simp at hr⟩, ((HO1.out.trans HO2.out).trans HO3.out).trans HO4.out, ⟨fun k hk => ?_, fun k hk => ?_, by omega⟩, ⟨fun hk => ?_, fun hk => ?_, by omega, by omega⟩⟩, HB4.out, HW4b.out⟩
    · rcases hk with hk | hk
      · have := hl1 k hk; have := HT1.out k hk; exact ⟨by omega, .inr this⟩
      · subst hk; exact ⟨by omega, .inr (by omega)⟩
    · rcases hk with hk | hk
      · have := HL0.out k hk; exact ⟨by omega, .inl hk⟩
      · subst hk; exact ⟨by omega, .inr (by omega)⟩
    · have := HT0.out k hk; omega
    · have := HT1.out k hk; omega
    · have := HL0.out _ hk; omega
    · have := hl1 _ hk; omega)
  obtain ⟨bs, hbs⟩ : ∃ bs, w3.heap.size = bs := ⟨_, rfl⟩
  rw [hbs] at HR0 ⊢
  obtain ⟨bw, hbw⟩ : ∃ bw, bs + 1 + 1 + 1 = bw := ⟨_, rfl⟩
  rw [hbw] at HR0 ⊢
  clear HS0 HS1 HT0 HT1 HO1 HO2 HO3 HO4 HB4 HW4b HL0 hz4 hbs hbw
  go_wp2_with fail
  go_loopw [19] (fun vi wr => TwRel w s0 s1 bs bw n vi wr) (fun vi _ => n - (intOf vi).toNat)
  case atStart => exact HR0.out
  case round =>
    clear HR0
    have h0 := hrel
    obtain ⟨j0, _, _, _, _, _, _, _, _, _, _, rfl, hi0, _⟩ := h0
    by_cases hlt : j0 < n
    · obtain ⟨pp, ho⟩ : ∃ pp, j0 % 2 = pp := ⟨_, rfl⟩
      have ho2 : pp < 2 := by omega
      have hidx : ¬ (2 : Int) ≤ (pp : Int) := by omega
      have hmod : (j0 : Int).tmod 2 = (pp : Int) := by rw [← ho]; rfl
      obtain ⟨j9, s, t, T, Z, R, Q, Aa, Ba, cp, cq, rs, qs, hv, hi, hst, hbs, hbw, hback⟩ := hrel.view pp ho2
      have hii : j0 = j9 := by injection hv with _ hv; omega
      subst hii
      have HST := Lib.hid hst
      have HBS := Lib.hid hbs
      have HBW := Lib.hid hbw
      have HBACK := Lib.hid hback
      have hrn : rs.length ≤ j0 := by rw [hst.g1.len]; exact hst.s1.len
      have hx : xs[j0]? = some (xs[j0]'(by rw [HN.out]; exact hlt)) := List.getElem?_eq_getElem _
      generalize xs[j0]'(by rw [HN.out]; exact hlt) = x at hx
      obtain ⟨g, off, Ab, cb, rfl, hg, d0, d1, d2, d3, d4, d5, hby, hks⟩ := (HX.out.keep hst.only) j0 x hx
      have HW8 := Lib.hid ((Only.refl NoneOf wr).alloc (.cells (stepC x.kind x.key x.st (.slice Ab x.bs.length cb) x.dead x.tt) 29))
      have HB6 := Lib.hid (Blk.new wr 29 (stepC x.kind x.key x.st (.slice Ab x.bs.length cb) x.dead x.tt))
      have HBY := Lib.hid hby
      have hbwr := hbw.lt
      have hbwl : bw < (wr.alloc (.cells (stepC x.kind x.key x.st (.slice Ab x.bs.length cb) x.dead x.tt) 29)).heap.size := by simp; omega
      have HTL := Lib.hid (hst.tlt hbwr)
      have HWN := fun (u : World) (hu : Only NoneOf wr u) => want33_is u (TwT T Z bw) Aa cp rs R x Ab cb (fun k hk => Nat.lt_of_lt_of_le (HTL.out k hk) hu.size) hst.g1 (fun w' ho' => (hst.stay w' (t33_back hu ho')).1) (by omega) hks (hby.keep hu)
      obtain ⟨nr, hnr⟩ : ∃ nr, rs.length = nr := ⟨_, rfl⟩
      have HNR := Lib.hid hnr
      have cw8 : (wr.alloc (.cells (stepC x.kind x.key x.st (.slice Ab x.bs.length cb) x.dead x.tt) 29)).cell? ⟨bw, pp, none⟩ = some (.slice Aa nr cp) := by
        rw [(hbw.alloc (.cells (stepC x.kind x.key x.st (.slice Ab x.bs.length cb) x.dead x.tt) 29)).cell, ← hnr]; exact twoV_get ho2 _ _
      simp only [hnr] at HWN
      have HWN := fun (u : World) (hu : Only NoneOf wr u) => Lib.hid (HWN u hu)
      clear hrel hi0 hv hst hbs hbw hback hx hby hnr
      go_upto_region 8 with (fail)
      refine wp_region_head3 7 12 70 [] (fun _ => none) (fun i => match i with | 10 => some 0 | 11 => some 1 | _ => none) NoneOf R33 (G8 (wr.alloc (.cells (stepC x.kind x.key x.st (.slice Ab x.bs.length cb) x.dead x.tt) 29)) (TwT T Z bw) (ansR R x)) (WqT bw j0 pp nr cp Aa x Ab cb (TwT T Z bw) R (.slice (some ⟨g, off, none⟩) n cap)) rfl (by kernel_rfl) (by kernel_rfl) ?hall ?hgv (fun i v w w' h ho => WqT_keep h ho) r33_of (by exact (Only.refl _ _).drew) ?hstep ?hend
      case hall =>
        intro i o hi ho
        have : i = 0 ∨ i = 1 ∨ i = 2 ∨ i = 3 ∨ i = 4 ∨ i = 5 ∨ i = 6 ∨ i = 7 ∨ i = 8 ∨ i = 9 ∨ i = 10 ∨ i = 11 := by omega
        rcases this with rfl | rfl | rfl | rfl | rfl | rfl | rfl | rfl | rfl | rfl | rfl | rfl <;> (obtain rfl := Option.some.inj (ho : some _ = some o); rfl)
      case hgv => intro g hg; cases hg
      case hstep =>
        intro i o hi ho a u k hk hik hs hs0 ht
        have hku := G8.only hk
        have e4 : a.tmps.getD 4 undef = .slice (some ⟨bw, 0, none⟩) 2 2 := hs 4 (of_decide_eq_true (by kernel_rfl))
        have e5 : a.tmps.getD 5 undef = .int .i64 (j0 : Int) := hs 5 (of_decide_eq_true (by kernel_rfl))
        have e6 : a.tmps.getD 6 undef = .pointer (some ⟨wr.heap.size, 0, none⟩) := hs 6 (of_decide_eq_true (by kernel_rfl))
        have cwu := (hku.cell (p := ⟨bw, pp, none⟩) hbwl (fun h => h)).trans cw8
        have : i = 0 ∨ i = 1 ∨ i = 2 ∨ i = 3 ∨ i = 4 ∨ i = 5 ∨ i = 6 ∨ i = 7 ∨ i = 8 ∨ i = 9 ∨ i = 10 ∨ i = 11 := by omega
        rcases this with rfl | rfl | rfl | rfl | rfl | rfl | rfl | rfl | rfl | rfl | rfl | rfl
        · obtain rfl := Option.some.inj (ho : some _ = some o)
          rw [if_pos (by decide), if_neg (by decide)]
          exact left2_value (.slice (some ⟨bw, 0, none⟩) 2 2) (by simp [go_sem, e4]) rfl rfl hk
        · obtain rfl := Option.some.inj (ho : some _ = some o)
          rw [if_pos (by decide), if_neg (by decide)]
          exact left2_value (.int .i64 (j0 : Int)) (by simp [go_sem, e5]) rfl rfl hk
        · obtain rfl := Option.some.inj (ho : some _ = some o)
          rw [if_pos (by decide), if_neg (by decide)]
          have s1 : a.tmps.getD 26 undef = .int .i64 (j0 : Int) := ht 1 (by omega) (by kernel_rfl)
          exact left2_value (.int .i64 (pp : Int)) (by simp [go_sem, s1, hmod]) rfl rfl hk
        · obtain rfl := Option.some.inj (ho : some _ = some o)
          rw [if_pos (by decide), if_neg (by decide)]
          have s0 : a.tmps.getD 25 undef = .slice (some ⟨bw, 0, none⟩) 2 2 := ht 0 (by omega) (by kernel_rfl)
          have s2 : a.tmps.getD 27 undef = .int .i64 (pp : Int) := ht 2 (by omega) (by kernel_rfl)
          exact left2_value (.pointer (some ⟨bw, pp, none⟩)) (by simp [go_sem, s0, s2, hidx]) rfl rfl hk
        · obtain rfl := Option.some.inj (ho : some _ = some o)
          rw [if_pos (by decide), if_neg (by decide)]
          have s3 : a.tmps.getD 28 undef = .pointer (some ⟨bw, pp, none⟩) := ht 3 (by omega) (by kernel_rfl)
          exact left2_value (.slice Aa nr cp) (by simp [go_sem, s3, cwu]) rfl rfl hk
        · obtain rfl := Option.some.inj (ho : some _ = some o)
          rw [if_pos (by decide), if_neg (by decide)]
          exact left2_load 29 (.tmp 6) wr.heap.size 29 _ _ rfl e6 (HB6.out.only hku (fun h => h)) Try.underlying29 rfl info29 rfl rfl hk
        · obtain rfl := Option.some.inj (ho : some _ = some o)
          rw [if_pos (by decide), if_neg (by decide)]
          have s4c : a.tmps.getD 29 undef = .slice Aa nr cp := ht 4 (by omega) (by kernel_rfl)
          have s5c : a.tmps.getD 30 undef = .agg (stepC x.kind x.key x.st (.slice Ab x.bs.length cb) x.dead x.tt) := ht 5 (by omega) (by kernel_rfl)
          exact left2_calls 32 #[.slice Aa nr cp, .agg (stepC x.kind x.key x.st (.slice Ab x.bs.length cb) x.dead x.tt)] (by simp [go_sem, s4c, s5c]) ((HWN u (HW8.out.trans hku)).out.mono (fun e w' ⟨cs, A2, c2, rs2, he, hg, ho, hs⟩ => ⟨_, he, ⟨cs, A2, c2, rs2, rfl, hg, hs⟩, ho⟩)) rfl (fun w' ho => hk.keep ho)
        · obtain rfl := Option.some.inj (ho : some _ = some o)
          rw [if_pos (by decide), if_neg (by decide)]
          obtain ⟨cs, A2, c2, rs2, s6, hg, hs⟩ : ∃ cs A2 c2 rs2, a.tmps.getD 31 undef = .tuple #[.agg cs, .slice A2 (List.length rs2) c2] ∧ RGood rs2 (stepR R x) ∧ ∀ w'', Only (T33 (TwT T Z bw) u) u w'' → TAt w'' cs (ansR R x) ∧ RAt w'' A2 rs2 := ht 6 (by omega) (by kernel_rfl)
          exact left2_value (.tuple #[.agg cs, .slice A2 (List.length rs2) c2]) (by simp [go_sem, s6]) ⟨cs, A2, c2, rs2, rfl, hg, hs⟩ rfl hk
        · obtain rfl := Option.some.inj (ho : some _ = some o)
          rw [if_pos (by decide), if_neg (by decide)]
          obtain ⟨cs, A2, c2, rs2, s7, hg, hs⟩ : ∃ cs A2 c2 rs2, a.tmps.getD 24 undef = .tuple #[.agg cs, .slice A2 (List.length rs2) c2] ∧ RGood rs2 (stepR R x) ∧ ∀ w'', Only (T33 (TwT T Z bw) u) u w'' → TAt w'' cs (ansR R x) ∧ RAt w'' A2 rs2 := ht 7 (by omega) (by kernel_rfl)
          exact left2_value (.agg cs) (by simp [go_sem, s7]) ⟨cs, rfl, fun w'' ho => (hs w'' ho).1⟩ rfl hk
        · obtain rfl := Option.some.inj (ho : some _ = some o)
          rw [if_pos (by decide), if_neg (by decide)]
          obtain ⟨cs, A2, c2, rs2, s7, hg, hs⟩ : ∃ cs A2 c2 rs2, a.tmps.getD 24 undef = .tuple #[.agg cs, .slice A2 (List.length rs2) c2] ∧ RGood rs2 (stepR R x) ∧ ∀ w'', Only (T33 (TwT T Z bw) u) u w'' → TAt w'' cs (ansR R x) ∧ RAt w'' A2 rs2 := ht 7 (by omega) (by kernel_rfl)
          exact left2_value (.slice A2 (List.length rs2) c2) (by simp [go_sem, s7]) ⟨A2, c2, rs2, rfl, hg, fun w'' ho => (hs w'' ho).2⟩ rfl hk
        · obtain rfl := Option.some.inj (ho : some _ = some o)
          rw [if_pos (by decide), if_pos (by decide)]
          obtain rfl : k = 0 := by
            rcases hik with h | h
            · cases h
            · injection h with h; exact h.symm
          exact leftZ_new (.pointer (some ⟨u.heap.size, 0, none⟩)) (u.alloc (.cells (tellC 0 0 0 false (.slice none 0 0) (.slice none 0 0) (.slice none 0 0)) 33)) (by simp [go_sem]) ((Only.refl _ _).alloc _) trivial ⟨hku.alloc _, u.heap.size, rfl, hku.size, Blk.new _ _ _⟩
        · obtain rfl := Option.some.inj (ho : some _ = some o)
          rw [if_neg (by decide)]
          obtain rfl : k = 1 := by
            rcases hik with h | h
            · cases h
            · injection h with h; exact h.symm
          obtain ⟨ho, b, hc, hl, hb⟩ := hk
          obtain ⟨cs, s8, htd⟩ : ∃ cs, a.tmps.getD 32 undef = .agg cs ∧ ∀ w'', Only (T33 (TwT T Z bw) u) u w'' → TAt w'' cs (ansR R x) := ht 8 (by omega) (by kernel_rfl)
          obtain ⟨E1, n1, c1, E2, n2, c2, E3, n3, c3, hcs⟩ := (htd u (Only.refl _ _)).cells
          subst hcs
          have hr33 := r33_row hb (cs' := tellC (ansR R x).e (ansR R x).n (ansR R x).m (ansR R x).is (.slice E1 n1 c1) (.slice E2 n2 c2) (.slice E3 n3 c3))
          refine leftS_row 33 (.tmp 7) (.tmp 32) rfl b _ hc s8 33 (tellC 0 0 0 false (.slice none 0 0) (.slice none 0 0) (.slice none 0 0)) hb info33 rfl (one_tell _ _ _ _ _ _ _ _ _ _ _ _ _) rfl ⟨hs0 rfl, ⟨ho.row (.inr hl) _, b, _, hc, hl, hb.row _, ⟨_, _, _, _, _, _, _, _, _, rfl⟩, stay33 htd hr33⟩, hr33⟩
      case hend =>
        intro V' w5 k c hc hk hkt hV'
        have v0 : V' 0 = .slice (some ⟨bw, 0, none⟩) 2 2 := hV' 0 (by omega)
        have v1 : V' 1 = .int .i64 (j0 : Int) := hV' 1 (by omega)
        have v2 : V' 2 = .int .i64 (pp : Int) := hV' 2 (by omega)
        have v3 : V' 3 = .pointer (some ⟨bw, pp, none⟩) := hV' 3 (by omega)
        have v4 : V' 4 = .slice Aa nr cp := hV' 4 (by omega)
        have v5 : V' 5 = .agg (stepC x.kind x.key x.st (.slice Ab x.bs.length cb) x.dead x.tt) := hV' 5 (by omega)
        obtain ⟨pv6, v6⟩ : ∃ pv, V' 6 = pv := ⟨_, rfl⟩
        obtain ⟨pv7, v7⟩ : ∃ pv, V' 7 = pv := ⟨_, rfl⟩
        obtain ⟨pv8, v8⟩ : ∃ pv, V' 8 = pv := ⟨_, rfl⟩
        obtain ⟨A2, cq2, rs2, v9, hg2, hra2⟩ : ∃ A2 c2 rs2, V' 9 = .slice A2 (List.length rs2) c2 ∧ RGood rs2 (stepR R x) ∧ ∀ w'', Only (T33 (TwT T Z bw) w5) w5 w'' → RAt w'' A2 rs2 := hV' 9 (by omega)
        obtain ⟨pv10, v10⟩ : ∃ pv, V' 10 = pv := ⟨_, rfl⟩
        have v11 : V' 11 = .slice (some ⟨g, off, none⟩) n cap := hV' 11 (by omega)
        have hc10 : c = V' 10 := hc 10 (by omega) (by kernel_rfl)
        have hk2 : 1 < k := hkt 11 1 (by omega) rfl
        change wpList _ _ _ _ (Act.put (Act.put (Act.put (Act.put (Act.put (Act.put (Act.put (Act.put (Act.put (Act.put (Act.put (Act.put _ (some 25) (V' 0)) (some 26) (V' 1)) (some 27) (V' 2)) (some 28) (V' 3)) (some 29) (V' 4)) (some 30) (V' 5)) (some 31) (V' 6)) (some 24) (V' 7)) (some 32) (V' 8)) (some 33) (V' 9)) (some 7) (V' 10)) (some 0) (V' 11)) _
        obtain ⟨hou, b7, tc, hc7, hlb7, hb7, ⟨E1, n1, c1, E2, n2, c2, E3, n3, c3, htc⟩, htd⟩ := G8.end hk hk2
        have v10b : V' 10 = .pointer (some ⟨b7, 0, none⟩) := hc10.symm.trans hc7
        rw [v10b] at v10
        subst v10
        rw [v0, v1, v2, v3, v4, v5, v6, v7, v8, v9, v10b, v11]
        simp only [Act.put, List.setIfInBounds_toArray, List.set_cons_zero, List.set_cons_succ]
        simp only [List.drop_succ_cons, List.drop_zero]
        clear hV' hc hk hkt hc10 hc7 hk2 v10b v0 v1 v2 v3 v4 v5 v6 v7 v8 v9 v11
        obtain ⟨te, hte⟩ : ∃ te, (ansR R x).e = te := ⟨_, rfl⟩
        obtain ⟨tn, htn⟩ : ∃ tn, (ansR R x).n = tn := ⟨_, rfl⟩
        obtain ⟨tm, htm⟩ : ∃ tm, (ansR R x).m = tm := ⟨_, rfl⟩
        obtain ⟨ti, hti⟩ : ∃ ti, (ansR R x).is = ti := ⟨_, rfl⟩
        rw [hte, htn, htm, hti] at htc
        subst htc
        have HO5 := Lib.hid (HW8.out.trans hou)
        have hsz5 := HO5.out.size
        have hz8 : (wr.alloc (.cells (stepC x.kind x.key x.st (.slice Ab x.bs.length cb) x.dead x.tt) 29)).heap.size = wr.heap.size + 1 := by simp
        have HST5 := Lib.hid (HST.out.keep HO5.out)
        have HTE := Lib.hid (fun w'' (ho : Only T w5 w'') => htd w'' (ho.mono fun _ _ h => .inl (.inl h)))
        have HRA5 := Lib.hid hra2
        have HG5 := Lib.hid hg2
        have hlo : ∀ k, T k → k < wr.heap.size := fun k hk => HST.out.s1.lt hk
        have ht6 : ¬ T wr.heap.size := fun h => by have := hlo _ h; omega
        have ht7 : ¬ T b7 := fun h => by have := hlo _ h; omega
        have htbs : ¬ T bs := HST.out.far.1
        have htbw : ¬ T bw := by
          obtain ⟨_, _, _, _, _, ⟨_, h2'⟩, _⟩ := HST.out.s1
          exact (h2' bw (.inr rfl)).2
        have hN : j0 < NMAX := by unfold NMAX; omega
        have HBC := Lib.hid (HBY.out.keep HO5.out)
        have HFIT := Lib.hid (ansR_fit HST.out.s1 (by unfold NMAX; omega) x)
        have HG0 := Lib.hid (show TwG w5 s j0 T (fun k => Z k ∨ k = bw) R x wr.heap.size b7 bs bw (stepC x.kind x.key x.st (.slice Ab x.bs.length cb) x.dead x.tt) (tellC te tn tm ti (.slice E1 n1 c1) (.slice E2 n2 c2) (.slice E3 n3 c3)) (twoV pp (.pointer (some ⟨s, 0, none⟩)) (.pointer (some ⟨t, 0, none⟩))) (twoV pp (.slice Aa rs.length cp) (.slice Ba qs.length cq)) 0 w5 from
          ⟨HST5.out.s1, Only.refl _ _, HB6.out.only hou (fun h => h), hb7, HBS.out.only HO5.out (fun h => h), HBW.out.only HO5.out (fun h => h)⟩)
        have hbwl5 : bw < w5.heap.size := by omega
        clear hte htn htm hti htd hra2 hg2 hou hb7 hz8
        go_upto_region 9 with (fail)
        refine wp_region_head2 10 70 [] (fun _ => none) (fun i => match i with | 6 => some 0 | _ => none) T (TwG w5 s j0 T (fun k => Z k ∨ k = bw) R x wr.heap.size b7 bs bw (stepC x.kind x.key x.st (.slice Ab x.bs.length cb) x.dead x.tt) (tellC te tn tm ti (.slice E1 n1 c1) (.slice E2 n2 c2) (.slice E3 n3 c3)) (twoV pp (.pointer (some ⟨s, 0, none⟩)) (.pointer (some ⟨t, 0, none⟩))) (twoV pp (.slice Aa rs.length cp) (.slice Ba qs.length cq))) (SqT bs j0 pp s x Ab cb wr.heap.size R (tellC te tn tm ti (.slice E1 n1 c1) (.slice E2 n2 c2) (.slice E3 n3 c3))) rfl (by kernel_rfl) (by kernel_rfl) ?hskip ?hgv (SqT_keep bs j0 pp s x Ab cb wr.heap.size R (tellC te tn tm ti (.slice E1 n1 c1) (.slice E2 n2 c2) (.slice E3 n3 c3)) hlo) (HG0.out.keep (Only.refl _ _).drew) ?hstep ?hend
        case hskip =>
          intro i o hi ho hw k
          have : i = 0 ∨ i = 1 ∨ i = 2 ∨ i = 3 ∨ i = 4 ∨ i = 5 ∨ i = 6 ∨ i = 7 ∨ i = 8 ∨ i = 9 := by omega
          rcases this with rfl | rfl | rfl | rfl | rfl | rfl | rfl | rfl | rfl | rfl
          · rfl
          · rfl
          · rfl
          · rfl
          · rfl
          · rfl
          · obtain rfl := Option.some.inj (ho : some _ = some o); exact absurd (show true = false from hw) (by decide)
          · rfl
          · rfl
          · rfl
        case hgv =>
          intro g hg v w h
          cases hg
        case hstep =>
          intro i o hi ho a u k hk hik hs ht
          have e3 : a.tmps.getD 3 undef = .slice (some ⟨bs, 0, none⟩) 2 2 := hs 3 (of_decide_eq_true (by kernel_rfl))
          have e5 : a.tmps.getD 5 undef = .int .i64 (j0 : Int) := hs 5 (of_decide_eq_true (by kernel_rfl))
          have e6 : a.tmps.getD 6 undef = .pointer (some ⟨wr.heap.size, 0, none⟩) := hs 6 (of_decide_eq_true (by kernel_rfl))
          have e7 : a.tmps.getD 7 undef = .pointer (some ⟨b7, 0, none⟩) := hs 7 (of_decide_eq_true (by kernel_rfl))
          have csu : u.cell? ⟨bs, pp, none⟩ = some (.pointer (some ⟨s, 0, none⟩)) := by rw [hk.blks.2.2.1.cell]; exact twoV_get ho2 _ _
          have : i = 0 ∨ i = 1 ∨ i = 2 ∨ i = 3 ∨ i = 4 ∨ i = 5 ∨ i = 6 ∨ i = 7 ∨ i = 8 ∨ i = 9 := by omega
          rcases this with rfl | rfl | rfl | rfl | rfl | rfl | rfl | rfl | rfl | rfl
          · obtain rfl := Option.some.inj (ho : some _ = some o)
            rw [if_pos (by decide)]
            exact left2_value (.slice (some ⟨bs, 0, none⟩) 2 2) (by simp [go_sem, e3]) rfl rfl hk
          · obtain rfl := Option.some.inj (ho : some _ = some o)
            rw [if_pos (by decide)]
            exact left2_value (.int .i64 (j0 : Int)) (by simp [go_sem, e5]) rfl rfl hk
          · obtain rfl := Option.some.inj (ho : some _ = some o)
            rw [if_pos (by decide)]
            have s1 : a.tmps.getD 35 undef = .int .i64 (j0 : Int) := ht 1 (by omega) (by kernel_rfl)
            exact left2_value (.int .i64 (pp : Int)) (by simp [go_sem, s1, hmod]) rfl rfl hk
          · obtain rfl := Option.some.inj (ho : some _ = some o)
            rw [if_pos (by decide)]
            have s0 : a.tmps.getD 34 undef = .slice (some ⟨bs, 0, none⟩) 2 2 := ht 0 (by omega) (by kernel_rfl)
            have s2 : a.tmps.getD 36 undef = .int .i64 (pp : Int) := ht 2 (by omega) (by kernel_rfl)
            exact left2_value (.pointer (some ⟨bs, pp, none⟩)) (by simp [go_sem, s0, s2, hidx]) rfl rfl hk
          · obtain rfl := Option.some.inj (ho : some _ = some o)
            rw [if_pos (by decide)]
            have s3 : a.tmps.getD 37 undef = .pointer (some ⟨bs, pp, none⟩) := ht 3 (by omega) (by kernel_rfl)
            exact left2_value (.pointer (some ⟨s, 0, none⟩)) (by simp [go_sem, s3, csu]) rfl rfl hk
          · obtain rfl := Option.some.inj (ho : some _ = some o)
            rw [if_pos (by decide)]
            exact left2_load 29 (.tmp 6) wr.heap.size 29 _ _ rfl e6 hk.blk6 Try.underlying29 rfl info29 rfl rfl hk
          · obtain rfl := Option.some.inj (ho : some _ = some o)
            rw [if_pos (by decide)]
            have s4 : a.tmps.getD 38 undef = .pointer (some ⟨s, 0, none⟩) := ht 4 (by omega) (by kernel_rfl)
            have s4c : a.tmps.getD 38 undef = .pointer (some ⟨s, 0, none⟩) := ht 4 (by omega) (by kernel_rfl)
            have s5c : a.tmps.getD 39 undef = .agg (stepC x.kind x.key x.st (.slice Ab x.bs.length cb) x.dead x.tt) := ht 5 (by omega) (by kernel_rfl)
            obtain rfl : k = 0 := by
              rcases hik with h | h
              · cases h
              · injection h with h; exact h.symm
            refine left2_turns 17 #[.pointer (some ⟨s, 0, none⟩), .agg (stepC x.kind x.key x.st (.slice Ab x.bs.length cb) x.dead x.tt)] (by simp [go_sem, s4c, s5c]) ?_ rfl
            obtain ⟨h1, h2, h3, h4, h5, h6⟩ := hk
            refine (call_is u s j0 T _ R h1 hN x Ab cb hks (HBC.out.keep h2)).mono ?_
            rintro e w' ⟨cs2, T', rfl, hst, hs, ho, hkk⟩
            have hsz := h2.size
            have hcz := HO5.out.size
            exact ⟨_, rfl, ⟨cs2, rfl, hst.low (by omega)⟩, ⟨T', hs, (h2.mono fun _ _ h => h.elim).step ho (fun _ _ h => h), fun k hk' => (hkk k hk').imp id (fun h => by omega), h3.only ho ht6, h4.only ho ht7, h5.only ho htbs, h6.only ho htbw⟩, ho⟩
          · obtain rfl := Option.some.inj (ho : some _ = some o)
            rw [if_pos (by decide)]
            exact left2_load 33 (.tmp 7) b7 33 _ _ rfl e7 hk.blk7 Try.underlying33 rfl info33 rfl rfl hk
          · obtain rfl := Option.some.inj (ho : some _ = some o)
            rw [if_pos (by decide)]
            obtain ⟨cs2, s6c, h2⟩ : TellV wr.heap.size (ansR R x) (a.tmps.getD 40 undef) u := ht 6 (by omega) (by kernel_rfl)
            have s7c : a.tmps.getD 41 undef = .agg (tellC te tn tm ti (.slice E1 n1 c1) (.slice E2 n2 c2) (.slice E3 n3 c3)) := ht 7 (by omega) (by kernel_rfl)
            have hal := alike_same u cs2 (tellC te tn tm ti (.slice E1 n1 c1) (.slice E2 n2 c2) (.slice E3 n3 c3)) (ansR R x) HFIT.out h2.at (HTE.out u hk.turned)
            exact left2_calls 16 #[.agg cs2, .agg (tellC te tn tm ti (.slice E1 n1 c1) (.slice E2 n2 c2) (.slice E3 n3 c3))] (by simp [go_sem, s6c, s7c]) (hal.mono (fun e w' ⟨he, ho⟩ => ⟨_, he, rfl, ho⟩)) rfl (fun w' ho => hk.keep ho)
          · obtain rfl := Option.some.inj (ho : some _ = some o)
            rw [if_pos (by decide)]
            have s8 : a.tmps.getD 42 undef = .bool true := ht 8 (by omega) (by kernel_rfl)
            exact left2_value (.bool false) (by simp [go_sem, s8]) rfl rfl hk
        case hend =>
          intro V' u k hk hkt hV'
          have v0 : V' 0 = .slice (some ⟨bs, 0, none⟩) 2 2 := hV' 0 (by omega)
          have v1 : V' 1 = .int .i64 (j0 : Int) := hV' 1 (by omega)
          have v2 : V' 2 = .int .i64 (pp : Int) := hV' 2 (by omega)
          have v3 : V' 3 = .pointer (some ⟨bs, pp, none⟩) := hV' 3 (by omega)
          have v4 : V' 4 = .pointer (some ⟨s, 0, none⟩) := hV' 4 (by omega)
          have v5 : V' 5 = .agg (stepC x.kind x.key x.st (.slice Ab x.bs.length cb) x.dead x.tt) := hV' 5 (by omega)
          obtain ⟨cs2, v6, h2⟩ : TellV wr.heap.size (ansR R x) (V' 6) u := hV' 6 (by omega)
          have v7 : V' 7 = .agg (tellC te tn tm ti (.slice E1 n1 c1) (.slice E2 n2 c2) (.slice E3 n3 c3)) := hV' 7 (by omega)
          have v8 : V' 8 = .bool true := hV' 8 (by omega)
          have v9 : V' 9 = .bool false := hV' 9 (by omega)
          have hk0 : 0 < k := hkt 6 0 (by omega) rfl
          change wpList _ _ _ _ (Act.put (Act.put (Act.put (Act.put (Act.put (Act.put (Act.put (Act.put (Act.put (Act.put _ (some 34) (V' 0)) (some 35) (V' 1)) (some 36) (V' 2)) (some 37) (V' 3)) (some 38) (V' 4)) (some 39) (V' 5)) (some 40) (V' 6)) (some 41) (V' 7)) (some 42) (V' 8)) (some 43) (V' 9)) _
          rw [v0, v1, v2, v3, v4, v5, v6, v7, v8, v9]
          simp only [Act.put, List.setIfInBounds_toArray, List.set_cons_zero, List.set_cons_succ]
          simp only [List.drop_succ_cons, List.drop_zero]
          clear hV' v0 v1 v2 v3 v4 v5 v6 v7 v8 v9
          obtain ⟨T', hs9, ho9, ht9⟩ := hk.end hk0
          have hbk := hk.blks
          have HNEW := Lib.hid (HST5.out.turn (c2 := cq2) (Only.refl _ _) hs9 ho9 ht9 HG5.out HRA5.out hbwl5)
          have HBS9 := Lib.hid hbk.2.2.1
          have HBW9 := Lib.hid hbk.2.2.2
          have cw9 : u.cell? ⟨bw, pp, none⟩ = some (.slice Aa rs.length cp) := by rw [hbk.2.2.2.cell]; exact twoV_get ho2 _ _
          have fw9 : u.frozen? ⟨bw, pp, none⟩ = false := hbk.2.2.2.free pp
          have hbw9 : bw < u.heap.size := hbk.2.2.2.lt
          have hne : bs ≠ bw := HST.out.far.2.2.1
          clear hk hkt h2 hs9 ho9 ht9 hk0 hlo hbk d0 d1 d2 d3 d4 d5 cw8 ht6 ht7
          go_wp2_with fail
          refine ⟨HBACK.out _ T' (stepR R x) A2 cq2 rs2 (by omega) (HNEW.out.put ((Only.refl (· = bw) u).put (.inl rfl) _) hbw9) (HBS9.out.only ((Only.refl (· = bw) u).put (.inl rfl) _) hne) ?_, by simp [intOf]; omega⟩
          have := HBW9.out.put pp (.slice A2 rs2.length cq2)
          rw [twoV_set ho2] at this
          exact this
    · obtain ⟨j9, T0, T1, R0, R1, A0, A1, c0, c1, r0, r1, hv, hi, hst, hb, hw⟩ := hrel
      have hii : j0 = j9 := by injection hv with _ hv; omega
      subst hii
      have HV0 := fun (u : World) (hu : Only NoneOf wr u) => Lib.hid (versionsR u s0 j0 T0 _ R0 (hst.s1.keep hu) (by unfold NMAX; omega))
      have HV1 := fun (u : World) (hu : Only NoneOf wr u) => Lib.hid (versionsR u s1 j0 T1 _ R1 (hst.s2.keep hu) (by unfold NMAX; omega))
      have hl0 := hst.s1.len
      have hl1 := hst.s2.len
      have hr0 := hst.g1.len
      have hr1 := hst.g2.len
      have HRA0 := Lib.hid (fun (u : World) (hu : Only NoneOf wr u) => (hst.stay u (hu.mono fun _ _ h => h.elim)).1)
      have HRA1 := Lib.hid (fun (u : World) (hu : Only NoneOf wr u) => (hst.stay u (hu.mono fun _ _ h => h.elim)).2)
      have HQ0 := fun (u : World) (hu : Only NoneOf wr u) => Versions_ref u A0 c0 r0 R0 hst.g1 (HRA0.out u hu) (by omega)
      have HQ1 := fun (u : World) (hu : Only NoneOf wr u) => Versions_ref u A1 c1 r1 R1 hst.g2 (HRA1.out u hu) (by omega)
      have HLN0 : Hid ((versR R0).length ≤ 4611686018427387904) := Lib.hid (by rw [versR_length]; omega)
      have HLN1 : Hid ((versR R1).length ≤ 4611686018427387904) := Lib.hid (by rw [versR_length]; omega)
      have HFT0 : Hid (∀ x ∈ versR R0, x.2.bs.length ≤ 4611686018427387904) := Lib.hid fun x hx => by have := hst.g1.good.bs x (versR_mem hx); omega
      have HFT1 : Hid (∀ x ∈ versR R1, x.2.bs.length ≤ 4611686018427387904) := Lib.hid fun x hx => by have := hst.g2.good.bs x (versR_mem hx); omega
      have HOW := Lib.hid hst.only
      have cs0 : wr.cell? ⟨bs, 0, none⟩ = some (.pointer (some ⟨s0, 0, none⟩)) := hb.cellv 0 rfl
      have cs1 : wr.cell? ⟨bs, 1, none⟩ = some (.pointer (some ⟨s1, 0, none⟩)) := hb.cellv 1 rfl
      have cw0 : wr.cell? ⟨bw, 0, none⟩ = some (.slice A0 r0.length c0) := hw.cellv 0 rfl
      have cw1 : wr.cell? ⟨bw, 1, none⟩ = some (.slice A1 r1.length c1) := hw.cellv 1 rfl
      have hbsl := hb.lt
      have hbwl := hw.lt
      obtain ⟨n0, hn0⟩ : ∃ n0, r0.length = n0 := ⟨_, rfl⟩
      obtain ⟨n1, hn1⟩ : ∃ n1, r1.length = n1 := ⟨_, rfl⟩
      rw [hn0] at cw0
      rw [hn1] at cw1
      simp only [hn0] at HQ0
      simp only [hn1] at HQ1
      have HQ0 := fun (u : World) (hu : Only NoneOf wr u) => Lib.hid (HQ0 u hu)
      have HQ1 := fun (u : World) (hu : Only NoneOf wr u) => Lib.hid (HQ1 u hu)
      clear hst hb hw hv hn0 hn1 hl0 hl1 hr0 hr1
      go_upto_region 13 with (fail)
      refine wp_region_head2 20 70 [9] (fun g => match g with | 9 => some true | _ => none) (fun _ => none) NoneOf (fun _ => Only NoneOf wr) (EndT bs bw s0 s1 n0 n1 c0 c1 A0 A1 R0 R1) rfl (by kernel_rfl) (by kernel_rfl) ?hskip ?hgv (EndT_keep bs bw s0 s1 n0 n1 c0 c1 A0 A1 R0 R1) ((Only.refl _ _).drew) ?hstep ?hend
      case hskip =>
        intro i o hi ho hw k
        have : i = 0 ∨ i = 1 ∨ i = 2 ∨ i = 3 ∨ i = 4 ∨ i = 5 ∨ i = 6 ∨ i = 7 ∨ i = 8 ∨ i = 9 ∨ i = 10 ∨ i = 11 ∨ i = 12 ∨ i = 13 ∨ i = 14 ∨ i = 15 ∨ i = 16 ∨ i = 17 ∨ i = 18 ∨ i = 19 := by omega
        rcases this with rfl | rfl | rfl | rfl | rfl | rfl | rfl | rfl | rfl | rfl | rfl | rfl | rfl | rfl | rfl | rfl | rfl | rfl | rfl | rfl
        · rfl
        · rfl
        · rfl
        · rfl
        · rfl
        · rfl
        · rfl
        · rfl
        · rfl
        · rfl
        · rfl
        · rfl
        · rfl
        · rfl
        · rfl
        · rfl
        · rfl
        · rfl
        · rfl
        · rfl
      case hgv =>
        intro g hg v w h
        have : g = 9 := by simpa using hg
        rcases this with rfl
        · obtain rfl : v = .bool true := h; rfl
      case hstep =>
        intro i o hi ho a u k hk hik hs ht
        have e3 : a.tmps.getD 3 undef = .slice (some ⟨bs, 0, none⟩) 2 2 := hs 3 (of_decide_eq_true (by kernel_rfl))
        have e4 : a.tmps.getD 4 undef = .slice (some ⟨bw, 0, none⟩) 2 2 := hs 4 (of_decide_eq_true (by kernel_rfl))
        have cs0u := (hk.cell (p := ⟨bs, 0, none⟩) hbsl (fun h => h)).trans cs0
        have cw0u := (hk.cell (p := ⟨bw, 0, none⟩) hbwl (fun h => h)).trans cw0
        have cs1u := (hk.cell (p := ⟨bs, 1, none⟩) hbsl (fun h => h)).trans cs1
        have cw1u := (hk.cell (p := ⟨bw, 1, none⟩) hbwl (fun h => h)).trans cw1
        have : i = 0 ∨ i = 1 ∨ i = 2 ∨ i = 3 ∨ i = 4 ∨ i = 5 ∨ i = 6 ∨ i = 7 ∨ i = 8 ∨ i = 9 ∨ i = 10 ∨ i = 11 ∨ i = 12 ∨ i = 13 ∨ i = 14 ∨ i = 15 ∨ i = 16 ∨ i = 17 ∨ i = 18 ∨ i = 19 := by omega
        rcases this with rfl | rfl | rfl | rfl | rfl | rfl | rfl | rfl | rfl | rfl | rfl | rfl | rfl | rfl | rfl | rfl | rfl | rfl | rfl | rfl
        · obtain rfl := Option.some.inj (ho : some _ = some o)
          rw [if_pos (by decide)]
          exact left2_value (.slice (some ⟨bs, 0, none⟩) 2 2) (by simp [go_sem, e3]) rfl rfl hk
        · obtain rfl := Option.some.inj (ho : some _ = some o)
          rw [if_pos (by decide)]
          have s0 : a.tmps.getD 50 undef = .slice (some ⟨bs, 0, none⟩) 2 2 := ht 0 (by omega) (by kernel_rfl)
          exact left2_value (.pointer (some ⟨bs, 0, none⟩)) (by simp [go_sem, s0]) rfl rfl hk
        · obtain rfl := Option.some.inj (ho : some _ = some o)
          rw [if_pos (by decide)]
          have s1 : a.tmps.getD 51 undef = .pointer (some ⟨bs, 0, none⟩) := ht 1 (by omega) (by kernel_rfl)
          exact left2_value (.pointer (some ⟨s0, 0, none⟩)) (by simp [go_sem, s1, cs0u]) rfl rfl hk
        · obtain rfl := Option.some.inj (ho : some _ = some o)
          rw [if_pos (by decide)]
          have s2 : a.tmps.getD 52 undef = .pointer (some ⟨s0, 0, none⟩) := ht 2 (by omega) (by kernel_rfl)
          have s2c : a.tmps.getD 52 undef = .pointer (some ⟨s0, 0, none⟩) := ht 2 (by omega) (by kernel_rfl)
          exact left2_calls 25 #[.pointer (some ⟨s0, 0, none⟩)] (by simp [go_sem, s2c]) ((HV0 u hk).out.mono (fun e w' ⟨v, rs, he, hr, hpl, ho⟩ => ⟨v, he, (show ListAt 4 VerE w' v (versR R0) by rw [← hpl]; exact listAt_vers hr), ho⟩)) rfl (fun w' ho => hk.trans ho)
        · obtain rfl := Option.some.inj (ho : some _ = some o)
          rw [if_pos (by decide)]
          exact left2_value (.slice (some ⟨bw, 0, none⟩) 2 2) (by simp [go_sem, e4]) rfl rfl hk
        · obtain rfl := Option.some.inj (ho : some _ = some o)
          rw [if_pos (by decide)]
          have s4 : a.tmps.getD 54 undef = .slice (some ⟨bw, 0, none⟩) 2 2 := ht 4 (by omega) (by kernel_rfl)
          exact left2_value (.pointer (some ⟨bw, 0, none⟩)) (by simp [go_sem, s4]) rfl rfl hk
        · obtain rfl := Option.some.inj (ho : some _ = some o)
          rw [if_pos (by decide)]
          have s5 : a.tmps.getD 55 undef = .pointer (some ⟨bw, 0, none⟩) := ht 5 (by omega) (by kernel_rfl)
          exact left2_value (.slice A0 n0 c0) (by simp [go_sem, s5, cw0u]) rfl rfl hk
        · obtain rfl := Option.some.inj (ho : some _ = some o)
          rw [if_pos (by decide)]
          have s6 : a.tmps.getD 56 undef = .slice A0 n0 c0 := ht 6 (by omega) (by kernel_rfl)
          have s6c : a.tmps.getD 56 undef = .slice A0 n0 c0 := ht 6 (by omega) (by kernel_rfl)
          exact left2_calls 33 #[.slice A0 n0 c0] (by simp [go_sem, s6c]) ((HQ0 u hk).out.mono (fun e w' ⟨v, qs, he, hown, hsub, hpl, ho⟩ => ⟨v, he, (show ListAt 4 VerE w' v (versR R0) by rw [← hpl]; exact list_rows hown (fun r hr => rat_val (HRA0.out w' (hk.trans ho)) (hsub r hr))), ho⟩)) rfl (fun w' ho => hk.trans ho)
        · obtain rfl := Option.some.inj (ho : some _ = some o)
          rw [if_pos (by decide)]
          obtain ⟨p3, s3c, h3⟩ : ∃ p, a.tmps.getD 53 undef = p ∧ ListAt 4 VerE u p (versR R0) := ⟨_, rfl, ht 3 (by omega) (by kernel_rfl)⟩
          obtain ⟨p7, s7c, h7⟩ : ∃ p, a.tmps.getD 57 undef = p ∧ ListAt 4 VerE u p (versR R0) := ⟨_, rfl, ht 7 (by omega) (by kernel_rfl)⟩
          have hva := versions_alike u p3 p7 (versR R0) (versR R0) h3 h7 HLN0.out HFT0.out
          rw [decide_eq_true rfl] at hva
          exact left2_calls 30 #[p3, p7] (by simp [go_sem, s3c, s7c]) (hva.mono (fun e w' ⟨he, ho⟩ => ⟨_, he, rfl, drewN_only ho⟩)) rfl (fun w' ho => hk.trans ho)
        · obtain rfl := Option.some.inj (ho : some _ = some o)
          rw [if_pos (by decide)]
          have s8 : a.tmps.getD 58 undef = .bool true := ht 8 (by omega) (by kernel_rfl)
          exact left2_value (.bool true) (by simp [go_sem, s8]) rfl rfl hk
        · obtain rfl := Option.some.inj (ho : some _ = some o)
          rw [if_pos (by decide)]
          exact left2_value (.slice (some ⟨bs, 0, none⟩) 2 2) (by simp [go_sem, e3]) rfl rfl hk
        · obtain rfl := Option.some.inj (ho : some _ = some o)
          rw [if_pos (by decide)]
          have s10 : a.tmps.getD 60 undef = .slice (some ⟨bs, 0, none⟩) 2 2 := ht 10 (by omega) (by kernel_rfl)
          exact left2_value (.pointer (some ⟨bs, 1, none⟩)) (by simp [go_sem, s10]) rfl rfl hk
        · obtain rfl := Option.some.inj (ho : some _ = some o)
          rw [if_pos (by decide)]
          have s11 : a.tmps.getD 61 undef = .pointer (some ⟨bs, 1, none⟩) := ht 11 (by omega) (by kernel_rfl)
          exact left2_value (.pointer (some ⟨s1, 0, none⟩)) (by simp [go_sem, s11, cs1u]) rfl rfl hk
        · obtain rfl := Option.some.inj (ho : some _ = some o)
          rw [if_pos (by decide)]
          have s9 : a.tmps.getD 59 undef = .bool true := ht 9 (by omega) (by kernel_rfl)
          have s12 : a.tmps.getD 62 undef = .pointer (some ⟨s1, 0, none⟩) := ht 12 (by omega) (by kernel_rfl)
          have s12c : a.tmps.getD 62 undef = .pointer (some ⟨s1, 0, none⟩) := ht 12 (by omega) (by kernel_rfl)
          exact left2_calls 25 #[.pointer (some ⟨s1, 0, none⟩)] (by simp [go_sem, s12c]) ((HV1 u hk).out.mono (fun e w' ⟨v, rs, he, hr, hpl, ho⟩ => ⟨v, he, (show ListAt 4 VerE w' v (versR R1) by rw [← hpl]; exact listAt_vers hr), ho⟩)) rfl (fun w' ho => hk.trans ho)
        · obtain rfl := Option.some.inj (ho : some _ = some o)
          rw [if_pos (by decide)]
          exact left2_value (.slice (some ⟨bw, 0, none⟩) 2 2) (by simp [go_sem, e4]) rfl rfl hk
        · obtain rfl := Option.some.inj (ho : some _ = some o)
          rw [if_pos (by decide)]
          have s14 : a.tmps.getD 64 undef = .slice (some ⟨bw, 0, none⟩) 2 2 := ht 14 (by omega) (by kernel_rfl)
          exact left2_value (.pointer (some ⟨bw, 1, none⟩)) (by simp [go_sem, s14]) rfl rfl hk
        · obtain rfl := Option.some.inj (ho : some _ = some o)
          rw [if_pos (by decide)]
          have s15 : a.tmps.getD 65 undef = .pointer (some ⟨bw, 1, none⟩) := ht 15 (by omega) (by kernel_rfl)
          exact left2_value (.slice A1 n1 c1) (by simp [go_sem, s15, cw1u]) rfl rfl hk
        · obtain rfl := Option.some.inj (ho : some _ = some o)
          rw [if_pos (by decide)]
          have s16 : a.tmps.getD 66 undef = .slice A1 n1 c1 := ht 16 (by omega) (by kernel_rfl)
          have s16c : a.tmps.getD 66 undef = .slice A1 n1 c1 := ht 16 (by omega) (by kernel_rfl)
          exact left2_calls 33 #[.slice A1 n1 c1] (by simp [go_sem, s16c]) ((HQ1 u hk).out.mono (fun e w' ⟨v, qs, he, hown, hsub, hpl, ho⟩ => ⟨v, he, (show ListAt 4 VerE w' v (versR R1) by rw [← hpl]; exact list_rows hown (fun r hr => rat_val (HRA1.out w' (hk.trans ho)) (hsub r hr))), ho⟩)) rfl (fun w' ho => hk.trans ho)
        · obtain rfl := Option.some.inj (ho : some _ = some o)
          rw [if_pos (by decide)]
          obtain ⟨p3, s13c, h3⟩ : ∃ p, a.tmps.getD 63 undef = p ∧ ListAt 4 VerE u p (versR R1) := ⟨_, rfl, ht 13 (by omega) (by kernel_rfl)⟩
          obtain ⟨p7, s17c, h7⟩ : ∃ p, a.tmps.getD 67 undef = p ∧ ListAt 4 VerE u p (versR R1) := ⟨_, rfl, ht 17 (by omega) (by kernel_rfl)⟩
          have hva := versions_alike u p3 p7 (versR R1) (versR R1) h3 h7 HLN1.out HFT1.out
          rw [decide_eq_true rfl] at hva
          exact left2_calls 30 #[p3, p7] (by simp [go_sem, s13c, s17c]) (hva.mono (fun e w' ⟨he, ho⟩ => ⟨_, he, rfl, drewN_only ho⟩)) rfl (fun w' ho => hk.trans ho)
        · obtain rfl := Option.some.inj (ho : some _ = some o)
          rw [if_pos (by decide)]
          have s9 : a.tmps.getD 59 undef = .bool true := ht 9 (by omega) (by kernel_rfl)
          have s18 : a.tmps.getD 68 undef = .bool true := ht 18 (by omega) (by kernel_rfl)
          exact left2_value (.bool true) (by simp [go_sem, s9, s18]) rfl rfl hk
      case hend =>
        intro V' u k hk hkt hV'
        have v0 : V' 0 = .slice (some ⟨bs, 0, none⟩) 2 2 := hV' 0 (by omega)
        have v1 : V' 1 = .pointer (some ⟨bs, 0, none⟩) := hV' 1 (by omega)
        have v2 : V' 2 = .pointer (some ⟨s0, 0, none⟩) := hV' 2 (by omega)
        obtain ⟨pv3, v3⟩ : ∃ pv, V' 3 = pv := ⟨_, rfl⟩
        have v4 : V' 4 = .slice (some ⟨bw, 0, none⟩) 2 2 := hV' 4 (by omega)
        have v5 : V' 5 = .pointer (some ⟨bw, 0, none⟩) := hV' 5 (by omega)
        have v6 : V' 6 = .slice A0 n0 c0 := hV' 6 (by omega)
        obtain ⟨pv7, v7⟩ : ∃ pv, V' 7 = pv := ⟨_, rfl⟩
        have v8 : V' 8 = .bool true := hV' 8 (by omega)
        have v9 : V' 9 = .bool true := hV' 9 (by omega)
        have v10 : V' 10 = .slice (some ⟨bs, 0, none⟩) 2 2 := hV' 10 (by omega)
        have v11 : V' 11 = .pointer (some ⟨bs, 1, none⟩) := hV' 11 (by omega)
        have v12 : V' 12 = .pointer (some ⟨s1, 0, none⟩) := hV' 12 (by omega)
        obtain ⟨pv13, v13⟩ : ∃ pv, V' 13 = pv := ⟨_, rfl⟩
        have v14 : V' 14 = .slice (some ⟨bw, 0, none⟩) 2 2 := hV' 14 (by omega)
        have v15 : V' 15 = .pointer (some ⟨bw, 1, none⟩) := hV' 15 (by omega)
        have v16 : V' 16 = .slice A1 n1 c1 := hV' 16 (by omega)
        obtain ⟨pv17, v17⟩ : ∃ pv, V' 17 = pv := ⟨_, rfl⟩
        have v18 : V' 18 = .bool true := hV' 18 (by omega)
        have v19 : V' 19 = .bool true := hV' 19 (by omega)
        change wpList _ _ _ _ (Act.put (Act.put (Act.put (Act.put (Act.put (Act.put (Act.put (Act.put (Act.put (Act.put (Act.put (Act.put (Act.put (Act.put (Act.put (Act.put (Act.put (Act.put (Act.put (Act.put _ (some 50) (V' 0)) (some 51) (V' 1)) (some 52) (V' 2)) (some 53) (V' 3)) (some 54) (V' 4)) (some 55) (V' 5)) (some 56) (V' 6)) (some 57) (V' 7)) (some 58) (V' 8)) (some 59) (V' 9)) (some 60) (V' 10)) (some 61) (V' 11)) (some 62) (V' 12)) (some 63) (V' 13)) (some 64) (V' 14)) (some 65) (V' 15)) (some 66) (V' 16)) (some 67) (V' 17)) (some 68) (V' 18)) (some 69) (V' 19)) _
        rw [v0, v1, v2, v3, v4, v5, v6, v7, v8, v9, v10, v11, v12, v13, v14, v15, v16, v17, v18, v19]
        simp only [Act.put, List.setIfInBounds_toArray, List.set_cons_zero, List.set_cons_succ]
        simp only [List.drop_succ_cons, List.drop_zero]
        clear hV' v0 v1 v2 v3 v4 v5 v6 v7 v8 v9 v10 v11 v12 v13 v14 v15 v16 v17 v18 v19
        have HOE := Lib.hid (HOW.out.trans hk)
        clear hk hkt
        go_wp2_with fail
        go_ret
        exact ⟨rfl, HOE.out⟩

end Go.Proofs.Ytnonnencdhogiaa
