/-
  Texts of this proof, laid together: S55, S56, S57, S58, S59, S60, S61, S62.
-/
import Derived.Test.YtnonnencdhogiaaM7
/-
  The reference of layer 14: Apply.
-/
namespace Go.Proofs.Ytnonnencdhogiaa
open Go.RowKit

/-- the values ahead of the last append -/
def T11 (B n cap : Nat) (A : Option Addr) (rs : List VRow) (row : Array Value) : Nat → Value → World → Prop
  | 0, v, w => ∃ g, v = .slice (some ⟨g, 0, none⟩) 0 0 ∧ Blk w g 27 #[] ∧ B ≤ g
  | 1, v, _ => v = .slice A n cap
  | 2, v, w => w.ownsRow B 27 4 v n (vflat rs)
  | 3, v, _ => v = .agg row
  | 4, v, w => ∃ b, v = .slice (some ⟨b, 0, none⟩) 1 1 ∧ Blk w b 27 row
  | _, _, _ => True
theorem T11_keep (B n cap : Nat) (A : Option Addr) (rs : List VRow) (row : Array Value) (i : Nat) (v : Value) (w w' : World) (h : T11 B n cap A rs row i v w) (ho : Only NoneOf w w') : T11 B n cap A rs row i v w' :=
  match i, h with
  | 0, ⟨g, h1, h2, h3⟩ => ⟨g, h1, h2.only ho (fun h => h), h3⟩
  | 1, h | 3, h => h
  | 2, h => ownsRow_only h ho (fun _ _ h => h)
  | 4, ⟨b, h1, h2⟩ => ⟨b, h1, h2.only ho (fun h => h)⟩
  | _ + 5, _ => trivial

def ApRef (v0 : Value) (rs : List VRow) (key : ByteArray) (x : Ver) (R : List KV) (w : World) (e : Ending) (w' : World) : Prop :=
  Only NoneOf w w' ∧ ((codeR R key x ≠ 0 ∧ e = .returned (.tuple #[v0, .int .i64 (codeR R key x)])) ∨
    (codeR R key x = 0 ∧ ∃ v r, e = .returned (.tuple #[v, .int .i64 0]) ∧ r.plain = (key, x) ∧ RowB w' w.heap.size r.val x.bs ∧ w'.ownsRow w.heap.size 27 4 v (rs.length + 1) (vflat (rs ++ [r]))))

set_option maxRecDepth 100000 in
set_option maxHeartbeats 8000000 in
theorem Apply_ref (w : World) (A : Option Addr) (cap : Nat) (rs : List VRow) (R : List KV) (hR : RGood rs R) (hA : RAt w A rs) (hfew : rs.length < 2513169434916) (key : ByteArray) (st : Int) (bs : List UInt8) (dead : Bool) (Av : Option Addr) (nn cc : Nat) (hn : bs.length = nn) (hby : BytesAt w Av bs) :
    Calls Try.prog 57 #[.slice A rs.length cap, .agg (verC key st (.slice Av nn cc) dead)] w (ApRef (.slice A rs.length cap) rs key ⟨st, bs, dead⟩ R w) := by
  have B := Blk.new w 27 (verC key st (.slice Av nn cc) dead)
  have c0 := B.cellv 0 rfl
  have c1 := B.cellv 1 rfl
  have c2 := B.cellv 2 rfl
  have c3 := B.cellv 3 rfl
  have HB := Lib.hid B
  have HO := Lib.hid ((Only.refl NoneOf w).alloc (.cells (verC key st (.slice Av nn cc) dead) 27))
  have HLS := Lib.hid (last_ref (w.alloc (.cells (verC key st (.slice Av nn cc) dead) 27)) A cap rs key (hA.keep ((Only.refl _ _).alloc _)) (by omega))
  obtain ⟨k, s, Ao, bo, co, d, hform, _, hst⟩ := row_form hA key 4611686018427387904
  have HFORM := Lib.hid hform
  have HLAST := Lib.hid (hR.last key)
  have HCODE : ∀ m, mayI key.size nn st dead = m → m ≠ 0 → Hid (codeR R key ⟨st, bs, dead⟩ = m) := fun m h1 h2 => Lib.hid (by unfold codeR applyC; rw [hn, h1, if_pos h2])
  have HOK : mayI key.size nn st dead = 0 → Hid (codeR R key ⟨st, bs, dead⟩ = match (verR R key).getLast? with | none => 0 | some x => if st ≤ x.st then 130 else 0) := fun h1 => Lib.hid (by unfold codeR applyC; rw [hn, h1]; rfl)
  have HA := Lib.hid hA
  have HBY := Lib.hid hby
  have HN := Lib.hid hn
  have HHST := Lib.hid hst
  obtain ⟨n, hrn⟩ : ∃ n, rs.length = n := ⟨_, rfl⟩
  have HRN := Lib.hid hrn
  rw [hrn] at HLS hfew ⊢
  clear B hR hA hform hst hn hby hrn
  by_cases h1 : key.size < 1 ∨ 255 < key.size
  · have HM := HCODE 140 (by unfold mayI; rw [if_pos h1]) (by omega)
    clear HCODE HOK
    rcases h1 with h1 | h1
    · go_enter Try.func57, Try.ntmps57
      go_wp2_with fail
      go_ret2
      exact ⟨HO.out, .inl ⟨by rw [HM.out]; omega, by rw [HM.out]; rfl⟩⟩
    · go_enter Try.func57, Try.ntmps57
      go_wp2_with fail
      go_ret2
      exact ⟨HO.out, .inl ⟨by rw [HM.out]; omega, by rw [HM.out]; rfl⟩⟩
  have h1a : ¬ key.size < 1 := fun h => h1 (.inl h)
  have h1b : ¬ 255 < key.size := fun h => h1 (.inr h)
  by_cases h3 : 4096 < nn
  ·
    have HM := HCODE 141 (by unfold mayI; rw [if_neg h1, if_pos (.inl h3)]) (by omega)
    clear HCODE HOK h1
    go_enter Try.func57, Try.ntmps57
    go_wp2_with fail
    go_ret2
    exact ⟨HO.out, .inl ⟨by rw [HM.out]; omega, by rw [HM.out]; rfl⟩⟩
  by_cases h4 : dead = true ∧ 0 < nn
  ·
    have HM := HCODE 141 (by unfold mayI; rw [if_neg h1, if_pos (.inr h4)]) (by omega)
    clear HCODE HOK h1
    obtain ⟨rfl, h5⟩ := h4
    go_enter Try.func57, Try.ntmps57
    go_wp2_with fail
    go_ret2
    exact ⟨HO.out, .inl ⟨by rw [HM.out]; omega, by rw [HM.out]; rfl⟩⟩
  have h34 : ¬ (4096 < nn ∨ (dead = true ∧ 0 < nn)) := fun h => h.elim h3 h4
  have hdn : nn = 0 ∨ (0 < nn ∧ dead = false) := by
    rcases Nat.eq_zero_or_pos nn with h | h
    · exact .inl h
    · exact .inr ⟨h, by cases dead; rfl; exact absurd ⟨rfl, h⟩ h4⟩
  by_cases h5 : st < 0
  ·
    have HM := HCODE 2 (by unfold mayI; rw [if_neg h1, if_neg h34, if_pos (.inl h5)]) (by omega)
    clear HCODE HOK h1 h34 h4
    rcases hdn with rfl | ⟨hd, rfl⟩
    · go_enter Try.func57, Try.ntmps57
      go_wp2_with fail
      go_ret2
      exact ⟨HO.out, .inl ⟨by rw [HM.out]; omega, by rw [HM.out]; rfl⟩⟩
    · go_enter Try.func57, Try.ntmps57
      go_wp2_with fail
      go_ret2
      exact ⟨HO.out, .inl ⟨by rw [HM.out]; omega, by rw [HM.out]; rfl⟩⟩
  by_cases h6 : 4611686018427387904 < st
  ·
    have HM := HCODE 2 (by unfold mayI; rw [if_neg h1, if_neg h34, if_pos (.inr h6)]) (by omega)
    have q5 : decide (st < 0) = false := decide_eq_false h5
    have q6 : decide (4611686018427387904 < st) = true := decide_eq_true h6
    clear HCODE HOK h1 h34 h4 h5 h6
    rcases hdn with rfl | ⟨hd, rfl⟩
    · go_enter Try.func57, Try.ntmps57
      go_wp2_with fail
      go_ret2
      exact ⟨HO.out, .inl ⟨by rw [HM.out]; omega, by rw [HM.out]; rfl⟩⟩
    · go_enter Try.func57, Try.ntmps57
      go_wp2_with fail
      go_ret2
      exact ⟨HO.out, .inl ⟨by rw [HM.out]; omega, by rw [HM.out]; rfl⟩⟩
  have HM := HOK (by unfold mayI; rw [if_neg h1, if_neg h34, if_neg (by omega)])
  have q5 : decide (st < 0) = false := decide_eq_false h5
  have q6 : decide (4611686018427387904 < st) = false := decide_eq_false h6
  have q1 : decide ((key.size : Int) < 1) = false := decide_eq_false (by omega)
  have q2 : decide (255 < (key.size : Int)) = false := decide_eq_false (by omega)
  have hcase : ((nwRow rs key 4611686018427387904).isSome = false ∧ codeR R key ⟨st, bs, dead⟩ = 0) ∨ ((nwRow rs key 4611686018427387904).isSome = true ∧ decide (st ≤ s) = true ∧ codeR R key ⟨st, bs, dead⟩ = 130) ∨ ((nwRow rs key 4611686018427387904).isSome = true ∧ decide (st ≤ s) = false ∧ codeR R key ⟨st, bs, dead⟩ = 0) := by
    rw [HM.out]
    have hl := HLAST.out
    rcases HHST.out with ⟨h, _, _⟩ | ⟨r, h, _, rfl, _, _, _⟩
    · rw [h] at hl ⊢
      rw [← hl]
      exact .inl ⟨rfl, rfl⟩
    · rw [h] at hl ⊢
      rw [← hl]
      by_cases hs : st ≤ r.st
      · exact .inr (.inl ⟨rfl, decide_eq_true hs, by show (if st ≤ r.st then _ else _) = _; rw [if_pos hs]⟩)
      · exact .inr (.inr ⟨rfl, decide_eq_false hs, by show (if st ≤ r.st then _ else _) = _; rw [if_neg hs]⟩)
  clear HCODE HOK h1 h34 h4 h5 h6 h1a h1b HM HHST HLAST
  rcases hdn with rfl | ⟨hd, rfl⟩
  ·
    go_enter Try.func57, Try.ntmps57
    go_wp2_with fail
    refine HLS.out.mono ?_; rintro e w2 ⟨rfl, ho2⟩
    have HO2 := Lib.hid ((HO.out.trans ho2).alloc (.cells #[.string k, .int .i64 s, .slice Ao bo.length co, .bool d] 27))
    have HOP := Lib.hid (HO.out.trans ho2)
    have HB2 := Lib.hid (HB.out.only ho2 (fun h => h))
    have c0 := HB2.out.cellv 0 rfl
    have c1 := HB2.out.cellv 1 rfl
    have c2 := HB2.out.cellv 2 rfl
    have c3 := HB2.out.cellv 3 rfl
    have hbl := HB2.out.lt
    obtain ⟨is, his⟩ : ∃ is, (nwRow rs key 4611686018427387904).isSome = is := ⟨_, rfl⟩
    rw [his] at hcase
    rw [his, HFORM.out]
    clear ho2 his HLS HFORM
    rcases hcase with ⟨rfl, hcd⟩ | ⟨rfl, hq, hcd⟩ | ⟨rfl, hq, hcd⟩
    · have HCD := Lib.hid hcd
      clear hcd
      have hz2 := HOP.out.size
      have HE := Lib.hid (own_empty (B := w.heap.size + 1) (sz := 1) (Blk.new' (w2.alloc (.cells #[.string k, .int .i64 s, .slice Ao bo.length co, .bool d] 27)) 5 #[] (n := w2.heap.size + 1) (by simp)) (by omega))
      have HNEW := Lib.hid (BytesAt.news (HBY.out.keep (HO2.out.alloc (.cells #[] 5))))
      have HBA := Lib.hid ((HB2.out.alloc (.cells #[.string k, .int .i64 s, .slice Ao bo.length co, .bool d] 27)).alloc (.cells #[] 5))
      have HBL := Lib.hid (show (bs.map byteV).length = 0 * 1 by rw [List.length_map, HN.out, Nat.mul_one])
      obtain ⟨i0, hi, hz0, hz1, hz3⟩ := info_parts info5
      obtain ⟨i7, hi7, hz70, hz71, hz73⟩ := info_parts info27'
      go_wp2_with (at_builtin; refine wpList_append_any rfl (.tmp 59) (.tmp 61) 25 rfl (w.heap.size + 1) 5 i0 _ 1 1 Try.underlying25 hi hz0 hz1 hz3 rfl (by decide) _ 0 [] rfl HE.out Av 0 cc (bs.map byteV) rfl HBL.out HNEW.out (one_bytes bs) (by unfold maxLen; omega) (by omega) (by simp; omega) ?_; intro v3 w3 hown ho3 hat; rw [Nat.zero_add, List.nil_append] at hown; obtain ⟨Av3, cv3, rfl⟩ := ownsRow_slice hown; have HOWN := Lib.hid hown; have HO3 := Lib.hid ho3; have HBX := Lib.hid (HBA.out.only ho3 (fun e => by have e1 : (Value.slice (some ⟨w2.heap.size + 1, 0, none⟩) 0 0).ownBlock = some w.heap.size := e; simp [Value.ownBlock] at e1; omega)); have x2 := HBX.out.cellv 2 rfl; have f2 := HBX.out.free 2; clear hown ho3 hat)
      have hlt2 : w.heap.size < w2.heap.size := hbl
      have HVAL := Lib.hid (show RowB (w3.setCell ⟨w.heap.size, 2, none⟩ (.slice Av3 0 cv3)) w.heap.size (.slice Av3 0 cv3) bs from by
        have h1 : World.ownsRow w3 (w.heap.size + 1) 5 1 (.slice Av3 0 cv3) bs.length (bs.map byteV) := by rw [HN.out]; exact HOWN.out
        exact own_low (ownsRow_only h1 ((Only.refl (· = w.heap.size) w3).put (.inl rfl) _) (fun g hg e => by have := (ownsRow_lt h1 hg).1; omega)) (by omega))
      have HB3 : Hid (Blk (w3.setCell ⟨w.heap.size, 2, none⟩ (.slice Av3 0 cv3)) w.heap.size 27 #[.string key, .int .i64 st, .slice Av3 0 cv3, .bool dead]) := Lib.hid (HBX.out.put 2 _)
      have HOW := Lib.hid (show Only NoneOf w (w3.setCell ⟨w.heap.size, 2, none⟩ (.slice Av3 0 cv3)) from ((HO2.out.alloc (.cells #[] 5)).step HO3.out (fun k hk e => by
        have e1 : (Value.slice (some ⟨w2.heap.size + 1, 0, none⟩) 0 0).ownBlock = some k := e
        simp [Value.ownBlock] at e1
        omega)).put (.inr (Nat.le_refl _)) _)
      have HWS := Lib.hid HOW.out.size
      obtain ⟨w4, hw4⟩ : ∃ w4, w3.setCell ⟨w.heap.size, 2, none⟩ (.slice Av3 0 cv3) = w4 := ⟨_, rfl⟩
      rw [hw4] at HVAL HB3 HOW HWS ⊢
      clear hw4 HOWN HO3 HBX HE HNEW HBA HBL hz2 x2 f2
      obtain ⟨v3, hv3⟩ : ∃ v3, v3 = Value.slice Av3 0 cv3 := ⟨_, rfl⟩
      rw [← hv3] at HVAL HB3
      have HV3 := Lib.hid hv3
      clear hv3
      refine wp_region_head2 5 70 [] (fun _ => none) (fun _ => none) NoneOf (fun _ => Only NoneOf w4) (T11 w.heap.size n cap A rs #[.string key, .int .i64 st, v3, .bool dead]) rfl (by kernel_rfl) (by kernel_rfl) ?hskip ?hgv (T11_keep w.heap.size n cap A rs #[.string key, .int .i64 st, v3, .bool dead]) ((Only.refl _ _).drew) ?hstep ?hend
      case hskip =>
        intro i o hi ho hw k
        have : i = 0 ∨ i = 1 ∨ i = 2 ∨ i = 3 ∨ i = 4 := by omega
        rcases this with rfl | rfl | rfl | rfl | rfl
        · rfl
        · rfl
        · rfl
        · rfl
        · rfl
      case hgv =>
        intro g hg v w h
        cases hg
      case hstep =>
        intro i o hi ho a u k hk hik hs ht
        have e3 : a.tmps.getD 3 undef = .pointer (some ⟨w.heap.size, 0, none⟩) := hs 3 (of_decide_eq_true (by kernel_rfl))
        have e0 : a.tmps.getD 0 undef = .slice A n cap := hs 0 (of_decide_eq_true (by kernel_rfl))
        have : i = 0 ∨ i = 1 ∨ i = 2 ∨ i = 3 ∨ i = 4 := by omega
        rcases this with rfl | rfl | rfl | rfl | rfl
        · obtain rfl := Option.some.inj (ho : some _ = some o)
          rw [if_pos (by decide)]
          have hz := hk.size
          exact left2_new (.slice (some ⟨u.heap.size, 0, none⟩) 0 0) (u.alloc (.cells #[] 27)) (by simp [go_sem]) ((Only.refl _ _).alloc _) ⟨_, rfl, Blk.new _ _ _, by have := HWS.out; omega⟩ rfl (hk.alloc _)
        · obtain rfl := Option.some.inj (ho : some _ = some o)
          rw [if_pos (by decide)]
          exact left2_value (.slice A n cap) (by simp [go_sem, e0]) rfl rfl hk
        · obtain rfl := Option.some.inj (ho : some _ = some o)
          rw [if_pos (by decide)]
          have s1 : a.tmps.getD 65 undef = .slice A n cap := ht 1 (by omega) (by kernel_rfl)
          obtain ⟨g, s0, hg0, hgb⟩ : ∃ g, a.tmps.getD 64 undef = .slice (some ⟨g, 0, none⟩) 0 0 ∧ Blk u g 27 #[] ∧ w.heap.size ≤ g := ht 0 (by omega) (by kernel_rfl)
          have s1 : a.tmps.getD 65 undef = .slice A n cap := ht 1 (by omega) (by kernel_rfl)
          have hra := HA.out.keep (HOW.out.trans hk)
          have hz := hk.size
          refine wp_append_empty (.tmp 64) (.tmp 65) 65 rfl w.heap.size 27 i7 _ 4 56 Try.underlying65 hi7 hz70 hz71 hz73 rfl (by decide) g s0 hg0 hgb A n cap (vflat rs) s1 (by rw [vflat_length, HRN.out]) hra.news hra.one (by unfold maxLen; omega) (by omega) (by have := HWS.out; omega) fun v' w' hown ho => ?_
          exact ⟨v', rfl, hown, hk.trans ho, ho.mono fun _ _ h => h.elim⟩
        · obtain rfl := Option.some.inj (ho : some _ = some o)
          rw [if_pos (by decide)]
          exact left2_load 27 (.tmp 3) w.heap.size 27 _ _ rfl e3 (HB3.out.only hk (fun h => h)) Try.underlying27 rfl info27 rfl rfl hk
        · obtain rfl := Option.some.inj (ho : some _ = some o)
          rw [if_pos (by decide)]
          have s3 : a.tmps.getD 67 undef = .agg #[.string key, .int .i64 st, v3, .bool dead] := ht 3 (by omega) (by kernel_rfl)
          have s3' : a.tmps[67]?.getD undef = .agg #[.string key, .int .i64 st, v3, .bool dead] := by simpa using s3
          exact left2_new (.slice (some ⟨u.heap.size, 0, none⟩) 1 1) (u.alloc (.cells #[.string key, .int .i64 st, v3, .bool dead] 27)) (by simp [go_sem, s3']) ((Only.refl _ _).alloc _) ⟨_, rfl, Blk.new _ _ _⟩ rfl (hk.alloc _)
      case hend =>
        intro V' u k hk hkt hV'
        obtain ⟨pv0, v0, _⟩ : ∃ pv, V' 0 = pv ∧ T11 w.heap.size n cap A rs #[.string key, .int .i64 st, v3, .bool dead] 0 pv u := ⟨_, rfl, hV' 0 (by omega)⟩
        have v1 : V' 1 = .slice A n cap := hV' 1 (by omega)
        obtain ⟨pv2, v2, h2⟩ : ∃ pv, V' 2 = pv ∧ u.ownsRow w.heap.size 27 4 pv n (vflat rs) := ⟨_, rfl, hV' 2 (by omega)⟩
        have v3' : V' 3 = .agg #[.string key, .int .i64 st, v3, .bool dead] := hV' 3 (by omega)
        obtain ⟨b4, v4, hb4⟩ : ∃ b, V' 4 = .slice (some ⟨b, 0, none⟩) 1 1 ∧ Blk u b 27 #[.string key, .int .i64 st, v3, .bool dead] := hV' 4 (by omega)
        change wpList _ _ _ _ (Act.put (Act.put (Act.put (Act.put (Act.put _ (some 64) (V' 0)) (some 65) (V' 1)) (some 66) (V' 2)) (some 67) (V' 3)) (some 68) (V' 4)) _
        rw [v0, v1, v2, v3', v4]
        simp only [Act.put, List.setIfInBounds_toArray, List.set_cons_zero, List.set_cons_succ]
        simp only [List.drop_succ_cons, List.drop_zero]
        clear hV' v0 v1 v2 v3' v4
        have HVU := Lib.hid (HVAL.out.keep hk)
        have HOU := Lib.hid (HOW.out.trans hk)
        have hu := hk.size
        have hws := HWS.out
        have HNB : Hid (∀ j u', [Value.string key, .int .i64 st, v3, .bool dead][j]? = some u' → ∃ g off, some (⟨b4, 0, none⟩ : Addr) = some ⟨g, off, none⟩ ∧ u.cell? ⟨g, off + j, none⟩ = some u') := Lib.hid fun j u' hj => ⟨b4, 0, rfl, by rw [Nat.zero_add, hb4.cell]; simpa using hj⟩
        have hone : ∀ u' ∈ [Value.string key, .int .i64 st, v3, .bool dead], u'.oneCell' = true := fun u' hu' => by
          simp at hu'
          rcases hu' with rfl | rfl | rfl | rfl
          · rfl
          · rfl
          · rw [HV3.out]; rfl
          · rfl
        clear hk hkt hb4
        refine wpList_append_any rfl (.tmp 66) (.tmp 68) 65 rfl w.heap.size 27 i7 _ 4 56 Try.underlying65 hi7 hz70 hz71 hz73 rfl (by decide) pv2 n (vflat rs) rfl h2 (some ⟨b4, 0, none⟩) 1 1 [.string key, .int .i64 st, v3, .bool dead] rfl rfl HNB.out hone (by unfold maxLen; omega) (by omega) (by omega) fun v9 w9 hown9 ho9 _ => ?_
        have HR9 := Lib.hid (ownsRow_only HVU.out ho9 (fun g hg e => own_types (by decide) h2 HVU.out g e hg))
        have HO9 := Lib.hid (HOU.out.step ho9 (fun k hk e => by have := (ownsRow_lt h2 e).1; omega))
        have HW9 := Lib.hid hown9
        clear hown9 ho9 h2 hone
        go_wp2_with fail
        go_ret2
        refine ⟨HO9.out, .inr ⟨HCD.out, v9, ⟨key, st, v3, bs, dead⟩, rfl, rfl, HR9.out, ?_⟩⟩
        have h9 := HW9.out
        rw [show vflat (rs ++ [(⟨key, st, v3, bs, dead⟩ : VRow)]) = vflat rs ++ [.string key, .int .i64 st, v3, .bool dead] by simp [vflat, VRow.cells], HRN.out]
        exact h9
    · have HCD := Lib.hid hcd
      clear hcd
      go_wp2_with fail
      go_ret2
      exact ⟨HO2.out, .inl ⟨by rw [HCD.out]; omega, by rw [HCD.out]; rfl⟩⟩
    · have HCD := Lib.hid hcd
      clear hcd
      have hz2 := HOP.out.size
      have HE := Lib.hid (own_empty (B := w.heap.size + 1) (sz := 1) (Blk.new' (w2.alloc (.cells #[.string k, .int .i64 s, .slice Ao bo.length co, .bool d] 27)) 5 #[] (n := w2.heap.size + 1) (by simp)) (by omega))
      have HNEW := Lib.hid (BytesAt.news (HBY.out.keep (HO2.out.alloc (.cells #[] 5))))
      have HBA := Lib.hid ((HB2.out.alloc (.cells #[.string k, .int .i64 s, .slice Ao bo.length co, .bool d] 27)).alloc (.cells #[] 5))
      have HBL := Lib.hid (show (bs.map byteV).length = 0 * 1 by rw [List.length_map, HN.out, Nat.mul_one])
      obtain ⟨i0, hi, hz0, hz1, hz3⟩ := info_parts info5
      obtain ⟨i7, hi7, hz70, hz71, hz73⟩ := info_parts info27'
      go_wp2_with (at_builtin; refine wpList_append_any rfl (.tmp 59) (.tmp 61) 25 rfl (w.heap.size + 1) 5 i0 _ 1 1 Try.underlying25 hi hz0 hz1 hz3 rfl (by decide) _ 0 [] rfl HE.out Av 0 cc (bs.map byteV) rfl HBL.out HNEW.out (one_bytes bs) (by unfold maxLen; omega) (by omega) (by simp; omega) ?_; intro v3 w3 hown ho3 hat; rw [Nat.zero_add, List.nil_append] at hown; obtain ⟨Av3, cv3, rfl⟩ := ownsRow_slice hown; have HOWN := Lib.hid hown; have HO3 := Lib.hid ho3; have HBX := Lib.hid (HBA.out.only ho3 (fun e => by have e1 : (Value.slice (some ⟨w2.heap.size + 1, 0, none⟩) 0 0).ownBlock = some w.heap.size := e; simp [Value.ownBlock] at e1; omega)); have x2 := HBX.out.cellv 2 rfl; have f2 := HBX.out.free 2; clear hown ho3 hat)
      have hlt2 : w.heap.size < w2.heap.size := hbl
      have HVAL := Lib.hid (show RowB (w3.setCell ⟨w.heap.size, 2, none⟩ (.slice Av3 0 cv3)) w.heap.size (.slice Av3 0 cv3) bs from by
        have h1 : World.ownsRow w3 (w.heap.size + 1) 5 1 (.slice Av3 0 cv3) bs.length (bs.map byteV) := by rw [HN.out]; exact HOWN.out
        exact own_low (ownsRow_only h1 ((Only.refl (· = w.heap.size) w3).put (.inl rfl) _) (fun g hg e => by have := (ownsRow_lt h1 hg).1; omega)) (by omega))
      have HB3 : Hid (Blk (w3.setCell ⟨w.heap.size, 2, none⟩ (.slice Av3 0 cv3)) w.heap.size 27 #[.string key, .int .i64 st, .slice Av3 0 cv3, .bool dead]) := Lib.hid (HBX.out.put 2 _)
      have HOW := Lib.hid (show Only NoneOf w (w3.setCell ⟨w.heap.size, 2, none⟩ (.slice Av3 0 cv3)) from ((HO2.out.alloc (.cells #[] 5)).step HO3.out (fun k hk e => by
        have e1 : (Value.slice (some ⟨w2.heap.size + 1, 0, none⟩) 0 0).ownBlock = some k := e
        simp [Value.ownBlock] at e1
        omega)).put (.inr (Nat.le_refl _)) _)
      have HWS := Lib.hid HOW.out.size
      obtain ⟨w4, hw4⟩ : ∃ w4, w3.setCell ⟨w.heap.size, 2, none⟩ (.slice Av3 0 cv3) = w4 := ⟨_, rfl⟩
      rw [hw4] at HVAL HB3 HOW HWS ⊢
      clear hw4 HOWN HO3 HBX HE HNEW HBA HBL hz2 x2 f2
      obtain ⟨v3, hv3⟩ : ∃ v3, v3 = Value.slice Av3 0 cv3 := ⟨_, rfl⟩
      rw [← hv3] at HVAL HB3
      have HV3 := Lib.hid hv3
      clear hv3
      refine wp_region_head2 5 70 [] (fun _ => none) (fun _ => none) NoneOf (fun _ => Only NoneOf w4) (T11 w.heap.size n cap A rs #[.string key, .int .i64 st, v3, .bool dead]) rfl (by kernel_rfl) (by kernel_rfl) ?hskip ?hgv (T11_keep w.heap.size n cap A rs #[.string key, .int .i64 st, v3, .bool dead]) ((Only.refl _ _).drew) ?hstep ?hend
      case hskip =>
        intro i o hi ho hw k
        have : i = 0 ∨ i = 1 ∨ i = 2 ∨ i = 3 ∨ i = 4 := by omega
        rcases this with rfl | rfl | rfl | rfl | rfl
        · rfl
        · rfl
        · rfl
        · rfl
        · rfl
      case hgv =>
        intro g hg v w h
        cases hg
      case hstep =>
        intro i o hi ho a u k hk hik hs ht
        have e3 : a.tmps.getD 3 undef = .pointer (some ⟨w.heap.size, 0, none⟩) := hs 3 (of_decide_eq_true (by kernel_rfl))
        have e0 : a.tmps.getD 0 undef = .slice A n cap := hs 0 (of_decide_eq_true (by kernel_rfl))
        have : i = 0 ∨ i = 1 ∨ i = 2 ∨ i = 3 ∨ i = 4 := by omega
        rcases this with rfl | rfl | rfl | rfl | rfl
        · obtain rfl := Option.some.inj (ho : some _ = some o)
          rw [if_pos (by decide)]
          have hz := hk.size
          exact left2_new (.slice (some ⟨u.heap.size, 0, none⟩) 0 0) (u.alloc (.cells #[] 27)) (by simp [go_sem]) ((Only.refl _ _).alloc _) ⟨_, rfl, Blk.new _ _ _, by have := HWS.out; omega⟩ rfl (hk.alloc _)
        · obtain rfl := Option.some.inj (ho : some _ = some o)
          rw [if_pos (by decide)]
          exact left2_value (.slice A n cap) (by simp [go_sem, e0]) rfl rfl hk
        · obtain rfl := Option.some.inj (ho : some _ = some o)
          rw [if_pos (by decide)]
          have s1 : a.tmps.getD 65 undef = .slice A n cap := ht 1 (by omega) (by kernel_rfl)
          obtain ⟨g, s0, hg0, hgb⟩ : ∃ g, a.tmps.getD 64 undef = .slice (some ⟨g, 0, none⟩) 0 0 ∧ Blk u g 27 #[] ∧ w.heap.size ≤ g := ht 0 (by omega) (by kernel_rfl)
          have s1 : a.tmps.getD 65 undef = .slice A n cap := ht 1 (by omega) (by kernel_rfl)
          have hra := HA.out.keep (HOW.out.trans hk)
          have hz := hk.size
          refine wp_append_empty (.tmp 64) (.tmp 65) 65 rfl w.heap.size 27 i7 _ 4 56 Try.underlying65 hi7 hz70 hz71 hz73 rfl (by decide) g s0 hg0 hgb A n cap (vflat rs) s1 (by rw [vflat_length, HRN.out]) hra.news hra.one (by unfold maxLen; omega) (by omega) (by have := HWS.out; omega) fun v' w' hown ho => ?_
          exact ⟨v', rfl, hown, hk.trans ho, ho.mono fun _ _ h => h.elim⟩
        · obtain rfl := Option.some.inj (ho : some _ = some o)
          rw [if_pos (by decide)]
          exact left2_load 27 (.tmp 3) w.heap.size 27 _ _ rfl e3 (HB3.out.only hk (fun h => h)) Try.underlying27 rfl info27 rfl rfl hk
        · obtain rfl := Option.some.inj (ho : some _ = some o)
          rw [if_pos (by decide)]
          have s3 : a.tmps.getD 67 undef = .agg #[.string key, .int .i64 st, v3, .bool dead] := ht 3 (by omega) (by kernel_rfl)
          have s3' : a.tmps[67]?.getD undef = .agg #[.string key, .int .i64 st, v3, .bool dead] := by simpa using s3
          exact left2_new (.slice (some ⟨u.heap.size, 0, none⟩) 1 1) (u.alloc (.cells #[.string key, .int .i64 st, v3, .bool dead] 27)) (by simp [go_sem, s3']) ((Only.refl _ _).alloc _) ⟨_, rfl, Blk.new _ _ _⟩ rfl (hk.alloc _)
      case hend =>
        intro V' u k hk hkt hV'
        obtain ⟨pv0, v0, _⟩ : ∃ pv, V' 0 = pv ∧ T11 w.heap.size n cap A rs #[.string key, .int .i64 st, v3, .bool dead] 0 pv u := ⟨_, rfl, hV' 0 (by omega)⟩
        have v1 : V' 1 = .slice A n cap := hV' 1 (by omega)
        obtain ⟨pv2, v2, h2⟩ : ∃ pv, V' 2 = pv ∧ u.ownsRow w.heap.size 27 4 pv n (vflat rs) := ⟨_, rfl, hV' 2 (by omega)⟩
        have v3' : V' 3 = .agg #[.string key, .int .i64 st, v3, .bool dead] := hV' 3 (by omega)
        obtain ⟨b4, v4, hb4⟩ : ∃ b, V' 4 = .slice (some ⟨b, 0, none⟩) 1 1 ∧ Blk u b 27 #[.string key, .int .i64 st, v3, .bool dead] := hV' 4 (by omega)
        change wpList _ _ _ _ (Act.put (Act.put (Act.put (Act.put (Act.put _ (some 64) (V' 0)) (some 65) (V' 1)) (some 66) (V' 2)) (some 67) (V' 3)) (some 68) (V' 4)) _
        rw [v0, v1, v2, v3', v4]
        simp only [Act.put, List.setIfInBounds_toArray, List.set_cons_zero, List.set_cons_succ]
        simp only [List.drop_succ_cons, List.drop_zero]
        clear hV' v0 v1 v2 v3' v4
        have HVU := Lib.hid (HVAL.out.keep hk)
        have HOU := Lib.hid (HOW.out.trans hk)
        have hu := hk.size
        have hws := HWS.out
        have HNB : Hid (∀ j u', [Value.string key, .int .i64 st, v3, .bool dead][j]? = some u' → ∃ g off, some (⟨b4, 0, none⟩ : Addr) = some ⟨g, off, none⟩ ∧ u.cell? ⟨g, off + j, none⟩ = some u') := Lib.hid fun j u' hj => ⟨b4, 0, rfl, by rw [Nat.zero_add, hb4.cell]; simpa using hj⟩
        have hone : ∀ u' ∈ [Value.string key, .int .i64 st, v3, .bool dead], u'.oneCell' = true := fun u' hu' => by
          simp at hu'
          rcases hu' with rfl | rfl | rfl | rfl
          · rfl
          · rfl
          · rw [HV3.out]; rfl
          · rfl
        clear hk hkt hb4
        refine wpList_append_any rfl (.tmp 66) (.tmp 68) 65 rfl w.heap.size 27 i7 _ 4 56 Try.underlying65 hi7 hz70 hz71 hz73 rfl (by decide) pv2 n (vflat rs) rfl h2 (some ⟨b4, 0, none⟩) 1 1 [.string key, .int .i64 st, v3, .bool dead] rfl rfl HNB.out hone (by unfold maxLen; omega) (by omega) (by omega) fun v9 w9 hown9 ho9 _ => ?_
        have HR9 := Lib.hid (ownsRow_only HVU.out ho9 (fun g hg e => own_types (by decide) h2 HVU.out g e hg))
        have HO9 := Lib.hid (HOU.out.step ho9 (fun k hk e => by have := (ownsRow_lt h2 e).1; omega))
        have HW9 := Lib.hid hown9
        clear hown9 ho9 h2 hone
        go_wp2_with fail
        go_ret2
        refine ⟨HO9.out, .inr ⟨HCD.out, v9, ⟨key, st, v3, bs, dead⟩, rfl, rfl, HR9.out, ?_⟩⟩
        have h9 := HW9.out
        rw [show vflat (rs ++ [(⟨key, st, v3, bs, dead⟩ : VRow)]) = vflat rs ++ [.string key, .int .i64 st, v3, .bool dead] by simp [vflat, VRow.cells], HRN.out]
        exact h9
  ·
    go_enter Try.func57, Try.ntmps57
    go_wp2_with fail
    refine HLS.out.mono ?_; rintro e w2 ⟨rfl, ho2⟩
    have HO2 := Lib.hid ((HO.out.trans ho2).alloc (.cells #[.string k, .int .i64 s, .slice Ao bo.length co, .bool d] 27))
    have HOP := Lib.hid (HO.out.trans ho2)
    have HB2 := Lib.hid (HB.out.only ho2 (fun h => h))
    have c0 := HB2.out.cellv 0 rfl
    have c1 := HB2.out.cellv 1 rfl
    have c2 := HB2.out.cellv 2 rfl
    have c3 := HB2.out.cellv 3 rfl
    have hbl := HB2.out.lt
    obtain ⟨is, his⟩ : ∃ is, (nwRow rs key 4611686018427387904).isSome = is := ⟨_, rfl⟩
    rw [his] at hcase
    rw [his, HFORM.out]
    clear ho2 his HLS HFORM
    rcases hcase with ⟨rfl, hcd⟩ | ⟨rfl, hq, hcd⟩ | ⟨rfl, hq, hcd⟩
    · have HCD := Lib.hid hcd
      clear hcd
      have hz2 := HOP.out.size
      have HE := Lib.hid (own_empty (B := w.heap.size + 1) (sz := 1) (Blk.new' (w2.alloc (.cells #[.string k, .int .i64 s, .slice Ao bo.length co, .bool d] 27)) 5 #[] (n := w2.heap.size + 1) (by simp)) (by omega))
      have HNEW := Lib.hid (BytesAt.news (HBY.out.keep (HO2.out.alloc (.cells #[] 5))))
      have HBA := Lib.hid ((HB2.out.alloc (.cells #[.string k, .int .i64 s, .slice Ao bo.length co, .bool d] 27)).alloc (.cells #[] 5))
      have HBL := Lib.hid (show (bs.map byteV).length = nn * 1 by rw [List.length_map, HN.out, Nat.mul_one])
      obtain ⟨i0, hi, hz0, hz1, hz3⟩ := info_parts info5
      obtain ⟨i7, hi7, hz70, hz71, hz73⟩ := info_parts info27'
      go_wp2_with (at_builtin; refine wpList_append_any rfl (.tmp 59) (.tmp 61) 25 rfl (w.heap.size + 1) 5 i0 _ 1 1 Try.underlying25 hi hz0 hz1 hz3 rfl (by decide) _ 0 [] rfl HE.out Av nn cc (bs.map byteV) rfl HBL.out HNEW.out (one_bytes bs) (by unfold maxLen; omega) (by omega) (by simp; omega) ?_; intro v3 w3 hown ho3 hat; rw [Nat.zero_add, List.nil_append] at hown; obtain ⟨Av3, cv3, rfl⟩ := ownsRow_slice hown; have HOWN := Lib.hid hown; have HO3 := Lib.hid ho3; have HBX := Lib.hid (HBA.out.only ho3 (fun e => by have e1 : (Value.slice (some ⟨w2.heap.size + 1, 0, none⟩) 0 0).ownBlock = some w.heap.size := e; simp [Value.ownBlock] at e1; omega)); have x2 := HBX.out.cellv 2 rfl; have f2 := HBX.out.free 2; clear hown ho3 hat)
      have hlt2 : w.heap.size < w2.heap.size := hbl
      have HVAL := Lib.hid (show RowB (w3.setCell ⟨w.heap.size, 2, none⟩ (.slice Av3 nn cv3)) w.heap.size (.slice Av3 nn cv3) bs from by
        have h1 : World.ownsRow w3 (w.heap.size + 1) 5 1 (.slice Av3 nn cv3) bs.length (bs.map byteV) := by rw [HN.out]; exact HOWN.out
        exact own_low (ownsRow_only h1 ((Only.refl (· = w.heap.size) w3).put (.inl rfl) _) (fun g hg e => by have := (ownsRow_lt h1 hg).1; omega)) (by omega))
      have HB3 : Hid (Blk (w3.setCell ⟨w.heap.size, 2, none⟩ (.slice Av3 nn cv3)) w.heap.size 27 #[.string key, .int .i64 st, .slice Av3 nn cv3, .bool false]) := Lib.hid (HBX.out.put 2 _)
      have HOW := Lib.hid (show Only NoneOf w (w3.setCell ⟨w.heap.size, 2, none⟩ (.slice Av3 nn cv3)) from ((HO2.out.alloc (.cells #[] 5)).step HO3.out (fun k hk e => by
        have e1 : (Value.slice (some ⟨w2.heap.size + 1, 0, none⟩) 0 0).ownBlock = some k := e
        simp [Value.ownBlock] at e1
        omega)).put (.inr (Nat.le_refl _)) _)
      have HWS := Lib.hid HOW.out.size
      obtain ⟨w4, hw4⟩ : ∃ w4, w3.setCell ⟨w.heap.size, 2, none⟩ (.slice Av3 nn cv3) = w4 := ⟨_, rfl⟩
      rw [hw4] at HVAL HB3 HOW HWS ⊢
      clear hw4 HOWN HO3 HBX HE HNEW HBA HBL hz2 x2 f2
      obtain ⟨v3, hv3⟩ : ∃ v3, v3 = Value.slice Av3 nn cv3 := ⟨_, rfl⟩
      rw [← hv3] at HVAL HB3
      have HV3 := Lib.hid hv3
      clear hv3
      refine wp_region_head2 5 70 [] (fun _ => none) (fun _ => none) NoneOf (fun _ => Only NoneOf w4) (T11 w.heap.size n cap A rs #[.string key, .int .i64 st, v3, .bool false]) rfl (by kernel_rfl) (by kernel_rfl) ?hskip ?hgv (T11_keep w.heap.size n cap A rs #[.string key, .int .i64 st, v3, .bool false]) ((Only.refl _ _).drew) ?hstep ?hend
      case hskip =>
        intro i o hi ho hw k
        have : i = 0 ∨ i = 1 ∨ i = 2 ∨ i = 3 ∨ i = 4 := by omega
        rcases this with rfl | rfl | rfl | rfl | rfl
        · rfl
        · rfl
        · rfl
        · rfl
        · rfl
      case hgv =>
        intro g hg v w h
        cases hg
      case hstep =>
        intro i o hi ho a u k hk hik hs ht
        have e3 : a.tmps.getD 3 undef = .pointer (some ⟨w.heap.size, 0, none⟩) := hs 3 (of_decide_eq_true (by kernel_rfl))
        have e0 : a.tmps.getD 0 undef = .slice A n cap := hs 0 (of_decide_eq_true (by kernel_rfl))
        have : i = 0 ∨ i = 1 ∨ i = 2 ∨ i = 3 ∨ i = 4 := by omega
        rcases this with rfl | rfl | rfl | rfl | rfl
        · obtain rfl := Option.some.inj (ho : some _ = some o)
          rw [if_pos (by decide)]
          have hz := hk.size
          exact left2_new (.slice (some ⟨u.heap.size, 0, none⟩) 0 0) (u.alloc (.cells #[] 27)) (by simp [go_sem]) ((Only.refl _ _).alloc _) ⟨_, rfl, Blk.new _ _ _, by have := HWS.out; omega⟩ rfl (hk.alloc _)
        · obtain rfl := Option.some.inj (ho : some _ = some o)
          rw [if_pos (by decide)]
          exact left2_value (.slice A n cap) (by simp [go_sem, e0]) rfl rfl hk
        · obtain rfl := Option.some.inj (ho : some _ = some o)
          rw [if_pos (by decide)]
          have s1 : a.tmps.getD 65 undef = .slice A n cap := ht 1 (by omega) (by kernel_rfl)
          obtain ⟨g, s0, hg0, hgb⟩ : ∃ g, a.tmps.getD 64 undef = .slice (some ⟨g, 0, none⟩) 0 0 ∧ Blk u g 27 #[] ∧ w.heap.size ≤ g := ht 0 (by omega) (by kernel_rfl)
          have s1 : a.tmps.getD 65 undef = .slice A n cap := ht 1 (by omega) (by kernel_rfl)
          have hra := HA.out.keep (HOW.out.trans hk)
          have hz := hk.size
          refine wp_append_empty (.tmp 64) (.tmp 65) 65 rfl w.heap.size 27 i7 _ 4 56 Try.underlying65 hi7 hz70 hz71 hz73 rfl (by decide) g s0 hg0 hgb A n cap (vflat rs) s1 (by rw [vflat_length, HRN.out]) hra.news hra.one (by unfold maxLen; omega) (by omega) (by have := HWS.out; omega) fun v' w' hown ho => ?_
          exact ⟨v', rfl, hown, hk.trans ho, ho.mono fun _ _ h => h.elim⟩
        · obtain rfl := Option.some.inj (ho : some _ = some o)
          rw [if_pos (by decide)]
          exact left2_load 27 (.tmp 3) w.heap.size 27 _ _ rfl e3 (HB3.out.only hk (fun h => h)) Try.underlying27 rfl info27 rfl rfl hk
        · obtain rfl := Option.some.inj (ho : some _ = some o)
          rw [if_pos (by decide)]
          have s3 : a.tmps.getD 67 undef = .agg #[.string key, .int .i64 st, v3, .bool false] := ht 3 (by omega) (by kernel_rfl)
          have s3' : a.tmps[67]?.getD undef = .agg #[.string key, .int .i64 st, v3, .bool false] := by simpa using s3
          exact left2_new (.slice (some ⟨u.heap.size, 0, none⟩) 1 1) (u.alloc (.cells #[.string key, .int .i64 st, v3, .bool false] 27)) (by simp [go_sem, s3']) ((Only.refl _ _).alloc _) ⟨_, rfl, Blk.new _ _ _⟩ rfl (hk.alloc _)
      case hend =>
        intro V' u k hk hkt hV'
        obtain ⟨pv0, v0, _⟩ : ∃ pv, V' 0 = pv ∧ T11 w.heap.size n cap A rs #[.string key, .int .i64 st, v3, .bool false] 0 pv u := ⟨_, rfl, hV' 0 (by omega)⟩
        have v1 : V' 1 = .slice A n cap := hV' 1 (by omega)
        obtain ⟨pv2, v2, h2⟩ : ∃ pv, V' 2 = pv ∧ u.ownsRow w.heap.size 27 4 pv n (vflat rs) := ⟨_, rfl, hV' 2 (by omega)⟩
        have v3' : V' 3 = .agg #[.string key, .int .i64 st, v3, .bool false] := hV' 3 (by omega)
        obtain ⟨b4, v4, hb4⟩ : ∃ b, V' 4 = .slice (some ⟨b, 0, none⟩) 1 1 ∧ Blk u b 27 #[.string key, .int .i64 st, v3, .bool false] := hV' 4 (by omega)
        change wpList _ _ _ _ (Act.put (Act.put (Act.put (Act.put (Act.put _ (some 64) (V' 0)) (some 65) (V' 1)) (some 66) (V' 2)) (some 67) (V' 3)) (some 68) (V' 4)) _
        rw [v0, v1, v2, v3', v4]
        simp only [Act.put, List.setIfInBounds_toArray, List.set_cons_zero, List.set_cons_succ]
        simp only [List.drop_succ_cons, List.drop_zero]
        clear hV' v0 v1 v2 v3' v4
        have HVU := Lib.hid (HVAL.out.keep hk)
        have HOU := Lib.hid (HOW.out.trans hk)
        have hu := hk.size
        have hws := HWS.out
        have HNB : Hid (∀ j u', [Value.string key, .int .i64 st, v3, .bool false][j]? = some u' → ∃ g off, some (⟨b4, 0, none⟩ : Addr) = some ⟨g, off, none⟩ ∧ u.cell? ⟨g, off + j, none⟩ = some u') := Lib.hid fun j u' hj => ⟨b4, 0, rfl, by rw [Nat.zero_add, hb4.cell]; simpa using hj⟩
        have hone : ∀ u' ∈ [Value.string key, .int .i64 st, v3, .bool false], u'.oneCell' = true := fun u' hu' => by
          simp at hu'
          rcases hu' with rfl | rfl | rfl | rfl
          · rfl
          · rfl
          · rw [HV3.out]; rfl
          · rfl
        clear hk hkt hb4
        refine wpList_append_any rfl (.tmp 66) (.tmp 68) 65 rfl w.heap.size 27 i7 _ 4 56 Try.underlying65 hi7 hz70 hz71 hz73 rfl (by decide) pv2 n (vflat rs) rfl h2 (some ⟨b4, 0, none⟩) 1 1 [.string key, .int .i64 st, v3, .bool false] rfl rfl HNB.out hone (by unfold maxLen; omega) (by omega) (by omega) fun v9 w9 hown9 ho9 _ => ?_
        have HR9 := Lib.hid (ownsRow_only HVU.out ho9 (fun g hg e => own_types (by decide) h2 HVU.out g e hg))
        have HO9 := Lib.hid (HOU.out.step ho9 (fun k hk e => by have := (ownsRow_lt h2 e).1; omega))
        have HW9 := Lib.hid hown9
        clear hown9 ho9 h2 hone
        go_wp2_with fail
        go_ret2
        refine ⟨HO9.out, .inr ⟨HCD.out, v9, ⟨key, st, v3, bs, false⟩, rfl, rfl, HR9.out, ?_⟩⟩
        have h9 := HW9.out
        rw [show vflat (rs ++ [(⟨key, st, v3, bs, false⟩ : VRow)]) = vflat rs ++ [.string key, .int .i64 st, v3, .bool false] by simp [vflat, VRow.cells], HRN.out]
        exact h9
    · have HCD := Lib.hid hcd
      clear hcd
      go_wp2_with fail
      go_ret2
      exact ⟨HO2.out, .inl ⟨by rw [HCD.out]; omega, by rw [HCD.out]; rfl⟩⟩
    · have HCD := Lib.hid hcd
      clear hcd
      have hz2 := HOP.out.size
      have HE := Lib.hid (own_empty (B := w.heap.size + 1) (sz := 1) (Blk.new' (w2.alloc (.cells #[.string k, .int .i64 s, .slice Ao bo.length co, .bool d] 27)) 5 #[] (n := w2.heap.size + 1) (by simp)) (by omega))
      have HNEW := Lib.hid (BytesAt.news (HBY.out.keep (HO2.out.alloc (.cells #[] 5))))
      have HBA := Lib.hid ((HB2.out.alloc (.cells #[.string k, .int .i64 s, .slice Ao bo.length co, .bool d] 27)).alloc (.cells #[] 5))
      have HBL := Lib.hid (show (bs.map byteV).length = nn * 1 by rw [List.length_map, HN.out, Nat.mul_one])
      obtain ⟨i0, hi, hz0, hz1, hz3⟩ := info_parts info5
      obtain ⟨i7, hi7, hz70, hz71, hz73⟩ := info_parts info27'
      go_wp2_with (at_builtin; refine wpList_append_any rfl (.tmp 59) (.tmp 61) 25 rfl (w.heap.size + 1) 5 i0 _ 1 1 Try.underlying25 hi hz0 hz1 hz3 rfl (by decide) _ 0 [] rfl HE.out Av nn cc (bs.map byteV) rfl HBL.out HNEW.out (one_bytes bs) (by unfold maxLen; omega) (by omega) (by simp; omega) ?_; intro v3 w3 hown ho3 hat; rw [Nat.zero_add, List.nil_append] at hown; obtain ⟨Av3, cv3, rfl⟩ := ownsRow_slice hown; have HOWN := Lib.hid hown; have HO3 := Lib.hid ho3; have HBX := Lib.hid (HBA.out.only ho3 (fun e => by have e1 : (Value.slice (some ⟨w2.heap.size + 1, 0, none⟩) 0 0).ownBlock = some w.heap.size := e; simp [Value.ownBlock] at e1; omega)); have x2 := HBX.out.cellv 2 rfl; have f2 := HBX.out.free 2; clear hown ho3 hat)
      have hlt2 : w.heap.size < w2.heap.size := hbl
      have HVAL := Lib.hid (show RowB (w3.setCell ⟨w.heap.size, 2, none⟩ (.slice Av3 nn cv3)) w.heap.size (.slice Av3 nn cv3) bs from by
        have h1 : World.ownsRow w3 (w.heap.size + 1) 5 1 (.slice Av3 nn cv3) bs.length (bs.map byteV) := by rw [HN.out]; exact HOWN.out
        exact own_low (ownsRow_only h1 ((Only.refl (· = w.heap.size) w3).put (.inl rfl) _) (fun g hg e => by have := (ownsRow_lt h1 hg).1; omega)) (by omega))
      have HB3 : Hid (Blk (w3.setCell ⟨w.heap.size, 2, none⟩ (.slice Av3 nn cv3)) w.heap.size 27 #[.string key, .int .i64 st, .slice Av3 nn cv3, .bool false]) := Lib.hid (HBX.out.put 2 _)
      have HOW := Lib.hid (show Only NoneOf w (w3.setCell ⟨w.heap.size, 2, none⟩ (.slice Av3 nn cv3)) from ((HO2.out.alloc (.cells #[] 5)).step HO3.out (fun k hk e => by
        have e1 : (Value.slice (some ⟨w2.heap.size + 1, 0, none⟩) 0 0).ownBlock = some k := e
        simp [Value.ownBlock] at e1
        omega)).put (.inr (Nat.le_refl _)) _)
      have HWS := Lib.hid HOW.out.size
      obtain ⟨w4, hw4⟩ : ∃ w4, w3.setCell ⟨w.heap.size, 2, none⟩ (.slice Av3 nn cv3) = w4 := ⟨_, rfl⟩
      rw [hw4] at HVAL HB3 HOW HWS ⊢
      clear hw4 HOWN HO3 HBX HE HNEW HBA HBL hz2 x2 f2
      obtain ⟨v3, hv3⟩ : ∃ v3, v3 = Value.slice Av3 nn cv3 := ⟨_, rfl⟩
      rw [← hv3] at HVAL HB3
      have HV3 := Lib.hid hv3
      clear hv3
      refine wp_region_head2 5 70 [] (fun _ => none) (fun _ => none) NoneOf (fun _ => Only NoneOf w4) (T11 w.heap.size n cap A rs #[.string key, .int .i64 st, v3, .bool false]) rfl (by kernel_rfl) (by kernel_rfl) ?hskip ?hgv (T11_keep w.heap.size n cap A rs #[.string key, .int .i64 st, v3, .bool false]) ((Only.refl _ _).drew) ?hstep ?hend
      case hskip =>
        intro i o hi ho hw k
        have : i = 0 ∨ i = 1 ∨ i = 2 ∨ i = 3 ∨ i = 4 := by omega
        rcases this with rfl | rfl | rfl | rfl | rfl
        · rfl
        · rfl
        · rfl
        · rfl
        · rfl
      case hgv =>
        intro g hg v w h
        cases hg
      case hstep =>
        intro i o hi ho a u k hk hik hs ht
        have e3 : a.tmps.getD 3 undef = .pointer (some ⟨w.heap.size, 0, none⟩) := hs 3 (of_decide_eq_true (by kernel_rfl))
        have e0 : a.tmps.getD 0 undef = .slice A n cap := hs 0 (of_decide_eq_true (by kernel_rfl))
        have : i = 0 ∨ i = 1 ∨ i = 2 ∨ i = 3 ∨ i = 4 := by omega
        rcases this with rfl | rfl | rfl | rfl | rfl
        · obtain rfl := Option.some.inj (ho : some _ = some o)
          rw [if_pos (by decide)]
          have hz := hk.size
          exact left2_new (.slice (some ⟨u.heap.size, 0, none⟩) 0 0) (u.alloc (.cells #[] 27)) (by simp [go_sem]) ((Only.refl _ _).alloc _) ⟨_, rfl, Blk.new _ _ _, by have := HWS.out; omega⟩ rfl (hk.alloc _)
        · obtain rfl := Option.some.inj (ho : some _ = some o)
          rw [if_pos (by decide)]
          exact left2_value (.slice A n cap) (by simp [go_sem, e0]) rfl rfl hk
        · obtain rfl := Option.some.inj (ho : some _ = some o)
          rw [if_pos (by decide)]
          have s1 : a.tmps.getD 65 undef = .slice A n cap := ht 1 (by omega) (by kernel_rfl)
          obtain ⟨g, s0, hg0, hgb⟩ : ∃ g, a.tmps.getD 64 undef = .slice (some ⟨g, 0, none⟩) 0 0 ∧ Blk u g 27 #[] ∧ w.heap.size ≤ g := ht 0 (by omega) (by kernel_rfl)
          have s1 : a.tmps.getD 65 undef = .slice A n cap := ht 1 (by omega) (by kernel_rfl)
          have hra := HA.out.keep (HOW.out.trans hk)
          have hz := hk.size
          refine wp_append_empty (.tmp 64) (.tmp 65) 65 rfl w.heap.size 27 i7 _ 4 56 Try.underlying65 hi7 hz70 hz71 hz73 rfl (by decide) g s0 hg0 hgb A n cap (vflat rs) s1 (by rw [vflat_length, HRN.out]) hra.news hra.one (by unfold maxLen; omega) (by omega) (by have := HWS.out; omega) fun v' w' hown ho => ?_
          exact ⟨v', rfl, hown, hk.trans ho, ho.mono fun _ _ h => h.elim⟩
        · obtain rfl := Option.some.inj (ho : some _ = some o)
          rw [if_pos (by decide)]
          exact left2_load 27 (.tmp 3) w.heap.size 27 _ _ rfl e3 (HB3.out.only hk (fun h => h)) Try.underlying27 rfl info27 rfl rfl hk
        · obtain rfl := Option.some.inj (ho : some _ = some o)
          rw [if_pos (by decide)]
          have s3 : a.tmps.getD 67 undef = .agg #[.string key, .int .i64 st, v3, .bool false] := ht 3 (by omega) (by kernel_rfl)
          have s3' : a.tmps[67]?.getD undef = .agg #[.string key, .int .i64 st, v3, .bool false] := by simpa using s3
          exact left2_new (.slice (some ⟨u.heap.size, 0, none⟩) 1 1) (u.alloc (.cells #[.string key, .int .i64 st, v3, .bool false] 27)) (by simp [go_sem, s3']) ((Only.refl _ _).alloc _) ⟨_, rfl, Blk.new _ _ _⟩ rfl (hk.alloc _)
      case hend =>
        intro V' u k hk hkt hV'
        obtain ⟨pv0, v0, _⟩ : ∃ pv, V' 0 = pv ∧ T11 w.heap.size n cap A rs #[.string key, .int .i64 st, v3, .bool false] 0 pv u := ⟨_, rfl, hV' 0 (by omega)⟩
        have v1 : V' 1 = .slice A n cap := hV' 1 (by omega)
        obtain ⟨pv2, v2, h2⟩ : ∃ pv, V' 2 = pv ∧ u.ownsRow w.heap.size 27 4 pv n (vflat rs) := ⟨_, rfl, hV' 2 (by omega)⟩
        have v3' : V' 3 = .agg #[.string key, .int .i64 st, v3, .bool false] := hV' 3 (by omega)
        obtain ⟨b4, v4, hb4⟩ : ∃ b, V' 4 = .slice (some ⟨b, 0, none⟩) 1 1 ∧ Blk u b 27 #[.string key, .int .i64 st, v3, .bool false] := hV' 4 (by omega)
        change wpList _ _ _ _ (Act.put (Act.put (Act.put (Act.put (Act.put _ (some 64) (V' 0)) (some 65) (V' 1)) (some 66) (V' 2)) (some 67) (V' 3)) (some 68) (V' 4)) _
        rw [v0, v1, v2, v3', v4]
        simp only [Act.put, List.setIfInBounds_toArray, List.set_cons_zero, List.set_cons_succ]
        simp only [List.drop_succ_cons, List.drop_zero]
        clear hV' v0 v1 v2 v3' v4
        have HVU := Lib.hid (HVAL.out.keep hk)
        have HOU := Lib.hid (HOW.out.trans hk)
        have hu := hk.size
        have hws := HWS.out
        have HNB : Hid (∀ j u', [Value.string key, .int .i64 st, v3, .bool false][j]? = some u' → ∃ g off, some (⟨b4, 0, none⟩ : Addr) = some ⟨g, off, none⟩ ∧ u.cell? ⟨g, off + j, none⟩ = some u') := Lib.hid fun j u' hj => ⟨b4, 0, rfl, by rw [Nat.zero_add, hb4.cell]; simpa using hj⟩
        have hone : ∀ u' ∈ [Value.string key, .int .i64 st, v3, .bool false], u'.oneCell' = true := fun u' hu' => by
          simp at hu'
          rcases hu' with rfl | rfl | rfl | rfl
          · rfl
          · rfl
          · rw [HV3.out]; rfl
          · rfl
        clear hk hkt hb4
        refine wpList_append_any rfl (.tmp 66) (.tmp 68) 65 rfl w.heap.size 27 i7 _ 4 56 Try.underlying65 hi7 hz70 hz71 hz73 rfl (by decide) pv2 n (vflat rs) rfl h2 (some ⟨b4, 0, none⟩) 1 1 [.string key, .int .i64 st, v3, .bool false] rfl rfl HNB.out hone (by unfold maxLen; omega) (by omega) (by omega) fun v9 w9 hown9 ho9 _ => ?_
        have HR9 := Lib.hid (ownsRow_only HVU.out ho9 (fun g hg e => own_types (by decide) h2 HVU.out g e hg))
        have HO9 := Lib.hid (HOU.out.step ho9 (fun k hk e => by have := (ownsRow_lt h2 e).1; omega))
        have HW9 := Lib.hid hown9
        clear hown9 ho9 h2 hone
        go_wp2_with fail
        go_ret2
        refine ⟨HO9.out, .inr ⟨HCD.out, v9, ⟨key, st, v3, bs, false⟩, rfl, rfl, HR9.out, ?_⟩⟩
        have h9 := HW9.out
        rw [show vflat (rs ++ [(⟨key, st, v3, bs, false⟩ : VRow)]) = vflat rs ++ [.string key, .int .i64 st, v3, .bool false] by simp [vflat, VRow.cells], HRN.out]
        exact h9

end Go.Proofs.Ytnonnencdhogiaa

/-
  The reference of layer 14: a list of texts sorted.
-/
namespace Go.Proofs.Ytnonnencdhogiaa
open Go.RowKit Go.Maps Go.Sort

theorem dedup_snoc : ∀ (xs : List (List UInt8)) (a : List UInt8), dedup (xs ++ [a]) = if xs.getLast? = some a then dedup xs else dedup xs ++ [a]
  | [], a => rfl
  | [x], a => by
    simp only [List.cons_append, List.nil_append, List.getLast?_singleton, Option.some.injEq]
    unfold dedup
    by_cases h : x = a
    · rw [if_pos h, if_pos h]; subst h; rfl
    · rw [if_neg h, if_neg h]; rfl
  | x :: y :: ys, a => by
    have ih := dedup_snoc (y :: ys) a
    have h1 : (x :: y :: ys) ++ [a] = x :: y :: (ys ++ [a]) := rfl
    have h2 : y :: ys ++ [a] = y :: (ys ++ [a]) := rfl
    have h3 : (x :: y :: ys).getLast? = (y :: ys).getLast? := by simp [List.getLast?_cons_cons]
    rw [h1, h3]
    rw [h2] at ih
    by_cases h : x = y
    · rw [show dedup (x :: y :: (ys ++ [a])) = dedup (y :: (ys ++ [a])) by rw [dedup, if_pos h], show dedup (x :: y :: ys) = dedup (y :: ys) by rw [dedup, if_pos h], ih]
    · rw [show dedup (x :: y :: (ys ++ [a])) = x :: dedup (y :: (ys ++ [a])) by rw [dedup, if_neg h], show dedup (x :: y :: ys) = x :: dedup (y :: ys) by rw [dedup, if_neg h], ih]
      split <;> rfl

theorem sort_row (w : World) (B : Nat) (v : Value) (l : List (List UInt8)) (h : RowS w B v l) (hfew : l.length ≤ 2513169434916) : Calls Try.prog 27 #[v] w fun e w' => e = .returned (.tuple #[]) ∧ (∃ A c, v = .slice A l.length c ∧ StrsAt w' B A (l.mergeSort leB)) ∧ Only (fun k => v.ownBlock = some k) w w' := by
  rcases h.2 with ⟨rfl, h0⟩ | ⟨g, cap, cur, rfl, hB, hb, hle, hmax, hsz, hcur⟩
  · obtain rfl : l = [] := List.eq_nil_of_length_eq_zero h0
    refine (AnyM.slices_Sort_string_none Try.sort27 none 0 w).mono ?_
    rintro e w' ⟨rfl, rfl⟩
    exact ⟨rfl, ⟨none, 0, rfl, fun i k hk => by simp at hk⟩, Only.refl _ _⟩
  · have hblk : Blk w g 9 cur := hb
    have hH : Go.Sort.Holds encStr w g 0 l.toArray := by
      intro j hj
      have hj' : j < l.length := by simpa using hj
      have : w.cell? ⟨g, j, none⟩ = some (encStr l[j]) := by
        rw [hblk.cell, ← Array.getElem?_toList]
        have := congrArg (fun x => x[j]?) hcur
        rw [List.getElem?_take_of_lt (by omega)] at this
        rw [this, List.getElem?_map, List.getElem?_eq_getElem hj']
        rfl
      refine ⟨?_, hblk.free _⟩
      rw [Nat.zero_add, this]
      simp [hj']
    have hgl := hblk.lt
    refine (AnyM.slices_Sort_string Try.sort27 g 0 cap l w hH hgl (by omega)).mono ?_
    rintro e w' ⟨rfl, n, os, rfl⟩
    have hp := holds_putRow encStr (Go.Sort.ahead w n) g 0 _ (l.mergeSort fun x y => decide (x ≤ y)).toArray (holds_ahead encStr w n g 0 _ hH) (by simp)
    have hbs : g < (putRow encStr (Go.Sort.ahead w n) g 0 (l.mergeSort fun x y => decide (x ≤ y)).toArray).heap.size := by simpa [putRow, mapBlock, Go.Sort.ahead] using hgl
    have hg := holds_grow encStr _ os g 0 _ hbs hp
    have ho := only_sorted encStr w n g 0 (l.mergeSort fun x y => decide (x ≤ y)).toArray os
    refine ⟨rfl, ⟨_, _, rfl, fun i k hk => ⟨g, rfl, hB, Nat.lt_of_lt_of_le hgl ho.size, ?_⟩⟩, ho.mono fun k _ e => by subst e; rfl⟩
    have hil := (List.getElem?_eq_some_iff.1 hk).1
    have hle2 : (l.mergeSort leB) = (l.mergeSort fun x y => decide (x ≤ y)) := rfl
    rw [hle2] at hk hil
    have h1 := (hg i (by simpa using hil)).1
    rw [Nat.zero_add] at h1
    rw [h1]
    have h2 := (List.getElem?_eq_some_iff.1 hk).2
    have h3 : (l.mergeSort fun x y => decide (x ≤ y))[i]?.getD default = k := by rw [hk]; rfl
    simp [encStr, h3]

theorem Strings_ref (w : World) (B : Nat) (v : Value) (l : List (List UInt8)) (h : RowS w B v l) (hfew : l.length ≤ 2513169434916) : Calls Try.prog 83 #[v] w fun e w' => e = .returned (.tuple #[]) ∧ (∃ A c, v = .slice A l.length c ∧ StrsAt w' B A (l.mergeSort leB)) ∧ Only (fun k => v.ownBlock = some k) w w' := by
  have HS := Lib.hid (sort_row w B v l h hfew)
  obtain ⟨A, c, rfl⟩ := ownsRow_slice h
  obtain ⟨n, hn⟩ : ∃ n, l.length = n := ⟨_, rfl⟩
  have HN := Lib.hid hn
  rw [hn] at HS ⊢
  clear h hn hfew
  go_enter Try.func83, Try.ntmps83
  go_wp2_with fail
  refine HS.out.mono ?_; rintro e w' ⟨rfl, h1, h2⟩
  have H1 := Lib.hid h1
  have H2 := Lib.hid h2
  clear h1 h2 HS
  go_wp2_with fail
  exact bodyPost_end (v := .tuple #[]) (by simp [results, Try.results83]) rfl ⟨rfl, H1.out, H2.out⟩

end Go.Proofs.Ytnonnencdhogiaa

/-
  The reference of layer 14: Keys.
-/
namespace Go.Proofs.Ytnonnencdhogiaa
open Go.RowKit Go.Maps

theorem info9u : (Try.prog.info? 9).map (fun i => (i.zero, i.size, i.bytes)) = some (some (.string ⟨#[]⟩), 1, 16) := by kernel_rfl
def keyL (rs : List VRow) : List (List UInt8) := rs.map fun r => r.key.data.toList
theorem keyL_take {rs : List VRow} {i : Nat} {r : VRow} (h : rs[i]? = some r) : keyL (rs.take (i + 1)) = keyL (rs.take i) ++ [r.key.data.toList] := by
  rw [List.take_add_one, h]
  simp [keyL]
theorem enc_key (k : ByteArray) : encStr k.data.toList = .string k := by simp [encStr]
theorem enc_keyB (k : List UInt8) : encStr k = .string (keyB k) := rfl

set_option maxRecDepth 100000 in
set_option maxHeartbeats 4000000 in
theorem Keys_ref (w : World) (A : Option Addr) (cap : Nat) (rs : List VRow) (hA : RAt w A rs) (hfew : rs.length ≤ 2513169434916) :
    Calls Try.prog 62 #[.slice A rs.length cap] w (KeysPost (dedup ((keyL rs).mergeSort leB)) w) := by
  have HA := Lib.hid hA
  obtain ⟨n, hn⟩ : ∃ n, rs.length = n := ⟨_, rfl⟩
  have HN := Lib.hid hn
  rw [hn] at hfew ⊢
  clear hA hn
  obtain ⟨i0, hi, hz0, hz1, hz3⟩ := info_parts info9u
  go_enter Try.func62, Try.ntmps62
  go_wp2_with fail
  go_loopw [3, 11] (fun v vi wr => ∃ i : Nat, vi = .int .i64 i ∧ i ≤ n ∧ RowS wr w.heap.size v (keyL (rs.take i)) ∧ Only NoneOf w wr) (fun _ vi _ => n - (intOf vi).toNat)
  case atStart => exact ⟨0, rfl, by omega, ⟨rfl, .inl ⟨rfl, rfl⟩⟩, Only.refl _ _⟩
  case round =>
    obtain ⟨i, rfl, hi2, hrow, hO⟩ := hrel
    have HO := Lib.hid hO
    have hsz := hO.size
    have hkl : (keyL (rs.take i)).length = i := by rw [keyL, List.length_map, List.length_take, HN.out]; omega
    obtain ⟨Aq, cq, rfl⟩ := ownsRow_slice hrow
    unfold RowS at hrow
    rw [hkl] at hrow ⊢
    by_cases hlt : i < n
    · have hx : rs[i]? = some (rs[i]'(by rw [HN.out]; exact hlt)) := List.getElem?_eq_getElem _
      generalize rs[i]'(by rw [HN.out]; exact hlt) = r at hx
      obtain ⟨g, off, Ab, cb, rfl, hg, d0, d1, d2, d3, hval, _, hks⟩ := (HA.out.keep HO.out) i r hx
      have HROW := Lib.hid (ownsRow_only (ownsRow_only hrow ((Only.refl NoneOf wr).alloc (.cells #[.string r.key, .int .i64 r.st, .slice Ab r.bs.length cb, .bool r.dead] 27)) (fun _ _ h => h)) ((Only.refl NoneOf _).alloc (.cells #[.string r.key] 9)) (fun _ _ h => h))
      have HTK := Lib.hid (keyL_take hx)
      have HKL := Lib.hid hkl
      have HLT := Lib.hid (fun g (e : (Value.slice Aq i cq).ownBlock = some g) => ownsRow_lt hrow e)
      have HNW := Lib.hid (Blk.new' (wr.alloc (.cells #[.string r.key, .int .i64 r.st, .slice Ab r.bs.length cb, .bool r.dead] 27)) 9 #[.string r.key] (n := wr.heap.size + 1) (by simp))
      have HO2 := Lib.hid ((HO.out.alloc (.cells #[.string r.key, .int .i64 r.st, .slice Ab r.bs.length cb, .bool r.dead] 27)).alloc (.cells #[.string r.key] 9))
      clear hrow hx hval hO hkl
      go_wp2_with (at_builtin; refine wpList_append_any rfl (.tmp 15) (.tmp 18) 45 rfl w.heap.size 9 i0 _ 1 16 Try.underlying45 hi hz0 hz1 hz3 rfl (by decide) (.slice Aq i cq) i ((keyL (rs.take i)).map encStr) rfl HROW.out (some ⟨wr.heap.size + 1, 0, none⟩) 1 1 [.string r.key] rfl rfl (fun j u hj => ⟨wr.heap.size + 1, 0, rfl, by rw [Nat.zero_add, HNW.out.cell]; simpa using hj⟩) (fun u hu => by simp at hu; subst hu; rfl) (by unfold maxLen; omega) (by omega) (by simp; omega) ?_; intro v' w3 hown ho3 hat; obtain ⟨Aq', cq', rfl⟩ := ownsRow_slice hown; have HOWN := Lib.hid hown; have HO3 := Lib.hid ho3; clear hown ho3 hat)
      refine ⟨⟨i + 1, by rw [show ((i + 1 : Nat) : Int) = (i : Int) + 1 by omega], by omega, ?_, HO2.out.step HO3.out (fun k hk e => by have := HLT.out k e; omega)⟩, by simp [intOf]; omega⟩
      have h1 := HOWN.out
      unfold RowS
      rw [HTK.out, List.length_append, HKL.out, List.map_append]
      rw [show List.map encStr [r.key.data.toList] = [.string r.key] by rw [List.map_cons, enc_key]; rfl]
      exact h1
    · obtain rfl : i = n := by omega
      have e1 : rs.take i = rs := by rw [← HN.out, List.take_length]
      rw [e1] at hrow hkl
      obtain ⟨sl, hsl⟩ : ∃ sl, keyL rs = sl := ⟨_, rfl⟩
      rw [hsl] at hrow hkl
      have HSL := Lib.hid hsl
      have HST := Strings_ref wr w.heap.size (.slice Aq i cq) sl (by unfold RowS; rw [hkl]; exact hrow) (by omega)
      rw [hkl] at HST
      replace HST := Lib.hid HST
      have HKL := Lib.hid hkl
      have HLT := Lib.hid (fun g (e : (Value.slice Aq i cq).ownBlock = some g) => ownsRow_lt hrow e)
      clear hrow hkl hsl e1 hlt hO
      go_wp2_with fail
      refine HST.out.mono ?_; rintro e w4 ⟨rfl, ⟨A4, c4, hv4, hst4⟩, ho4⟩
      injection hv4 with e1 _ e3
      subst e1
      have HO4 := Lib.hid (HO.out.step ho4 (fun k hk e => by have := HLT.out k e; omega))
      have hs4 := HO4.out.size
      have HS4 := Lib.hid hst4
      obtain ⟨ss, hss⟩ : ∃ ss, sl.mergeSort leB = ss := ⟨_, rfl⟩
      have HSS := Lib.hid hss
      have HLS := Lib.hid (show ss.length = i by rw [← hss, List.length_mergeSort, HKL.out])
      rw [hss] at HS4
      clear hst4 ho4 hss HST
      go_wp2_with fail
      go_loopw [6, 25] (fun v vi wr => ∃ j : Nat, vi = .int .i64 j ∧ j ≤ i ∧ RowS wr w4.heap.size v (dedup (ss.take j)) ∧ Only NoneOf w4 wr) (fun _ vi _ => i - (intOf vi).toNat)
      case atStart => exact ⟨0, rfl, by omega, ⟨rfl, .inl ⟨rfl, rfl⟩⟩, Only.refl _ _⟩
      case round =>
        obtain ⟨j, rfl, hj2, hrow, hO⟩ := hrel
        have HO5 := Lib.hid hO
        have hs5 := hO.size
        have hnd : (dedup (ss.take j)).length ≤ j := Nat.le_trans (dedup_length _) (by rw [List.length_take]; omega)
        obtain ⟨Ad, cd, rfl⟩ := ownsRow_slice hrow
        unfold RowS at hrow
        obtain ⟨nd, hnd2⟩ : ∃ nd, (dedup (ss.take j)).length = nd := ⟨_, rfl⟩
        rw [hnd2] at hrow hnd ⊢
        have HND := Lib.hid hnd2
        by_cases hlt : j < i
        · have hx : ss[j]? = some (ss[j]'(by rw [HLS.out]; exact hlt)) := List.getElem?_eq_getElem _
          generalize ss[j]'(by rw [HLS.out]; exact hlt) = k at hx
          obtain ⟨g4, hA4, _, hg4, hc4⟩ := (HS4.out.keep HO5.out) j k hx
          subst hA4
          have HROW := Lib.hid (ownsRow_only hrow ((Only.refl NoneOf wr).alloc (.cells #[.string (keyB k)] 9)) (fun _ _ h => h))
          have HROWm := Lib.hid (show RowS wr w4.heap.size (.slice Ad nd cd) (dedup (ss.take j)) by unfold RowS; rw [HND.out]; exact hrow)
          have HLT5 := Lib.hid (fun g (e : (Value.slice Ad nd cd).ownBlock = some g) => ownsRow_lt hrow e)
          have HNW := Lib.hid (Blk.new wr 9 #[.string (keyB k)])
          have HO2 := Lib.hid (HO5.out.alloc (.cells #[.string (keyB k)] 9))
          have htk : dedup (ss.take (j + 1)) = if (ss.take j).getLast? = some k then dedup (ss.take j) else dedup (ss.take j) ++ [k] := by
            rw [List.take_add_one, hx]; exact dedup_snoc _ _
          cases j with
          | zero =>
            have HTK := Lib.hid (show dedup (ss.take (0 + 1)) = dedup (ss.take 0) ++ [k] by rw [htk, if_neg (by simp)])
            clear hrow hx hO hnd2 htk HROWm
            go_wp2_with (at_builtin; refine wpList_append_any rfl (.tmp 41) (.tmp 43) 45 rfl w4.heap.size 9 i0 _ 1 16 Try.underlying45 hi hz0 hz1 hz3 rfl (by decide) (.slice Ad nd cd) nd ((dedup (ss.take 0)).map encStr) rfl HROW.out (some ⟨wr.heap.size, 0, none⟩) 1 1 [.string (keyB k)] rfl rfl (fun j' u hj => ⟨wr.heap.size, 0, rfl, by rw [Nat.zero_add, HNW.out.cell]; simpa using hj⟩) (fun u hu => by simp at hu; subst hu; rfl) (by unfold maxLen; omega) (by omega) (by simp; omega) ?_; intro v' w5 hown ho5 hat; obtain ⟨Aq', cq', rfl⟩ := ownsRow_slice hown; have HOWN := Lib.hid hown; have HO5 := Lib.hid ho5; clear hown ho5 hat)
            refine ⟨⟨0 + 1, by rfl, by omega, ?_, HO2.out.step HO5.out (fun k hk e => by have := HLT5.out k e; omega)⟩, by simp [intOf]; omega⟩
            have h1 := HOWN.out
            unfold RowS
            rw [HTK.out, List.length_append, HND.out, List.map_append]
            exact h1
          | succ jj =>
            have hy : ss[jj]? = some (ss[jj]'(by rw [HLS.out]; omega)) := List.getElem?_eq_getElem _
            generalize ss[jj]'(by rw [HLS.out]; omega) = kp at hy
            obtain ⟨_, e4, _, _, hp4⟩ := (HS4.out.keep HO5.out) jj kp hy
            injection e4 with e4
            injection e4 with e4 _ _
            subst e4
            have hgl : (ss.take (jj + 1)).getLast? = some kp := by rw [List.take_add_one, hy]; simp
            have qw : IntKind.i64.wrap (jj : Int) = (jj : Int) := by rw [IntKind.wrap_i64]; omega
            rw [hgl] at htk
            by_cases hkk : kp = k
            · have HTK := Lib.hid (show dedup (ss.take (jj + 1 + 1)) = dedup (ss.take (jj + 1)) by rw [htk, if_pos (by rw [hkk])])
              subst hkk
              clear hrow hx hO hnd2 htk hgl hy
              go_wp2_with fail
              exact ⟨⟨jj + 1 + 1, by simp, by omega, by rw [HTK.out]; exact HROWm.out, HO5.out⟩, by simp [intOf]; omega⟩
            · have HTK := Lib.hid (show dedup (ss.take (jj + 1 + 1)) = dedup (ss.take (jj + 1)) ++ [k] by rw [htk, if_neg (fun e => hkk (by injection e))])
              have hq : ((keyB kp).toList == (keyB k).toList) = false := by rw [bytes_beq]; exact decide_eq_false (fun e => hkk (keyB_inj e))
              have hq2 : (kp == k) = false := beq_eq_false_iff_ne.2 hkk
              clear hrow hx hO hnd2 htk hgl hy HROWm
              go_wp2_with (at_builtin; refine wpList_append_any rfl (.tmp 41) (.tmp 43) 45 rfl w4.heap.size 9 i0 _ 1 16 Try.underlying45 hi hz0 hz1 hz3 rfl (by decide) (.slice Ad nd cd) nd ((dedup (ss.take (jj + 1))).map encStr) rfl HROW.out (some ⟨wr.heap.size, 0, none⟩) 1 1 [.string (keyB k)] rfl rfl (fun j' u hj => ⟨wr.heap.size, 0, rfl, by rw [Nat.zero_add, HNW.out.cell]; simpa using hj⟩) (fun u hu => by simp at hu; subst hu; rfl) (by unfold maxLen; omega) (by omega) (by simp; omega) ?_; intro v' w5 hown ho5 hat; obtain ⟨Aq', cq', rfl⟩ := ownsRow_slice hown; have HOWN := Lib.hid hown; have HO5 := Lib.hid ho5; clear hown ho5 hat)
              refine ⟨⟨jj + 1 + 1, by simp, by omega, ?_, HO2.out.step HO5.out (fun k hk e => by have := HLT5.out k e; omega)⟩, by simp [intOf]; omega⟩
              have h1 := HOWN.out
              unfold RowS
              rw [HTK.out, List.length_append, HND.out, List.map_append]
              exact h1
        · obtain rfl : j = i := by omega
          have e1 : ss.take j = ss := by rw [← HLS.out, List.take_length]
          rw [e1] at hrow
          have HROW := Lib.hid hrow
          rw [e1] at HND
          clear hrow e1 hlt hO hnd2
          go_wp2_with fail
          go_ret
          refine ⟨_, rfl, ?_, HO4.out.trans HO5.out⟩
          rw [HSL.out, HSS.out]
          unfold RowS
          rw [HND.out]
          exact own_low HROW.out hs4

end Go.Proofs.Ytnonnencdhogiaa

/-
  The reference of layer 14: Live.
-/
namespace Go.Proofs.Ytnonnencdhogiaa
open Go.RowKit Go.Maps

theorem RGood.keys {rs : List VRow} {R : List KV} (h : RGood rs R) : dedup ((keyL rs).mergeSort leB) = keysR R := by
  unfold keysR
  rw [← h.eq]
  simp [keyL, VRow.plain, Function.comp_def]
theorem sumZ_snoc (l : List (List UInt8)) (k : List UInt8) (f : List UInt8 → Int) : sumZ (l ++ [k]) f = sumZ l f + f k := by
  induction l with
  | nil => simp [sumZ]
  | cons a l ih =>
    have e : ∀ (x : List UInt8) xs, sumZ (x :: xs) f = f x + sumZ xs f := fun _ _ => rfl
    rw [List.cons_append, e, e, ih]
    omega
/-- a key that is there has a newest version -/
theorem key_last {rs : List VRow} {R : List KV} (h : RGood rs R) {k : List UInt8} (hk : k ∈ keysR R) : ∃ r, nwRow rs (keyB k) 4611686018427387904 = some r ∧ (verR R (keyB k)).getLast? = some r.ver := by
  have h1 := h.last (keyB k)
  have h2 := verR_ne.2 (keysR_mem.1 hk)
  cases hn : nwRow rs (keyB k) 4611686018427387904 with
  | none =>
    rw [hn] at h1
    exact absurd (List.getLast?_eq_none_iff.1 h1.symm) h2
  | some r => exact ⟨r, rfl, by rw [hn] at h1; exact h1.symm⟩

set_option maxRecDepth 100000 in
set_option maxHeartbeats 4000000 in
theorem Live_ref (w : World) (A : Option Addr) (cap : Nat) (rs : List VRow) (R : List KV) (hR : RGood rs R) (hA : RAt w A rs) (hfew : rs.length ≤ 2513169434916) :
    Calls Try.prog 35 #[.slice A rs.length cap] w (Ans (.int .i64 (liveR R)) w) := by
  have HR := Lib.hid hR
  have HA := Lib.hid hA
  have HKS := Keys_ref w A cap rs hA hfew
  rw [hR.keys] at HKS
  replace HKS := Lib.hid HKS
  have hkl : (keysR R).length ≤ rs.length := by rw [hR.len]; exact keysR_length R
  have HLS := fun (u : World) (hu : Only NoneOf w u) (k : ByteArray) => Lib.hid (last_ref u A cap rs k (hA.keep hu) hfew)
  obtain ⟨n, hn⟩ : ∃ n, rs.length = n := ⟨_, rfl⟩
  have HN := Lib.hid hn
  rw [hn] at HKS hfew hkl ⊢
  simp only [hn] at HLS
  obtain ⟨ks, hks⟩ : ∃ ks, keysR R = ks := ⟨_, rfl⟩
  have HKR := Lib.hid hks
  rw [hks] at HKS hkl
  have HF := Lib.hid (show ∀ i, 0 ≤ sumZ (ks.take i) (fun k => wgt (keyB k) (verR R (keyB k))) ∧ sumZ (ks.take i) (fun k => wgt (keyB k) (verR R (keyB k))) ≤ 4351 * (ks.take i).length from fun i => sumZ_bound _ _ (fun k _ => wgt_bound hR.good k))
  obtain ⟨nk, hnk⟩ : ∃ nk, ks.length = nk := ⟨_, rfl⟩
  have HNK := Lib.hid hnk
  rw [hnk] at hkl
  clear hR hA hn hks hnk
  go_enter Try.func35, Try.ntmps35
  go_wp2_with fail
  refine HKS.out.mono ?_; rintro e w1 ⟨vk, rfl, hrow, ho1⟩
  have HO1 := Lib.hid ho1
  obtain ⟨Ak, ck, rfl, hst⟩ := RowS.at hrow
  have HST := Lib.hid hst
  rw [HNK.out]
  clear hrow hst ho1 HKS
  go_wp2_with fail
  go_loopw [3, 11] (fun v vi wr => ∃ i : Nat, vi = .int .i64 i ∧ i ≤ nk ∧ v = .int .i64 (sumZ (ks.take i) (fun k => wgt (keyB k) (verR R (keyB k)))) ∧ Only NoneOf w1 wr) (fun _ vi _ => nk - (intOf vi).toNat)
  case atStart => exact ⟨0, rfl, by omega, rfl, Only.refl _ _⟩
  case round =>
    obtain ⟨i, rfl, hi, rfl, hO⟩ := hrel
    have HO := Lib.hid hO
    clear hO
    by_cases hlt : i < nk
    · have hx : ks[i]? = some (ks[i]'(by rw [HNK.out]; exact hlt)) := List.getElem?_eq_getElem _
      generalize ks[i]'(by rw [HNK.out]; exact hlt) = k at hx
      obtain ⟨g, rfl, _, hg, hc⟩ := (HST.out.keep HO.out) i k hx
      obtain ⟨r, hr, hl⟩ := key_last HR.out (by rw [HKR.out]; exact List.mem_of_getElem? hx)
      obtain ⟨k', s, Ab, bs, cb, d, hform, _, hcs⟩ := row_form (HA.out.keep (HO1.out.trans HO.out)) (keyB k) 4611686018427387904
      rcases hcs with ⟨h0, _⟩ | ⟨r', hr', rfl, rfl, rfl, rfl, _⟩
      · rw [h0] at hr; cases hr
      · obtain rfl : r' = r := by rw [hr'] at hr; injection hr
        have HLW := HLS wr (HO1.out.trans HO.out) (keyB k)
        have hsum : sumZ (ks.take (i + 1)) (fun k => wgt (keyB k) (verR R (keyB k))) = sumZ (ks.take i) (fun k => wgt (keyB k) (verR R (keyB k))) + (if r'.dead = true then (0 : Int) else ((keyB k).size : Int) + (r'.bs.length : Int)) := by
          rw [List.take_add_one, hx]
          show sumZ (ks.take i ++ [k]) _ = _
          rw [sumZ_snoc]
          congr 1
          unfold wgt
          rw [hl]
          rfl
        obtain ⟨S, hS⟩ : ∃ S, sumZ (ks.take i) (fun k => wgt (keyB k) (verR R (keyB k))) = S := ⟨_, rfl⟩
        have hb := HF.out i
        have hb2 := HF.out (i + 1)
        have ht : (ks.take i).length ≤ i := by rw [List.length_take]; omega
        have ht2 : (ks.take (i + 1)).length ≤ i + 1 := by rw [List.length_take]; omega
        rw [hS] at hb hsum ⊢
        rw [hsum] at hb2
        have HSUM := Lib.hid hsum
        obtain ⟨kz, hkz⟩ : ∃ kz, (keyB k).size = kz := ⟨_, rfl⟩
        obtain ⟨nb, hnb⟩ : ∃ nb, r'.bs.length = nb := ⟨_, rfl⟩
        rw [hkz, hnb] at HSUM hb2
        obtain ⟨dd, hdd⟩ : ∃ dd, r'.dead = dd := ⟨_, rfl⟩
        rw [hdd] at HSUM hb2
        rw [hnb, hdd] at hform
        have HFORM := Lib.hid hform
        rw [hr'] at HFORM HLW
        unfold NwPost at HLW
        clear hx hform hsum hl hr' hr hS
        go_wp2_with fail
        refine HLW.out.mono ?_; rintro e w2 ⟨rfl, ho2⟩
        have HO2 := Lib.hid ((HO.out.trans ho2).alloc (.cells #[.string r'.key, .int .i64 r'.st, .slice Ab nb cb, .bool dd] 27))
        rw [HFORM.out]
        simp only [Option.isSome_some]
        clear ho2 HLW
        cases dd with
        | true =>
          rw [if_pos rfl] at HSUM hb2
          go_wp2_with fail
          exact ⟨⟨i + 1, by rw [show ((i + 1 : Nat) : Int) = (i : Int) + 1 by omega], by omega, by rw [HSUM.out, Int.add_zero], HO2.out⟩, by simp [intOf]; omega⟩
        | false =>
          rw [if_neg (by simp)] at HSUM hb2
          have qw1 : IntKind.i64.wrap ((kz : Int) + (nb : Int)) = (kz : Int) + (nb : Int) := by rw [IntKind.wrap_i64]; omega
          have qw2 : IntKind.i64.wrap (S + ((kz : Int) + (nb : Int))) = S + ((kz : Int) + (nb : Int)) := by rw [IntKind.wrap_i64]; omega
          go_wp2_with fail
          exact ⟨⟨i + 1, by rw [show ((i + 1 : Nat) : Int) = (i : Int) + 1 by omega], by omega, by rw [HSUM.out], HO2.out⟩, by simp [intOf]; omega⟩
    · obtain rfl : i = nk := by omega
      have e1 : ks.take i = ks := by rw [← HNK.out, List.take_length]
      have HL2 := Lib.hid (show liveR R = sumZ (ks.take i) (fun k => wgt (keyB k) (verR R (keyB k))) by rw [e1, ← HKR.out]; rfl)
      clear e1 hlt
      obtain ⟨S, hS⟩ : ∃ S, sumZ (ks.take i) (fun k => wgt (keyB k) (verR R (keyB k))) = S := ⟨_, rfl⟩
      rw [hS] at HL2 ⊢
      clear hS
      go_wp2_with fail
      go_ret
      refine ⟨?_, HO1.out.trans HO.out⟩
      show Ending.returned (.int .i64 S) = _
      rw [HL2.out]

end Go.Proofs.Ytnonnencdhogiaa

/-
  The reference of layer 14: Scan.
-/
namespace Go.Proofs.Ytnonnencdhogiaa
open Go.RowKit Go.Maps

theorem RGood.few {rs : List VRow} {R : List KV} (h : RGood rs R) : ∀ r ∈ rs, r.bs.length ≤ 4096 := fun r hr => by
  have := h.good.bs r.plain (by rw [← h.eq]; exact List.mem_map_of_mem hr)
  exact this
/-- the program's answer of a Get, of the reference's -/
theorem Get_refR (w : World) (A : Option Addr) (cap : Nat) (rs : List VRow) (R : List KV) (hR : RGood rs R) (key : ByteArray) (st : Int) (hA : RAt w A rs) (hfew : rs.length ≤ 2513169434916) :
    Calls Try.prog 58 #[.slice A rs.length cap, .string key, .int .i64 st] w (GetRefPost (found (verR R key) st) w) := by
  rw [hR.found]
  exact Get_ref w A cap rs key st hA hfew hR.few

set_option maxRecDepth 100000 in
set_option maxHeartbeats 4000000 in
theorem Scan_ref (w : World) (A : Option Addr) (cap : Nat) (rs : List VRow) (R : List KV) (hR : RGood rs R) (hA : RAt w A rs) (hfew : rs.length ≤ 2513169434916) (fr tt : ByteArray) (st : Int) :
    Calls Try.prog 60 #[.slice A rs.length cap, .string fr, .string tt, .int .i64 st] w (PairsPost (scanR R fr tt st) w) := by
  have HKS := Keys_ref w A cap rs hA hfew
  rw [hR.keys] at HKS
  replace HKS := Lib.hid HKS
  have hkl : (keysR R).length ≤ rs.length := by rw [hR.len]; exact keysR_length R
  have HGT := fun (u : World) (hu : Only NoneOf w u) (k : ByteArray) => Lib.hid (Get_refR u A cap rs R hR k st (hA.keep hu) hfew)
  have HSC := Lib.hid (show scanR R fr tt st = (keysR R).filterMap (scanKey (verR R) fr tt st) from rfl)
  obtain ⟨n, hn⟩ : ∃ n, rs.length = n := ⟨_, rfl⟩
  rw [hn] at HKS hfew hkl ⊢
  simp only [hn] at HGT
  obtain ⟨ks, hks⟩ : ∃ ks, keysR R = ks := ⟨_, rfl⟩
  rw [hks] at HKS hkl HSC
  obtain ⟨nk, hnk⟩ : ∃ nk, ks.length = nk := ⟨_, rfl⟩
  have HNK := Lib.hid hnk
  rw [hnk] at hkl
  obtain ⟨V, hV⟩ : ∃ V, verR R = V := ⟨_, rfl⟩
  have HV := Lib.hid hV
  rw [hV] at HSC
  have HGV := fun (u : World) (hu : Only NoneOf w u) (k : ByteArray) => Lib.hid (show Calls Try.prog 58 #[.slice A n cap, .string k, .int .i64 st] u (GetRefPost (found (V k) st) u) by have := (HGT u hu k).out; rw [← hV]; exact this)
  clear hR hA hn hks hnk HGT hV
  obtain ⟨i0, hi0, hz0, hz1, hz3⟩ := info_parts info48
  go_enter Try.func60, Try.ntmps60
  go_wp2_with fail
  refine HKS.out.mono ?_; rintro e w1 ⟨vk, rfl, hrow, ho1⟩
  have HO1 := Lib.hid ho1
  have hs1 := ho1.size
  obtain ⟨Ak, ck, rfl, hst⟩ := RowS.at hrow
  have HKA := Lib.hid hst
  rw [HNK.out]
  clear hrow hst ho1 HKS
  go_wp2_with fail
  go_loopw [9, 17] (fun v vi wr => ScanRel w1 ks V fr tt st v vi wr) (fun _ vi _ => nk - (intOf vi).toNat)
  case atStart => exact ⟨0, [], by omega, rfl, Only.refl _ _, BRows.nil _ _, by simp, rfl⟩
  case round =>
    obtain ⟨i, ps, hi, rfl, hO, hR, hrl, hpl⟩ := hrel
    have HO := Lib.hid hO
    have HR := Lib.hid hR
    have HPL := Lib.hid hpl
    obtain ⟨Aq, cq, rfl⟩ := ownsRow_slice hR.own
    clear hO hR hpl
    by_cases hlt : i < nk
    · have hki : ks[i]? = some (ks[i]'(by rw [HNK.out]; exact hlt)) := List.getElem?_eq_getElem _
      generalize ks[i]'(by rw [HNK.out]; exact hlt) = k at hki
      obtain ⟨gk, rfl, hgl, hgk, hkc⟩ := HKA.out.keep HO.out i k hki
      have HTK := Lib.hid (filterMap_take_succ (scanKey V fr tt st) ks i k hki)
      have HNXT := Lib.hid (show ∀ u, Only NoneOf wr u → scanKey V fr tt st k = none → ScanRel w1 ks V fr tt st (Value.slice Aq ps.length cq) (.int .i64 ((i : Int) + 1)) u from fun u hu hn =>
        ⟨i + 1, ps, by have := HNK.out; omega, by rw [show ((i + 1 : Nat) : Int) = (i : Int) + 1 by omega], HO.out.trans hu, HR.out.keep hu, by omega, by rw [HPL.out, HTK.out, hn]; simp⟩)
      have hcase : (Op.bytesLess k fr.toList = true ∨ (Op.bytesLess k fr.toList = false ∧ tt.toList ≠ [] ∧ tt.toList.isEmpty = false ∧ Op.bytesLess k tt.toList = false)) ∨
          ((Op.bytesLess k fr.toList = false ∧ tt.toList = [] ∧ tt.toList.isEmpty = true) ∨ (Op.bytesLess k fr.toList = false ∧ tt.toList ≠ [] ∧ tt.toList.isEmpty = false ∧ Op.bytesLess k tt.toList = true)) := by
        cases h1 : Op.bytesLess k fr.toList
        · by_cases ht : tt.toList = []
          · exact .inr (.inl ⟨rfl, ht, by rw [ht]; rfl⟩)
          · cases h2 : Op.bytesLess k tt.toList
            · exact .inl (.inr ⟨rfl, ht, List.isEmpty_eq_false_iff.2 ht, rfl⟩)
            · exact .inr (.inr ⟨rfl, ht, List.isEmpty_eq_false_iff.2 ht, rfl⟩)
        · exact .inl (.inl rfl)
      rcases hcase with hc' | hc'
      · have HSK := Lib.hid (show scanKey V fr tt st k = none by
          unfold scanKey
          rw [if_pos]
          rcases hc' with h | ⟨_, h2, _, h4⟩
          · exact .inl h
          · exact .inr ⟨h2, h4⟩)
        rcases hc' with h1 | ⟨h1, h2, h3, h4⟩
        all_goals
          go_wp2_with fail
          exact ⟨HNXT.out _ (Only.refl _ _) HSK.out, by simp [intOf]; omega⟩
      · have HSK := Lib.hid (show scanKey V fr tt st k = (found (V ⟨k.toArray⟩) st).map fun b => (⟨k.toArray⟩, b) by
          unfold scanKey
          rw [if_neg]
          rintro (h | ⟨h5, h6⟩)
          · rcases hc' with ⟨h1, _⟩ | ⟨h1, _⟩ <;> rw [h] at h1 <;> cases h1
          · rcases hc' with ⟨_, h2, _⟩ | ⟨_, _, _, h4⟩
            · exact h5 h2
            · rw [h6] at h4; cases h4)
        have HG := HGV wr (HO1.out.trans HO.out) ⟨k.toArray⟩
        obtain ⟨Rf, hRf⟩ : ∃ R, found (V ⟨k.toArray⟩) st = R := ⟨_, rfl⟩
        rw [hRf] at HG HSK
        clear hRf
        rcases hc' with ⟨h1, h2, h3⟩ | ⟨h1, h2, h3, h4⟩
        all_goals
          go_wp2_with fail
          refine HG.out.mono ?_
          rintro e w2 ⟨hget, ho2⟩
          have HO2 := Lib.hid ho2
          cases Rf with
          | none =>
            obtain rfl := hget
            clear ho2
            go_wp2_with fail
            exact ⟨HNXT.out _ HO2.out HSK.out, by simp [intOf]; omega⟩
          | some bs =>
            obtain ⟨vb, rfl, hvb⟩ := hget
            obtain ⟨Ab, cb, rfl⟩ := ownsRow_slice hvb
            have HVB := Lib.hid hvb
            have HRA := Lib.hid ((HR.out.keep ho2).keep ((Only.refl _ w2).alloc (.cells #[.string ⟨k.toArray⟩, .slice Ab bs.length cb] 48)))
            have HVA := Lib.hid (hvb.keep ((Only.refl _ w2).alloc (.cells #[.string ⟨k.toArray⟩, .slice Ab bs.length cb] 48)))
            have HN := Lib.hid (Blk.new w2 48 #[.string ⟨k.toArray⟩, .slice Ab bs.length cb])
            have hw1r := HO.out.size
            have hwr2 := ho2.size
            clear ho2 hvb
            go_wp2_with (at_builtin; refine wpList_append_any rfl (.tmp 41) (.tmp 45) 30 rfl w1.heap.size 48 i0 _ 2 40 Try.underlying30 hi0 hz0 hz1 hz3 rfl (by decide) (.slice Aq ps.length cq) ps.length (ps.flatMap PRow.cells) rfl HRA.out.own (some ⟨w2.heap.size, 0, none⟩) 1 1 [.string ⟨k.toArray⟩, .slice Ab bs.length cb] rfl rfl (fun j' u hj => ⟨w2.heap.size, 0, rfl, by rw [Nat.zero_add, HN.out.cell]; simpa using hj⟩) (fun u hu => by simp at hu; rcases hu with rfl | rfl <;> rfl) (by unfold maxLen; omega) (by omega) (by simp; omega) ?_; intro v' w3 hown' ho3 hat; obtain ⟨Aq', cq', rfl⟩ := ownsRow_slice hown'; have HOWN := Lib.hid hown'; have HO3 := Lib.hid ho3; have HAT := Lib.hid hat; clear hown' ho3 hat)
            have hsn := BRows.snoc (r := (⟨⟨k.toArray⟩, .slice Ab bs.length cb, bs⟩ : PRow)) HRA.out HO3.out HOWN.out HAT.out (HVA.out.base (by omega)) (fun g hg hb' => by have := (ownsRow_lt HVB.out hg).1; have := (HR.out.lt hb').2; omega)
            refine ⟨⟨i + 1, _, by have := HNK.out; omega, by rw [show ((i + 1 : Nat) : Int) = (i : Int) + 1 by omega], ?_, hsn, by simp; omega, ?_⟩, by simp [intOf]; omega⟩
            · exact (HO.out.trans (HO2.out.alloc _)).step HO3.out (fun k' hk' e => by have := (HRA.out.lt (.inl e)).1; omega)
            · rw [List.map_append, HPL.out, HTK.out, HSK.out]
              rfl
    · obtain rfl : i = nk := by have := HNK.out; omega
      have hpl' := HPL.out
      rw [← HNK.out, List.take_length, ← HSC.out] at hpl'
      have HPL' := Lib.hid hpl'
      clear hpl' hlt
      go_wp2_with fail
      go_ret
      exact ⟨_, ps, rfl, HR.out.base hs1, HPL'.out, HO1.out.trans HO.out⟩

end Go.Proofs.Ytnonnencdhogiaa

/-
  The reference of layer 14: Vacuum.
-/
namespace Go.Proofs.Ytnonnencdhogiaa
open Go.RowKit Go.Maps

/-- does the reference's Vacuum keep it? -/
def kRow (rs : List VRow) (hz : Int) (r : VRow) : Bool := decide (hz < r.st) || (match nwRow rs r.key hz with | some b => decide (b.st = r.st) | none => false)
theorem RGood.krow {rs : List VRow} {R : List KV} (h : RGood rs R) (hz : Int) (r : VRow) : kRow rs hz r = keeps R hz r.plain := by
  unfold kRow keeps
  show _ = (decide (hz < r.st) || (match Proofs.Ytnonnencdhogiaa.newest (verR R r.key) hz with | some b => decide (b.st = r.st) | none => false))
  rw [← h.newest]
  cases nwRow rs r.key hz <;> rfl
theorem RGood.vac {rs : List VRow} {R : List KV} (h : RGood rs R) (hz : Int) : RGood (rs.filter (kRow rs hz)) (vacR R hz) := by
  refine ⟨?_, h.good.vac hz⟩
  unfold vacR
  rw [← h.eq, List.filter_map]
  congr 1
  refine List.filter_congr fun r _ => ?_
  rw [h.krow, h.eq]
  rfl

def VacRef (rs : List VRow) (hz : Int) (w : World) (e : Ending) (w' : World) : Prop :=
  ∃ v, e = .returned (.tuple #[v, .int .i64 ((rs.length - (rs.filter (kRow rs hz)).length : Nat) : Int)]) ∧ w'.ownsRow w.heap.size 27 4 v (rs.filter (kRow rs hz)).length (vflat (rs.filter (kRow rs hz))) ∧ Only NoneOf w w'

set_option maxRecDepth 100000 in
set_option maxHeartbeats 8000000 in
theorem Vacuum_ref (w : World) (A : Option Addr) (cap : Nat) (rs : List VRow) (hA : RAt w A rs) (hfew : rs.length ≤ 2513169434843) (hz : Int) :
    Calls Try.prog 61 #[.slice A rs.length cap, .int .i64 hz] w (VacRef rs hz w) := by
  have HA := Lib.hid hA
  have HNW := fun (u : World) (hu : Only NoneOf w u) (k : ByteArray) => Lib.hid (newest_ref u A cap rs k hz (hA.keep hu) (by omega))
  obtain ⟨n, hn⟩ : ∃ n, rs.length = n := ⟨_, rfl⟩
  have HN := Lib.hid hn
  simp only [hn] at HNW
  rw [hn] at hfew ⊢
  clear hA hn
  obtain ⟨i7, hi7, hz70, hz71, hz73⟩ := info_parts info27'
  go_enter Try.func61, Try.ntmps61
  go_wp2_with fail
  go_loopw [6, 13] (fun v vi wr => ∃ i : Nat, vi = .int .i64 i ∧ i ≤ n ∧ Only NoneOf w wr ∧ wr.ownsRow w.heap.size 27 4 v ((rs.take i).filter (kRow rs hz)).length (vflat ((rs.take i).filter (kRow rs hz)))) (fun _ vi _ => n - (intOf vi).toNat)
  case atStart => exact ⟨0, rfl, by omega, Only.refl _ _, ⟨by simp [vflat], .inl ⟨rfl, rfl⟩⟩⟩
  case round =>
    obtain ⟨i, rfl, hi, hO, hrow⟩ := hrel
    have HO := Lib.hid hO
    have hsz := hO.size
    have hml : ((rs.take i).filter (kRow rs hz)).length ≤ i := Nat.le_trans (List.length_filter_le _ _) (by rw [List.length_take]; omega)
    obtain ⟨Aq, cq, rfl⟩ := ownsRow_slice hrow
    obtain ⟨m, hm⟩ : ∃ m, ((rs.take i).filter (kRow rs hz)).length = m := ⟨_, rfl⟩
    have HM := Lib.hid hm
    rw [hm] at hrow hml ⊢
    by_cases hlt : i < n
    · have hx : rs[i]? = some (rs[i]'(by rw [HN.out]; exact hlt)) := List.getElem?_eq_getElem _
      generalize rs[i]'(by rw [HN.out]; exact hlt) = r at hx
      obtain ⟨g, off, Ab, cb, rfl, hg, d0, d1, d2, d3, hval, _, hks⟩ := (HA.out.keep HO.out) i r hx
      obtain ⟨k, s, Ao, bo, co, d, hform, _, hst⟩ := row_form (HA.out.keep HO.out) r.key hz
      have HFORM := Lib.hid hform
      have HC := HNW (wr.alloc (.cells #[.string r.key, .int .i64 r.st, .slice Ab r.bs.length cb, .bool r.dead] 27)) (HO.out.alloc _) r.key
      obtain ⟨nb, hnb⟩ : ∃ nb, r.bs.length = nb := ⟨_, rfl⟩
      rw [hnb] at HC d2 hval
      have HVAL := Lib.hid hval
      have HBX := Lib.hid (Blk.new wr 27 #[.string r.key, .int .i64 r.st, .slice Ab nb cb, .bool r.dead])
      have htk : (rs.take (i + 1)).filter (kRow rs hz) = (rs.take i).filter (kRow rs hz) ++ [r].filter (kRow rs hz) := by rw [List.take_add_one, hx, List.filter_append]; rfl
      have hcase : (hz < r.st ∧ kRow rs hz r = true) ∨ (¬ hz < r.st ∧ ((nwRow rs r.key hz).isSome = false ∧ kRow rs hz r = false ∨ (nwRow rs r.key hz).isSome = true ∧ (s = r.st ∧ kRow rs hz r = true ∨ ¬ s = r.st ∧ kRow rs hz r = false))) := by
        unfold kRow
        by_cases h1 : hz < r.st
        · exact .inl ⟨h1, by rw [decide_eq_true h1]; rfl⟩
        · refine .inr ⟨h1, ?_⟩
          rw [decide_eq_false h1]
          rcases hst with ⟨h, _, _⟩ | ⟨r', h, _, rfl, _⟩
          · rw [h]; exact .inl ⟨rfl, rfl⟩
          · rw [h]
            refine .inr ⟨rfl, ?_⟩
            by_cases h2 : r'.st = r.st
            · exact .inl ⟨h2, by simp [h2]⟩
            · exact .inr ⟨h2, by simp [h2]⟩
      obtain ⟨is, his⟩ : ∃ is, (nwRow rs r.key hz).isSome = is := ⟨_, rfl⟩
      have hnw := his
      rw [his] at hcase
      clear hx hval hO hm hform hst
      go_wp2_with fail
      refine HC.out.mono ?_; rintro e w2 ⟨rfl, ho2⟩
      rw [hnw, HFORM.out]
      have HOC := Lib.hid ho2
      have HB2 := HBX.out.only ho2 (fun h => h)
      have c0 := HB2.cellv 0 rfl
      have c1 := HB2.cellv 1 rfl
      have c2 := HB2.cellv 2 rfl
      have c3 := HB2.cellv 3 rfl
      have hbl := HB2.lt
      clear HB2 ho2 his HC
      rcases hcase with ⟨h1, hkr⟩ | ⟨h1, ⟨rfl, hkr⟩ | ⟨rfl, ⟨h2, hkr⟩ | ⟨h2, hkr⟩⟩⟩
      · have q1 : decide (hz < r.st) = true := decide_eq_true h1
        have HTK := Lib.hid (show (rs.take (i + 1)).filter (kRow rs hz) = (rs.take i).filter (kRow rs hz) ++ [r] by rw [htk]; simp [hkr])
        have HO4 := Lib.hid (((HO.out.alloc (.cells #[.string r.key, .int .i64 r.st, .slice Ab nb cb, .bool r.dead] 27)).trans HOC.out).alloc (.cells #[.string k, .int .i64 s, .slice Ao bo.length co, .bool d] 27))
        have HROW := Lib.hid (ownsRow_only (ownsRow_only (ownsRow_only (ownsRow_only hrow ((Only.refl NoneOf wr).alloc (.cells #[.string r.key, .int .i64 r.st, .slice Ab nb cb, .bool r.dead] 27)) (fun _ _ h => h)) HOC.out (fun _ _ h => h)) ((Only.refl NoneOf w2).alloc (.cells #[.string k, .int .i64 s, .slice Ao bo.length co, .bool d] 27)) (fun _ _ h => h)) ((Only.refl NoneOf _).alloc (.cells #[.string r.key, .int .i64 r.st, .slice Ab nb cb, .bool r.dead] 27)) (fun _ _ h => h))
        have HNW := Lib.hid (Blk.new' (w2.alloc (.cells #[.string k, .int .i64 s, .slice Ao bo.length co, .bool d] 27)) 27 #[.string r.key, .int .i64 r.st, .slice Ab nb cb, .bool r.dead] (n := w2.heap.size + 1) (by simp))
        have HLT5 := Lib.hid (fun g (e : (Value.slice Aq m cq).ownBlock = some g) => ownsRow_lt hrow e)
        have hw2 := HO4.out.size
        clear hrow htk hkr hnw
        go_wp2_with (at_builtin; refine wpList_append_any rfl (.tmp 39) (.tmp 41) 65 rfl w.heap.size 27 i7 _ 4 56 Try.underlying65 hi7 hz70 hz71 hz73 rfl (by decide) (.slice Aq m cq) m (vflat ((rs.take i).filter (kRow rs hz))) rfl HROW.out (some ⟨w2.heap.size + 1, 0, none⟩) 1 1 [.string r.key, .int .i64 r.st, .slice Ab nb cb, .bool r.dead] rfl rfl (fun j' u hj => ⟨w2.heap.size + 1, 0, rfl, by rw [Nat.zero_add, HNW.out.cell]; simpa using hj⟩) (fun u hu => by simp at hu; rcases hu with rfl | rfl | rfl | rfl <;> rfl) (by unfold maxLen; omega) (by omega) (by simp at hw2 ⊢; omega) ?_; intro v' w3 hown ho3 hat; obtain ⟨Aq', cq', rfl⟩ := ownsRow_slice hown; have HOWN := Lib.hid hown; have HO3 := Lib.hid ho3; clear hown ho3 hat)
        refine ⟨⟨i + 1, by rw [show ((i + 1 : Nat) : Int) = (i : Int) + 1 by omega], by omega, (HO4.out.alloc _).step HO3.out (fun k hk e => by have := HLT5.out k e; omega), ?_⟩, by simp [intOf]; omega⟩
        rw [HTK.out, List.length_append, HM.out, show vflat ((rs.take i).filter (kRow rs hz) ++ [r]) = vflat ((rs.take i).filter (kRow rs hz)) ++ [.string r.key, .int .i64 r.st, .slice Ab nb cb, .bool r.dead] by simp [vflat, VRow.cells, HVAL.out]]
        exact HOWN.out
      · have q1 : decide (hz < r.st) = false := decide_eq_false (by omega)
        have HTK := Lib.hid (show (rs.take (i + 1)).filter (kRow rs hz) = (rs.take i).filter (kRow rs hz) by rw [htk]; simp [hkr])
        have HO4 := Lib.hid (((HO.out.alloc (.cells #[.string r.key, .int .i64 r.st, .slice Ab nb cb, .bool r.dead] 27)).trans HOC.out).alloc (.cells #[.string k, .int .i64 s, .slice Ao bo.length co, .bool d] 27))
        have HROW := Lib.hid (ownsRow_only (ownsRow_only (ownsRow_only hrow ((Only.refl NoneOf wr).alloc (.cells #[.string r.key, .int .i64 r.st, .slice Ab nb cb, .bool r.dead] 27)) (fun _ _ h => h)) HOC.out (fun _ _ h => h)) ((Only.refl NoneOf w2).alloc (.cells #[.string k, .int .i64 s, .slice Ao bo.length co, .bool d] 27)) (fun _ _ h => h))
        clear hrow htk hkr hnw
        go_wp2_with fail
        exact ⟨⟨i + 1, by rw [show ((i + 1 : Nat) : Int) = (i : Int) + 1 by omega], by omega, HO4.out, by rw [HTK.out, HM.out]; exact HROW.out⟩, by simp [intOf]; omega⟩
      · have q1 : decide (hz < r.st) = false := decide_eq_false (by omega)
        subst h2
        have HTK := Lib.hid (show (rs.take (i + 1)).filter (kRow rs hz) = (rs.take i).filter (kRow rs hz) ++ [r] by rw [htk]; simp [hkr])
        have HO4 := Lib.hid (((HO.out.alloc (.cells #[.string r.key, .int .i64 r.st, .slice Ab nb cb, .bool r.dead] 27)).trans HOC.out).alloc (.cells #[.string k, .int .i64 r.st, .slice Ao bo.length co, .bool d] 27))
        have HROW := Lib.hid (ownsRow_only (ownsRow_only (ownsRow_only (ownsRow_only hrow ((Only.refl NoneOf wr).alloc (.cells #[.string r.key, .int .i64 r.st, .slice Ab nb cb, .bool r.dead] 27)) (fun _ _ h => h)) HOC.out (fun _ _ h => h)) ((Only.refl NoneOf w2).alloc (.cells #[.string k, .int .i64 r.st, .slice Ao bo.length co, .bool d] 27)) (fun _ _ h => h)) ((Only.refl NoneOf _).alloc (.cells #[.string r.key, .int .i64 r.st, .slice Ab nb cb, .bool r.dead] 27)) (fun _ _ h => h))
        have HNW := Lib.hid (Blk.new' (w2.alloc (.cells #[.string k, .int .i64 r.st, .slice Ao bo.length co, .bool d] 27)) 27 #[.string r.key, .int .i64 r.st, .slice Ab nb cb, .bool r.dead] (n := w2.heap.size + 1) (by simp))
        have HLT5 := Lib.hid (fun g (e : (Value.slice Aq m cq).ownBlock = some g) => ownsRow_lt hrow e)
        have hw2 := HO4.out.size
        clear hrow htk hkr hnw
        go_wp2_with (at_builtin; refine wpList_append_any rfl (.tmp 39) (.tmp 41) 65 rfl w.heap.size 27 i7 _ 4 56 Try.underlying65 hi7 hz70 hz71 hz73 rfl (by decide) (.slice Aq m cq) m (vflat ((rs.take i).filter (kRow rs hz))) rfl HROW.out (some ⟨w2.heap.size + 1, 0, none⟩) 1 1 [.string r.key, .int .i64 r.st, .slice Ab nb cb, .bool r.dead] rfl rfl (fun j' u hj => ⟨w2.heap.size + 1, 0, rfl, by rw [Nat.zero_add, HNW.out.cell]; simpa using hj⟩) (fun u hu => by simp at hu; rcases hu with rfl | rfl | rfl | rfl <;> rfl) (by unfold maxLen; omega) (by omega) (by simp at hw2 ⊢; omega) ?_; intro v' w3 hown ho3 hat; obtain ⟨Aq', cq', rfl⟩ := ownsRow_slice hown; have HOWN := Lib.hid hown; have HO3 := Lib.hid ho3; clear hown ho3 hat)
        refine ⟨⟨i + 1, by rw [show ((i + 1 : Nat) : Int) = (i : Int) + 1 by omega], by omega, (HO4.out.alloc _).step HO3.out (fun k hk e => by have := HLT5.out k e; omega), ?_⟩, by simp [intOf]; omega⟩
        rw [HTK.out, List.length_append, HM.out, show vflat ((rs.take i).filter (kRow rs hz) ++ [r]) = vflat ((rs.take i).filter (kRow rs hz)) ++ [.string r.key, .int .i64 r.st, .slice Ab nb cb, .bool r.dead] by simp [vflat, VRow.cells, HVAL.out]]
        exact HOWN.out
      · have q1 : decide (hz < r.st) = false := decide_eq_false (by omega)
        have q2 : (s == r.st) = false := beq_eq_false_iff_ne.2 h2
        have HTK := Lib.hid (show (rs.take (i + 1)).filter (kRow rs hz) = (rs.take i).filter (kRow rs hz) by rw [htk]; simp [hkr])
        have HO4 := Lib.hid (((HO.out.alloc (.cells #[.string r.key, .int .i64 r.st, .slice Ab nb cb, .bool r.dead] 27)).trans HOC.out).alloc (.cells #[.string k, .int .i64 s, .slice Ao bo.length co, .bool d] 27))
        have HROW := Lib.hid (ownsRow_only (ownsRow_only (ownsRow_only hrow ((Only.refl NoneOf wr).alloc (.cells #[.string r.key, .int .i64 r.st, .slice Ab nb cb, .bool r.dead] 27)) (fun _ _ h => h)) HOC.out (fun _ _ h => h)) ((Only.refl NoneOf w2).alloc (.cells #[.string k, .int .i64 s, .slice Ao bo.length co, .bool d] 27)) (fun _ _ h => h))
        clear hrow htk hkr hnw
        go_wp2_with fail
        exact ⟨⟨i + 1, by rw [show ((i + 1 : Nat) : Int) = (i : Int) + 1 by omega], by omega, HO4.out, by rw [HTK.out, HM.out]; exact HROW.out⟩, by simp [intOf]; omega⟩
    · obtain rfl : i = n := by omega
      have e1 : rs.take i = rs := by rw [← HN.out, List.take_length]
      rw [e1] at hrow HM
      have HROW := Lib.hid hrow
      have qw : IntKind.i64.wrap ((i : Int) - (m : Int)) = ((i - m : Nat) : Int) := by rw [IntKind.wrap_i64]; omega
      have HSUB := Lib.hid (show ((i : Int) - (m : Int)) = ((i - m : Nat) : Int) by omega)
      clear hrow e1 hlt hO hm
      go_wp2_with fail
      go_ret2
      refine ⟨.slice Aq m cq, ?_, ?_, HO.out⟩
      · show Ending.returned (.tuple #[.slice Aq m cq, .int .i64 ((i - m : Nat) : Int)]) = _
        rw [HN.out, HM.out]
      · rw [HM.out]
        exact HROW.out

end Go.Proofs.Ytnonnencdhogiaa

/-
  The reference of layer 14, plain: Versions tells a key's versions one behind the other.
-/
namespace Go.Proofs.Ytnonnencdhogiaa

def nxB (key : ByteArray) (st : Int) (b : Option VRow) (r : VRow) : Bool := decide (r.key = key) && decide (st < r.st) && (match b with | none => true | some x => decide (r.st < x.st))
def nxRow (rs : List VRow) (key : ByteArray) (st : Int) : Option VRow := rs.foldl (fun b r => if nxB key st b r then some r else b) none
theorem nxRow_take {rs : List VRow} {key : ByteArray} {st : Int} {i : Nat} {r : VRow} (h : rs[i]? = some r) : nxRow (rs.take (i + 1)) key st = if nxB key st (nxRow (rs.take i) key st) r then some r else nxRow (rs.take i) key st := by
  rw [List.take_add_one, h]
  unfold nxRow
  rw [List.foldl_append]
  rfl
/-- a key's rows -/
def keyRows (rs : List VRow) (key : ByteArray) : List VRow := rs.filter fun r => decide (r.key = key)

theorem nx_fold (key : ByteArray) (st : Int) : ∀ (l : List VRow) (b : Option VRow), (∀ x, b = some x → ∀ r ∈ keyRows l key, x.st < r.st) → (keyRows l key).Pairwise (fun a b => a.st < b.st) →
    l.foldl (fun b r => if nxB key st b r then some r else b) b = (match b with | some x => some x | none => (keyRows l key).find? fun r => decide (st < r.st)) := by
  intro l
  induction l with
  | nil => intro b _ _; cases b <;> rfl
  | cons a l ih =>
    intro b hb hp
    rw [List.foldl_cons]
    by_cases hk : a.key = key
    · have e : keyRows (a :: l) key = a :: keyRows l key := by simp [keyRows, hk]
      rw [e] at hb hp ⊢
      obtain ⟨h1, h2⟩ := List.pairwise_cons.1 hp
      cases b with
      | some x =>
        have := hb x rfl a (by simp)
        have hn : nxB key st (some x) a = false := by simp [nxB]; omega
        rw [hn]
        exact ih (some x) (fun y hy r hr => hb y hy r (by simp [hr])) h2
      | none =>
        by_cases hs : st < a.st
        · have hn : nxB key st none a = true := by simp [nxB, hk, hs]
          rw [hn, if_pos rfl, ih (some a) (fun y hy r hr => by injection hy with hy; subst hy; exact h1 r hr) h2]
          simp [hs]
        · have hn : nxB key st none a = false := by simp [nxB, hs]
          rw [hn, if_neg (by simp), ih none (fun y hy => by cases hy) h2]
          simp [hs]
    · have e : keyRows (a :: l) key = keyRows l key := by simp [keyRows, hk]
      rw [e] at hb hp ⊢
      have hn : nxB key st b a = false := by simp [nxB, hk]
      rw [hn]
      exact ih b hb hp
/-- what stands behind the told ones comes next -/
theorem nx_next {rs : List VRow} {key : ByteArray} {st : Int} {D rest : List VRow} (h : keyRows rs key = D ++ rest) (hp : (keyRows rs key).Pairwise (fun a b => a.st < b.st)) (hD : ∀ r ∈ D, r.st ≤ st) (hr : ∀ r ∈ rest, st < r.st) : nxRow rs key st = rest.head? := by
  unfold nxRow
  rw [nx_fold key st rs none (fun _ h => by cases h) hp, h]
  simp only
  rw [List.find?_append]
  have h1 : D.find? (fun r => decide (st < r.st)) = none := List.find?_eq_none.2 fun r hr' => by
    have := hD r hr'
    simp
    omega
  rw [h1]
  cases rest with
  | nil => rfl
  | cons x l => simp [hr x (by simp)]

theorem keyRows_plain (rs : List VRow) (key : ByteArray) : (keyRows rs key).map VRow.ver = verR (rs.map VRow.plain) key := by
  unfold keyRows verR
  rw [List.filter_map, List.map_map]
  rfl
theorem RGood.rows {rs : List VRow} {R : List KV} (h : RGood rs R) (key : ByteArray) : (keyRows rs key).map VRow.ver = verR R key := by rw [keyRows_plain, h.eq]
theorem RGood.rise {rs : List VRow} {R : List KV} (h : RGood rs R) (key : ByteArray) : (keyRows rs key).Pairwise (fun a b => a.st < b.st) := by
  have := h.good.rise key
  rw [← h.rows] at this
  exact (List.pairwise_map (f := VRow.ver) (R := fun a b : Ver => a.st < b.st)).1 this
theorem RGood.low {rs : List VRow} {R : List KV} (h : RGood rs R) : ∀ r ∈ rs, (-1 : Int) < r.st := fun r hr => by
  have := h.good.st r.plain (by rw [← h.eq]; exact List.mem_map_of_mem hr)
  have e : r.plain.2.st = r.st := rfl
  omega
theorem keyRows_sub {rs : List VRow} {key : ByteArray} {r : VRow} (h : r ∈ keyRows rs key) : r ∈ rs ∧ r.key = key := by
  obtain ⟨h1, h2⟩ := List.mem_filter.1 h
  exact ⟨h1, by simpa using h2⟩
/-- all rows, key by key -/
def allRows (rs : List VRow) (ks : List (List UInt8)) : List VRow := ks.flatMap fun k => keyRows rs (keyB k)
theorem allRows_plain {rs : List VRow} {R : List KV} (h : RGood rs R) : (allRows rs (keysR R)).map VRow.plain = versR R := by
  unfold allRows versR
  rw [List.map_flatMap]
  congr 1
  funext k
  rw [← h.rows, List.map_map]
  refine List.map_congr_left fun r hr => ?_
  have := (keyRows_sub hr).2
  show (r.key, r.ver) = (keyB k, r.ver)
  rw [this]
theorem allRows_length {rs : List VRow} {R : List KV} (h : RGood rs R) : (allRows rs (keysR R)).length = rs.length := by
  rw [← List.length_map (f := VRow.plain), allRows_plain h, versR_length, h.len]
theorem allRows_mem {rs : List VRow} {ks : List (List UInt8)} {r : VRow} (h : r ∈ allRows rs ks) : r ∈ rs := by
  obtain ⟨k, _, hr⟩ := List.mem_flatMap.1 h
  exact (keyRows_sub hr).1
theorem allRows_take {rs : List VRow} {ks : List (List UInt8)} {i : Nat} {k : List UInt8} (h : ks[i]? = some k) : allRows rs (ks.take (i + 1)) = allRows rs (ks.take i) ++ keyRows rs (keyB k) := by
  rw [List.take_add_one, h]
  simp [allRows, List.flatMap_append]
theorem allRows_few {rs : List VRow} {ks : List (List UInt8)} (i : Nat) : (allRows rs (ks.take i)).length ≤ (allRows rs ks).length := by
  have : allRows rs ks = allRows rs (ks.take i) ++ allRows rs (ks.drop i) := by
    unfold allRows
    rw [← List.flatMap_append, List.take_append_drop]
  rw [this, List.length_append]
  omega

end Go.Proofs.Ytnonnencdhogiaa

/-
  The reference of layer 14: Versions.
-/
namespace Go.Proofs.Ytnonnencdhogiaa
open Go.RowKit Go.Maps

/-- in a round of the innermost loop -/
def NxRel (wm : World) (rs : List VRow) (key : ByteArray) (st : Int) (n : Nat) (vis vi : Value) (wr : World) : Prop :=
  ∃ i : Nat, vi = .int .i64 i ∧ i ≤ n ∧ vis = .bool (nxRow (rs.take i) key st).isSome ∧ Blk wr wm.heap.size 27 (rowC (nxRow (rs.take i) key st)) ∧ Only NoneOf wm wr
/-- in a round of the middle loop -/
def MidRel (w1 : World) (F base : List VRow) (v vst : Value) (wr : World) : Prop :=
  ∃ (D rest : List VRow) (s0 : Int), F = D ++ rest ∧ (∀ r ∈ D, r.st ≤ s0) ∧ (∀ r ∈ rest, s0 < r.st) ∧ vst = .int .i64 s0 ∧ wr.ownsRow w1.heap.size 27 4 v (base ++ D).length (vflat (base ++ D)) ∧ Only NoneOf w1 wr
def lenV : Value → Nat | .slice _ n _ => n | _ => 0

def VersRef (rs : List VRow) (R : List KV) (w : World) (e : Ending) (w' : World) : Prop :=
  ∃ v qs, e = .returned v ∧ w'.ownsRow w.heap.size 27 4 v qs.length (vflat qs) ∧ (∀ r ∈ qs, r ∈ rs) ∧ qs.map VRow.plain = versR R ∧ Only NoneOf w w'

set_option maxRecDepth 100000 in
set_option maxHeartbeats 8000000 in
theorem Versions_ref (w : World) (A : Option Addr) (cap : Nat) (rs : List VRow) (R : List KV) (hR : RGood rs R) (hA : RAt w A rs) (hfew : rs.length ≤ 2513169434843) :
    Calls Try.prog 33 #[.slice A rs.length cap] w (VersRef rs R w) := by
  have HKS := Keys_ref w A cap rs hA (by omega)
  rw [hR.keys] at HKS
  replace HKS := Lib.hid HKS
  have HR := Lib.hid hR
  have HA := Lib.hid hA
  have hkl : (keysR R).length ≤ rs.length := by rw [hR.len]; exact keysR_length R
  have HALL := Lib.hid (allRows_plain hR)
  have HALN := Lib.hid (allRows_length hR)
  obtain ⟨n, hn⟩ : ∃ n, rs.length = n := ⟨_, rfl⟩
  have HN := Lib.hid hn
  rw [hn] at HKS hfew hkl ⊢
  obtain ⟨ks, hks⟩ : ∃ ks, keysR R = ks := ⟨_, rfl⟩
  rw [hks] at HKS hkl HALL HALN
  obtain ⟨nk, hnk⟩ : ∃ nk, ks.length = nk := ⟨_, rfl⟩
  have HNK := Lib.hid hnk
  rw [hnk] at hkl
  clear hR hA hn hks hnk
  obtain ⟨i7, hi7, hz70, hz71, hz73⟩ := info_parts info27'
  go_enter Try.func33, Try.ntmps33
  go_wp2_with fail
  refine HKS.out.mono ?_; rintro e w1 ⟨vk, rfl, hrow, ho1⟩
  have HO1 := Lib.hid ho1
  have hs1 := ho1.size
  obtain ⟨Ak, ck, rfl, hst⟩ := RowS.at hrow
  have HKA := Lib.hid hst
  rw [HNK.out]
  clear hrow hst ho1 HKS
  go_wp2_with fail
  go_loopw [3, 14] (fun v vi wr => ∃ i : Nat, vi = .int .i64 i ∧ i ≤ nk ∧ wr.ownsRow w1.heap.size 27 4 v (allRows rs (ks.take i)).length (vflat (allRows rs (ks.take i))) ∧ Only NoneOf w1 wr) (fun _ vi _ => nk - (intOf vi).toNat)
  case atStart => exact ⟨0, rfl, by omega, ⟨by simp [allRows, vflat], .inl ⟨rfl, rfl⟩⟩, Only.refl _ _⟩
  case round =>
    obtain ⟨oi, rfl, hi, hrow, hO⟩ := hrel
    have HO3 := Lib.hid hO
    have hs3 := hO.size
    obtain ⟨Aq, cq, rfl⟩ := ownsRow_slice hrow
    obtain ⟨base, hbase⟩ : ∃ base, allRows rs (ks.take oi) = base := ⟨_, rfl⟩
    have HBASE := Lib.hid hbase
    rw [hbase] at hrow ⊢
    have HROW := Lib.hid hrow
    obtain ⟨w3, hw3⟩ : ∃ w3, w3 = wr := ⟨_, rfl⟩
    rw [← hw3] at HROW HO3 hs3 ⊢
    by_cases hlt : oi < nk
    · have hki : ks[oi]? = some (ks[oi]'(by rw [HNK.out]; exact hlt)) := List.getElem?_eq_getElem _
      generalize ks[oi]'(by rw [HNK.out]; exact hlt) = k at hki
      obtain ⟨gk, rfl, hgl, hgk, hkc⟩ := HKA.out.keep HO3.out oi k hki
      have HNXT := Lib.hid (allRows_take (rs := rs) hki)
      have HFEW := Lib.hid (show base.length + (keyRows rs (keyB k)).length ≤ n by
        have := allRows_few (rs := rs) (ks := ks) (oi + 1)
        rw [allRows_take hki, List.length_append, HBASE.out, HALN.out, HN.out] at this
        exact this)
      obtain ⟨key, hkey⟩ : ∃ key, keyB k = key := ⟨_, rfl⟩
      have HKEY := Lib.hid hkey
      have hkc' : w3.cell? ⟨gk, oi, none⟩ = some (.string key) := by rw [hkc, ← hkey]
      rw [hkey] at HNXT HFEW
      obtain ⟨F, hF⟩ : ∃ F, keyRows rs key = F := ⟨_, rfl⟩
      have HF := Lib.hid hF
      rw [hF] at HNXT HFEW
      have HP := Lib.hid (show F.Pairwise (fun a b => a.st < b.st) by rw [← hF]; exact HR.out.rise key)
      have HLOW := Lib.hid (show ∀ r ∈ F, (-1 : Int) < r.st from fun r hr => HR.out.low r (keyRows_sub (key := key) (by rw [hF]; exact hr)).1)
      clear hrow hki hkc hO hw3 hkey hF hbase
      go_wp2_with fail
      go_loopw [3, 6] (fun v vst wr => MidRel w1 F base v vst wr) (fun v _ _ => base.length + F.length - lenV v)
      case atStart => exact ⟨[], F, -1, rfl, (fun r hr => by cases hr), HLOW.out, rfl, by rw [List.append_nil]; exact HROW.out, HO3.out⟩
      case round =>
        obtain ⟨D, rest, st, hFD, hD, hrest, rfl, hrow, hO⟩ := hrel
        have HNX := Lib.hid (show nxRow rs key st = rest.head? from nx_next (by rw [HF.out]; exact hFD) (by rw [HF.out]; exact HP.out) hD hrest)
        have HFD := Lib.hid hFD
        have HDD := Lib.hid hD
        have HREST := Lib.hid hrest
        have HOM := Lib.hid hO
        have hsm := HOM.out.size
        obtain ⟨Ad, cd, rfl⟩ := ownsRow_slice hrow
        obtain ⟨m, hm⟩ : ∃ m, (base ++ D).length = m := ⟨_, rfl⟩
        have hmf : m + rest.length = base.length + F.length := by rw [← hm, hFD, List.length_append, List.length_append]; omega
        have HM := Lib.hid hm
        have HFEW2 := Lib.hid (show m ≤ 2513169434843 by have := HFEW.out; omega)
        have HMF := Lib.hid hmf
        rw [hm] at hrow ⊢
        have HROWD := Lib.hid hrow
        obtain ⟨wm, hwm⟩ : ∃ wm, wm = wr := ⟨_, rfl⟩
        rw [← hwm] at HROWD HOM hsm ⊢
        clear hFD hD hrest hrow hO hm hmf hwm
        go_wp2_with fail
        go_loopw [8, 21] (fun vis vi wr => NxRel wm rs key st n vis vi wr) (fun _ vi _ => n - (intOf vi).toNat)
        case atStart => exact ⟨0, rfl, by omega, rfl, Blk.new wm 27 zeroV, (Only.refl _ _).alloc _⟩
        case round =>
          obtain ⟨i, rfl, hi', rfl, hB8, hO⟩ := hrel
          have HO := Lib.hid hO
          have HB8 := Lib.hid hB8
          clear hO hB8
          by_cases hlt' : i < n
          · have hx : rs[i]? = some (rs[i]'(by rw [HN.out]; exact hlt')) := List.getElem?_eq_getElem _
            generalize rs[i]'(by rw [HN.out]; exact hlt') = r at hx
            obtain ⟨g, off, Ab, cb, rfl, hg, d0, d1, d2, d3, hval, _, hks⟩ := (HA.out.keep ((HO1.out.trans HOM.out).trans HO.out)) i r hx
            have HTK := Lib.hid (nxRow_take (key := key) (st := st) hx)
            obtain ⟨b, hb⟩ : ∃ b, nxRow (rs.take i) key st = b := ⟨_, rfl⟩
            rw [hb] at HB8 HTK ⊢
            clear hx hb hkc'
            cases b with
            | none =>
              simp only [Option.isSome_none]
              by_cases hk : r.key = key
              · subst hk
                by_cases hs : st < r.st
                · have HNW := Lib.hid (show nxB r.key st none r = true by simp [nxB, hs])
                  have HB8a := Lib.hid (HB8.out.alloc (.cells #[.string r.key, .int .i64 r.st, .slice Ab r.bs.length cb, .bool r.dead] 27))
                  have HOa := Lib.hid (HO.out.alloc (.cells #[.string r.key, .int .i64 r.st, .slice Ab r.bs.length cb, .bool r.dead] 27))
                  have HVAL := Lib.hid hval
                  go_wp2_with (first | (refine wpList_store_row rfl 27 (.tmp 7) (.tmp 46) rfl wm.heap.size #[.string r.key, .int .i64 r.st, .slice Ab r.bs.length cb, .bool r.dead] rfl rfl 27 _ HB8a.out info27 rfl (by simp [Value.oneCell']) ?_) | fail)
                  exact ⟨⟨i + 1, by rw [show ((i + 1 : Nat) : Int) = (i : Int) + 1 by omega], by omega, by rw [HTK.out, HNW.out]; rfl, by rw [HTK.out, HNW.out]; simp only [if_true, rowC, HVAL.out]; exact HB8a.out.row _, HOa.out.row (.inr (by omega)) _⟩, by simp [intOf]; omega⟩
                · have HNW := Lib.hid (show nxB r.key st none r = false by simp [nxB, hs])
                  have HB8a := Lib.hid (HB8.out.alloc (.cells #[.string r.key, .int .i64 r.st, .slice Ab r.bs.length cb, .bool r.dead] 27))
                  have HOa := Lib.hid (HO.out.alloc (.cells #[.string r.key, .int .i64 r.st, .slice Ab r.bs.length cb, .bool r.dead] 27))
                  go_wp2_with fail
                  exact ⟨⟨i + 1, by rw [show ((i + 1 : Nat) : Int) = (i : Int) + 1 by omega], by omega, by rw [HTK.out, HNW.out]; rfl, by rw [HTK.out, HNW.out]; exact HB8a.out, HOa.out⟩, by simp [intOf]; omega⟩
              · have HNW := Lib.hid (show nxB key st none r = false by simp [nxB, hk])
                have hk1 : (r.key.toList == key.toList) = false := by rw [bytes_beq]; exact decide_eq_false hk
                have HB8a := Lib.hid (HB8.out.alloc (.cells #[.string r.key, .int .i64 r.st, .slice Ab r.bs.length cb, .bool r.dead] 27))
                have HOa := Lib.hid (HO.out.alloc (.cells #[.string r.key, .int .i64 r.st, .slice Ab r.bs.length cb, .bool r.dead] 27))
                go_wp2_with fail
                exact ⟨⟨i + 1, by rw [show ((i + 1 : Nat) : Int) = (i : Int) + 1 by omega], by omega, by rw [HTK.out, HNW.out]; rfl, by rw [HTK.out, HNW.out]; exact HB8a.out, HOa.out⟩, by simp [intOf]; omega⟩
            | some x =>
              simp only [Option.isSome_some]
              have c1 : wr.cell? ⟨wm.heap.size, 1, none⟩ = some (.int .i64 x.st) := HB8.out.cellv 1 rfl
              have hl8 := HB8.out.lt
              by_cases hk : r.key = key
              · subst hk
                by_cases hs : st < r.st
                · by_cases hx : r.st < x.st
                  · have HNW := Lib.hid (show nxB r.key st (some x) r = true by simp [nxB, hs, hx])
                    have HB8a := Lib.hid (HB8.out.alloc (.cells #[.string r.key, .int .i64 r.st, .slice Ab r.bs.length cb, .bool r.dead] 27))
                    have HOa := Lib.hid (HO.out.alloc (.cells #[.string r.key, .int .i64 r.st, .slice Ab r.bs.length cb, .bool r.dead] 27))
                    have HVAL := Lib.hid hval
                    go_wp2_with (first | (refine wpList_store_row rfl 27 (.tmp 7) (.tmp 46) rfl wm.heap.size #[.string r.key, .int .i64 r.st, .slice Ab r.bs.length cb, .bool r.dead] rfl rfl 27 _ HB8a.out info27 rfl (by simp [Value.oneCell']) ?_) | fail)
                    exact ⟨⟨i + 1, by rw [show ((i + 1 : Nat) : Int) = (i : Int) + 1 by omega], by omega, by rw [HTK.out, HNW.out]; rfl, by rw [HTK.out, HNW.out]; simp only [if_true, rowC, HVAL.out]; exact HB8a.out.row _, HOa.out.row (.inr (by omega)) _⟩, by simp [intOf]; omega⟩
                  · have HNW := Lib.hid (show nxB r.key st (some x) r = false by simp [nxB, hs, hx])
                    have HB8a := Lib.hid (HB8.out.alloc (.cells #[.string r.key, .int .i64 r.st, .slice Ab r.bs.length cb, .bool r.dead] 27))
                    have HOa := Lib.hid (HO.out.alloc (.cells #[.string r.key, .int .i64 r.st, .slice Ab r.bs.length cb, .bool r.dead] 27))
                    go_wp2_with fail
                    exact ⟨⟨i + 1, by rw [show ((i + 1 : Nat) : Int) = (i : Int) + 1 by omega], by omega, by rw [HTK.out, HNW.out]; rfl, by rw [HTK.out, HNW.out]; exact HB8a.out, HOa.out⟩, by simp [intOf]; omega⟩
                · have HNW := Lib.hid (show nxB r.key st (some x) r = false by simp [nxB, hs])
                  have HB8a := Lib.hid (HB8.out.alloc (.cells #[.string r.key, .int .i64 r.st, .slice Ab r.bs.length cb, .bool r.dead] 27))
                  have HOa := Lib.hid (HO.out.alloc (.cells #[.string r.key, .int .i64 r.st, .slice Ab r.bs.length cb, .bool r.dead] 27))
                  go_wp2_with fail
                  exact ⟨⟨i + 1, by rw [show ((i + 1 : Nat) : Int) = (i : Int) + 1 by omega], by omega, by rw [HTK.out, HNW.out]; rfl, by rw [HTK.out, HNW.out]; exact HB8a.out, HOa.out⟩, by simp [intOf]; omega⟩
              · have HNW := Lib.hid (show nxB key st (some x) r = false by simp [nxB, hk])
                have hk1 : (r.key.toList == key.toList) = false := by rw [bytes_beq]; exact decide_eq_false hk
                have HB8a := Lib.hid (HB8.out.alloc (.cells #[.string r.key, .int .i64 r.st, .slice Ab r.bs.length cb, .bool r.dead] 27))
                have HOa := Lib.hid (HO.out.alloc (.cells #[.string r.key, .int .i64 r.st, .slice Ab r.bs.length cb, .bool r.dead] 27))
                go_wp2_with fail
                exact ⟨⟨i + 1, by rw [show ((i + 1 : Nat) : Int) = (i : Int) + 1 by omega], by omega, by rw [HTK.out, HNW.out]; rfl, by rw [HTK.out, HNW.out]; exact HB8a.out, HOa.out⟩, by simp [intOf]; omega⟩
          · obtain rfl : i = n := by omega
            have e1 : rs.take i = rs := by rw [← HN.out, List.take_length]
            rw [e1] at HB8 ⊢
            rw [HNX.out] at HB8 ⊢
            clear e1 hlt' hkc'
            cases rest with
            | nil =>
              simp only [List.head?_nil, Option.isSome_none]
              have HEND := Lib.hid (show allRows rs (ks.take (oi + 1)) = base ++ D by rw [HNXT.out, HBASE.out, HFD.out, List.append_nil])
              have HRW := Lib.hid (ownsRow_only HROWD.out HO.out (fun _ _ h => h))
              have HOE := Lib.hid (HOM.out.trans HO.out)
              clear HB8
              go_wp2_with fail
              exact ⟨⟨oi + 1, by simp, by omega, by rw [HEND.out, HM.out]; exact HRW.out, HOM.out.trans HO.out⟩, by simp [intOf]; omega⟩
            | cons x rest' =>
              simp only [List.head?_cons, Option.isSome_some]
              obtain ⟨kx, hkx⟩ := List.getElem?_of_mem (keyRows_sub (key := key) (r := x) (by rw [HF.out, HFD.out]; simp)).1
              obtain ⟨Ab, cb, hval⟩ : ∃ Ab cb, x.val = .slice Ab x.bs.length cb := by
                obtain ⟨_, _, Ab, cb, _, _, _, _, _, _, hval, _⟩ := HA.out kx x hkx
                exact ⟨Ab, cb, hval⟩
              have HVAL := Lib.hid hval
              have HB := HB8.out
              simp only [List.head?_cons, rowC, hval] at HB
              have HB7 := Lib.hid HB
              have c0 := HB.cellv 0 rfl
              have c1 := HB.cellv 1 rfl
              have c2 := HB.cellv 2 rfl
              have c3 := HB.cellv 3 rfl
              have hbl := HB.lt
              have hsw := HO.out.size
              have HRA := Lib.hid (ownsRow_only (ownsRow_only HROWD.out HO.out (fun _ _ h => h)) ((Only.refl NoneOf wr).alloc (.cells #[.string x.key, .int .i64 x.st, .slice Ab x.bs.length cb, .bool x.dead] 27)) (fun _ _ h => h))
              have HNB := Lib.hid (Blk.new wr 27 #[.string x.key, .int .i64 x.st, .slice Ab x.bs.length cb, .bool x.dead])
              have HBA := Lib.hid (HB.alloc (.cells #[.string x.key, .int .i64 x.st, .slice Ab x.bs.length cb, .bool x.dead] 27))
              have HLTD := Lib.hid (fun g (e : (Value.slice Ad m cd).ownBlock = some g) => ownsRow_lt HROWD.out e)
              have hne : (Value.slice Ad m cd).ownBlock ≠ some wm.heap.size := fun e => by have := HLTD.out _ e; omega
              have hm2 := HFEW2.out
              clear HB HB8 hkx hval
              go_wp2_with (at_builtin; refine wpList_append_any rfl (.tmp 50) (.tmp 52) 31 rfl w1.heap.size 27 i7 _ 4 56 Try.underlying31 hi7 hz70 hz71 hz73 rfl (by decide) (.slice Ad m cd) m (vflat (base ++ D)) rfl HRA.out (some ⟨wr.heap.size, 0, none⟩) 1 1 [.string x.key, .int .i64 x.st, .slice Ab x.bs.length cb, .bool x.dead] rfl rfl (fun j' u hj => ⟨wr.heap.size, 0, rfl, by rw [Nat.zero_add, HNB.out.cell]; simpa using hj⟩) (fun u hu => by simp at hu; rcases hu with rfl | rfl | rfl | rfl <;> rfl) (by unfold maxLen; omega) (by omega) (by simp; omega) ?_; intro v' w5 hown ho5 hat; obtain ⟨Aq', cq', rfl⟩ := ownsRow_slice hown; have HOWN := Lib.hid hown; have HO5 := Lib.hid ho5; have x1 := (HBA.out.only ho5 hne).cellv 1 rfl; clear hown ho5 hat)
              have hp := HP.out
              rw [HFD.out] at hp
              obtain ⟨_, hp2, _⟩ := List.pairwise_append.1 hp
              have hp3 := (List.pairwise_cons.1 hp2).1
              have e9 : base ++ (D ++ [x]) = (base ++ D) ++ [x] := by simp
              refine ⟨⟨D ++ [x], rest', x.st, by rw [HFD.out]; simp, fun r hr => ?_, hp3, rfl, ?_, ?_⟩, ?_⟩
              · rcases List.mem_append.1 hr with hr | hr
                · have := HDD.out r hr
                  have := HREST.out x (by simp)
                  omega
                · obtain rfl : r = x := by simpa using hr
                  exact Int.le_refl _
              · rw [e9, List.length_append, HM.out, show vflat ((base ++ D) ++ [x]) = vflat (base ++ D) ++ [.string x.key, .int .i64 x.st, .slice Ab x.bs.length cb, .bool x.dead] by simp [vflat, VRow.cells, HVAL.out]]
                exact HOWN.out
              · exact ((HOM.out.trans HO.out).alloc _).step HO5.out (fun k hk e => by have := HLTD.out k e; omega)
              · have := HMF.out
                simp only [lenV]
                simp at this ⊢
                omega
    · obtain rfl : oi = nk := by omega
      have e1 : ks.take oi = ks := by rw [← HNK.out, List.take_length]
      rw [e1] at HBASE
      have hm : (allRows rs ks).length = base.length := by rw [HBASE.out]
      clear hrow hO hw3 hbase e1 hlt
      go_wp2_with fail
      go_ret
      exact ⟨_, base, rfl, own_low HROW.out hs1, fun r hr => allRows_mem (ks := ks) (by rw [HBASE.out]; exact hr), by rw [← HBASE.out, HALL.out], HO1.out.trans HO3.out⟩

end Go.Proofs.Ytnonnencdhogiaa

