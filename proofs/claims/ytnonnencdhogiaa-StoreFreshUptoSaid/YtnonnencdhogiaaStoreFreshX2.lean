/-
  Texts of this proof, laid together: S78, S79.
-/
import Derived.Test.YtnonnencdhogiaaStoreFreshX1
/-
  Layer 14's law StoreFresh, walked.
-/
namespace Go.Proofs.Ytnonnencdhogiaa
open Go.RowKit

theorem BytesAt.front {w : World} {A : Option Addr} {xs ys : List UInt8} (h : BytesAt w A (xs ++ ys)) : BytesAt w A xs := fun i c hc => h i c (by rw [List.getElem?_append_left (List.getElem?_eq_some_iff.1 hc).1]; exact hc)

/-- what stands in the round of the keys -/
structure KeyRel (w w1 : World) (F cF s : Nat) (bs : List UInt8) (i : Nat) (R : List KV) (T : Nat → Prop) (v : Value) (wr : World) : Prop where
  len : R.length ≤ i
  fr : Fr bs R
  sto : StoR wr s T (fun k => k = F ∨ v.ownBlock = some k) R i
  own : wr.ownsRow w1.heap.size 27 4 v R.length (vflat (rowsOf (.slice (some ⟨F, 0, none⟩) bs.length cF) R))
  full : RowB wr w.heap.size (.slice (some ⟨F, 0, none⟩) (bs.length + 80) cF) (bs ++ List.replicate 80 165)
  only : Only NoneOf w wr
  ter : ∀ k, T k → w1.heap.size ≤ k
  up : w1.heap.size ≤ wr.heap.size ∧ w.heap.size ≤ w1.heap.size ∧ F < w1.heap.size
theorem KeyRel.keep {w w1 wr w' : World} {F cF s i : Nat} {bs : List UInt8} {R : List KV} {T : Nat → Prop} {v : Value} (h : KeyRel w w1 F cF s bs i R T v wr) (ho : Only NoneOf wr w') : KeyRel w w1 F cF s bs i R T v w' :=
  ⟨h.len, h.fr, h.sto.keep ho, ownsRow_only h.own ho (fun _ _ h => h), h.full.only ho (fun _ _ h => h), h.only.trans ho, h.ter, Nat.le_trans h.up.1 ho.size, h.up.2⟩
theorem KeyRel.more {w w1 wr : World} {F cF s i : Nat} {bs : List UInt8} {R : List KV} {T : Nat → Prop} {v : Value} (h : KeyRel w w1 F cF s bs i R T v wr) : KeyRel w w1 F cF s bs (i + 1) R T v wr :=
  ⟨by have := h.len; omega, h.fr, h.sto.more (by omega), h.own, h.full, h.only, h.ter, h.up⟩
theorem KeyRel.low {w w1 wr : World} {F cF s i : Nat} {bs : List UInt8} {R : List KV} {T : Nat → Prop} {v : Value} (h : KeyRel w w1 F cF s bs i R T v wr) {k : Nat} (hk : k = F ∨ v.ownBlock = some k) : ¬ T k := by
  obtain ⟨m, n, D, C, h1, ⟨h2, h2'⟩, h3⟩ := h.sto
  exact (h2' k hk).2
/-- a key comes -/
theorem KeyRel.snoc {w w1 wr wa wb wc : World} {F cF s i : Nat} {bs : List UInt8} {R : List KV} {T T' : Nat → Prop} {v v' : Value} {key : ByteArray} (h : KeyRel w w1 F cF s bs i R T v wr) (hv : verR R key = []) (hk : 1 ≤ key.size ∧ key.size ≤ 255)
    (ho0 : Only NoneOf wr wa) (hs : StoR wb s T' (fun k => k = F ∨ v.ownBlock = some k) (R ++ [(key, ⟨1, bs, false⟩)]) (i + 1)) (ho : Only T wa wb) (hT : ∀ k, T' k → T k ∨ wa.heap.size ≤ k)
    (hown : wc.ownsRow w1.heap.size 27 4 v' (R.length + 1) (vflat (rowsOf (.slice (some ⟨F, 0, none⟩) bs.length cF) R) ++ [.string key, .int .i64 1, .slice (some ⟨F, 0, none⟩) bs.length cF, .bool false])) (ho2 : Only (fun k => v.ownBlock = some k) wb wc) (hat : v'.ownBlock = v.ownBlock ∨ ∃ g, v'.ownBlock = some g ∧ wb.heap.size ≤ g ∧ g < wc.heap.size) :
    KeyRel w w1 F cF s bs (i + 1) (R ++ [(key, ⟨1, bs, false⟩)]) T' v' wc := by
  have hz0 := ho0.size
  have hz1 := ho.size
  have hz2 := ho2.size
  have hup := h.up
  have hfl := ownsRow_lt h.full (g := F) rfl
  have hvl : ∀ g, v.ownBlock = some g → w1.heap.size ≤ g ∧ g < wr.heap.size := fun g hg => ownsRow_lt h.own hg
  have hF : v.ownBlock ≠ some F := fun e => by have := (hvl F e).1; omega
  refine ⟨by have := h.len; simp; omega, h.fr.snoc hv hk, ?_, ?_, ?_, ?_, fun k hk => ?_, by omega, hup.2⟩
  · refine hs.other ho2 (fun k hk => .inr hk) (fun k hk => ?_)
    rcases hk with rfl | hk
    · exact ⟨by omega, .inl (.inl rfl)⟩
    · rcases hat with e | ⟨g, e, hg, hgl⟩
      · rw [e] at hk
        exact ⟨by have := hvl k hk; omega, .inl (.inr hk)⟩
      · rw [e] at hk
        cases hk
        exact ⟨hgl, .inr hg⟩
  · rw [List.length_append, rowsOf_snoc]
    rw [show vflat (rowsOf (.slice (some ⟨F, 0, none⟩) bs.length cF) R ++ [⟨key, 1, .slice (some ⟨F, 0, none⟩) bs.length cF, bs, false⟩]) = vflat (rowsOf (.slice (some ⟨F, 0, none⟩) bs.length cF) R) ++ [.string key, .int .i64 1, .slice (some ⟨F, 0, none⟩) bs.length cF, .bool false] by simp [vflat, VRow.cells]]
    exact hown
  · have h1 := (h.full.only ho0 (fun _ _ h => h)).only ho (fun g hg e => h.low (.inl (by simpa [Value.ownBlock] using hg.symm)) e)
    exact h1.only ho2 (fun g hg e => hF (by rw [e]; exact hg.symm ▸ rfl))
  · exact ((h.only.trans ho0).step ho (fun k hk e => by have := h.ter k e; omega)).step ho2 (fun k hk e => by have := hvl k e; omega)
  · rcases hT k hk with e | e
    · exact h.ter k e
    · omega

/-- what stands behind the Load -/
structure LdRel (w w1 : World) (F cF nF s t m N : Nat) (lv : Value) (R : List KV) (T1 T2 : Nat → Prop) (wr : World) : Prop where
  s : StoR wr s T1 (fun k => k = F ∨ lv.ownBlock = some k) R N
  t : StoR wr t T2 (fun k => k = F ∨ lv.ownBlock = some k) R N
  full : ∃ l, l.length = nF ∧ RowB wr w.heap.size (.slice (some ⟨F, 0, none⟩) nF cF) l
  list : ∃ xs, wr.ownsRow w1.heap.size 27 4 lv m xs
  only : Only NoneOf w wr
  up : w.heap.size ≤ F ∧ F < w1.heap.size ∧ w1.heap.size ≤ wr.heap.size ∧ w.heap.size ≤ w1.heap.size
theorem LdRel.turn {w w1 wr w' : World} {F cF nF s t m N : Nat} {lv : Value} {R : List KV} {T1 T2 S : Nat → Prop} (h : LdRel w w1 F cF nF s t m N lv R T1 T2 wr) (ho : Only S wr w') (hS : ∀ k, S k → k = F ∨ lv.ownBlock = some k)
    (hf : ∃ l, l.length = nF ∧ RowB w' w.heap.size (.slice (some ⟨F, 0, none⟩) nF cF) l) (hl : ∃ xs, w'.ownsRow w1.heap.size 27 4 lv m xs) : LdRel w w1 F cF nF s t m N lv R T1 T2 w' := by
  have hup := h.up
  have hsz := ho.size
  obtain ⟨xs, hx⟩ := h.list
  have hlow : ∀ k, k = F ∨ lv.ownBlock = some k → k < wr.heap.size ∧ w.heap.size ≤ k := fun k hk => by
    rcases hk with rfl | hk
    · omega
    · have := ownsRow_lt hx hk; omega
  refine ⟨h.s.other ho hS (fun k hk => ⟨by have := hlow k hk; omega, .inl hk⟩), h.t.other ho hS (fun k hk => ⟨by have := hlow k hk; omega, .inl hk⟩), hf, hl, h.only.step ho (fun k hk e => by have := hlow k (hS k e); omega), by omega⟩
theorem LdRel.keep {w w1 wr w' : World} {F cF nF s t m N : Nat} {lv : Value} {R : List KV} {T1 T2 : Nat → Prop} (h : LdRel w w1 F cF nF s t m N lv R T1 T2 wr) (ho : Only NoneOf wr w') : LdRel w w1 F cF nF s t m N lv R T1 T2 w' := by
  obtain ⟨l, hl, hf⟩ := h.full
  obtain ⟨xs, hx⟩ := h.list
  exact h.turn ho (fun _ h => h.elim) ⟨l, hl, hf.only ho (fun _ _ h => h)⟩ ⟨xs, ownsRow_only hx ho (fun _ _ h => h)⟩
theorem LdRel.apart {w w1 wr : World} {F cF nF s t m N : Nat} {lv : Value} {R : List KV} {T1 T2 : Nat → Prop} (h : LdRel w w1 F cF nF s t m N lv R T1 T2 wr) : lv.ownBlock ≠ some F := fun e => by
  obtain ⟨xs, hx⟩ := h.list
  have := ownsRow_lt hx e
  have := h.up
  omega
theorem LdRel.byte {w w1 wr : World} {F cF nF s t m N : Nat} {lv : Value} {R : List KV} {T1 T2 : Nat → Prop} (h : LdRel w w1 F cF nF s t m N lv R T1 T2 wr) {i : Nat} (hi : i < nF) (c : UInt8) :
    (∃ x, wr.cell? ⟨F, i, none⟩ = some x) ∧ wr.frozen? ⟨F, i, none⟩ = false ∧ LdRel w w1 F cF nF s t m N lv R T1 T2 (wr.setCell ⟨F, i, none⟩ (byteV c)) := by
  obtain ⟨l, hl, hf⟩ := h.full
  obtain ⟨xs, hx⟩ := h.list
  obtain ⟨⟨x, _, hc⟩, hfr, _, hp⟩ := own_put (rowB_len hf hl) hi (byteV c)
  have ho : Only (fun k => k = F) wr (wr.setCell ⟨F, i, none⟩ (byteV c)) := only_put (p := ⟨F, i, none⟩) (S := fun k => k = F) rfl _
  refine ⟨⟨x, hc⟩, hfr, h.turn ho (fun k hk => .inl hk) ⟨l.set i c, by rw [List.length_set]; exact hl, ?_⟩ ⟨xs, ownsRow_only hx ho (fun g hg e => h.apart (by rw [← e]; exact hg))⟩⟩
  show World.ownsRow _ w.heap.size 5 1 _ (l.set i c).length ((l.set i c).map byteV)
  rw [List.length_set, hl, List.map_set]
  exact hp
theorem only_cells {g : Nat} : ∀ (vs : List Value) (o : Nat) (w : World), Only (fun k => k = g) w (w.setCells g o vs)
  | [], _, _ => Only.refl _ _
  | v :: vs, o, w => (only_put (p := ⟨g, o, none⟩) (S := fun k => k = g) rfl v).trans (only_cells vs (o + 1) (w.setCell ⟨g, o, none⟩ v))
theorem LdRel.row {w w1 wr : World} {F cF nF s t m N g cl : Nat} {R : List KV} {T1 T2 : Nat → Prop} (h : LdRel w w1 F cF nF s t m N (.slice (some ⟨g, 0, none⟩) m cl) R T1 T2 wr) {i : Nat} (hi : i < m) (vs : List Value) (hv : vs.length = 4) :
    wr.there g (i * 4) 4 ∧ LdRel w w1 F cF nF s t m N (.slice (some ⟨g, 0, none⟩) m cl) R T1 T2 (wr.setCells g (i * 4) vs) := by
  obtain ⟨l, hl, hf⟩ := h.full
  obtain ⟨xs, hx⟩ := h.list
  obtain ⟨ht, hp⟩ := own_cells vs (i * 4) hx (by omega)
  rw [hv] at ht
  have hgl := ownsRow_lt hx (g := g) rfl
  have ho : Only (fun k => k = g) wr (wr.setCells g (i * 4) vs) := only_cells vs _ _
  refine ⟨ht, h.turn ho (fun k hk => .inr (by rw [hk]; rfl)) ⟨l, hl, hf.only ho (fun b hb e => ?_)⟩ hp⟩
  have hb' : F = b := by simpa [Value.ownBlock] using hb
  exact h.apart (by rw [hb', e]; rfl)

theorem get_own {w : World} {s N : Nat} {T U : Nat → Prop} {R : List KV} (h : StoR w s T U R N) {key : ByteArray} {st : Int} (hk : key.size ≤ maxLen) {b : List UInt8} (hf : found (verR R key) st = some b) :
    Calls Try.prog 23 #[.pointer (some ⟨s, 0, none⟩), .string key, .int .i64 st] w fun e w' => ∃ v, e = .returned (.tuple #[v, .bool true]) ∧ RowB w' w.heap.size v b ∧ Only NoneOf w w' := by
  refine (getR w s N T U R h key st hk).mono ?_
  rintro e w' ⟨hget, ho⟩
  rw [hf] at hget
  obtain ⟨vb, rfl, hvb⟩ := hget
  exact ⟨vb, rfl, hvb, ho⟩
/-- what stands in the round of the gets -/
structure GetRel (wa w13 w18 : World) (s t : Nat) (T1 T2 : Nat → Prop) (R : List KV) (N : Nat) (bs : List UInt8) (v3 : Value) (L3 : List LRow) (i : Nat) (v : Value) (ls : List LRow) (wr : World) : Prop where
  rows : LRows wr wa.heap.size v ls
  all : ∀ r ∈ ls, r.bs = bs
  len : ls.length = L3.length + 2 * i
  only : Only NoneOf w13 wr
  up : (∀ g, v.ownBlock = some g → w13.heap.size ≤ g) ∧ w18.heap.size ≤ wr.heap.size ∧ wa.heap.size ≤ w13.heap.size ∧ w13.heap.size ≤ w18.heap.size
  blk : ∀ k, LBlocks v ls k → LBlocks v3 L3 k ∨ w18.heap.size ≤ k
  both : Both wa s t T1 T2 R N wr
section
variable {wa w13 w18 wr wm w' : World} {s t N i : Nat} {T1 T2 : Nat → Prop} {R : List KV} {bs : List UInt8} {v3 v v' a b : Value} {L3 ls : List LRow}
theorem GetRel.keep (h : GetRel wa w13 w18 s t T1 T2 R N bs v3 L3 i v ls wr) (ho : Only NoneOf wr w') : GetRel wa w13 w18 s t T1 T2 R N bs v3 L3 i v ls w' :=
  ⟨h.rows.keep ho, h.all, h.len, h.only.trans ho, by have hz := ho.size; obtain ⟨u1, u2, u3, u4⟩ := h.up; exact ⟨u1, by omega, u3, u4⟩, h.blk, h.both.keep ho⟩
theorem GetRel.snoc (h : GetRel wa w13 w18 s t T1 T2 R N bs v3 L3 i v ls wr) (ho : Only NoneOf wr wm) (ha : RowB wm wr.heap.size a bs) (hb : RowB wm wr.heap.size b bs) (hab : ∀ g, a.ownBlock = some g → b.ownBlock ≠ some g)
    (hown : w'.ownsRow wa.heap.size 25 1 v' (ls.length + 2) (ls.flatMap LRow.cells ++ [a, b])) (ho2 : Only (fun k => v.ownBlock = some k) wm w') (hat : v'.ownBlock = v.ownBlock ∨ v'.ownBlock = some wm.heap.size) :
    GetRel wa w13 w18 s t T1 T2 R N bs v3 L3 (i + 1) v' (ls ++ [⟨a, bs⟩, ⟨b, bs⟩]) w' := by
  have hk := h.keep ho
  have hup := h.up
  obtain ⟨hup1, hup2, hup3, hup4⟩ := hup
  have hz1 := ho.size
  have hz2 := ho2.size
  have hlt : ∀ k, LBlocks v ls k → k < wr.heap.size := fun k hk => (h.rows.lt hk).2
  have hn : LNew wm wa.heap.size v ls [⟨a, bs⟩, ⟨b, bs⟩] := by
    refine ⟨fun r hr => ?_, fun r hr g hg hbl => ?_, ?_⟩
    · simp only [List.mem_cons, List.not_mem_nil, or_false] at hr
      rcases hr with rfl | rfl
      · exact ha.base (by omega)
      · exact hb.base (by omega)
    · have h1 := hlt g hbl
      simp only [List.mem_cons, List.not_mem_nil, or_false] at hr
      rcases hr with rfl | rfl
      · have := (ownsRow_lt ha hg).1; omega
      · have := (ownsRow_lt hb hg).1; omega
    · refine List.pairwise_cons.2 ⟨fun x hx => ?_, List.pairwise_singleton _ _⟩
      obtain rfl : x = ⟨b, bs⟩ := by simpa using hx
      exact hab
  have hv' : ∀ g, v'.ownBlock = some g → v.ownBlock = some g ∨ wm.heap.size ≤ g := fun g hg => by
    rcases hat with e | e
    · exact .inl (e ▸ hg)
    · rw [e] at hg; cases hg; exact .inr (Nat.le_refl _)
  refine ⟨LRows.append hk.rows ho2 (by rw [List.length_append, List.flatMap_append]; exact hown) hat hn, fun r hr => ?_, by rw [List.length_append, h.len]; simp; omega, hk.only.step ho2 (fun k hk' e => by have := hup1 k e; omega), ?_, fun k hk' => ?_, hk.both.turn ho2 (fun k e => by have := hup1 k e; omega)⟩
  · rcases List.mem_append.1 hr with hr | hr
    · exact h.all r hr
    · simp only [List.mem_cons, List.not_mem_nil, or_false] at hr
      rcases hr with rfl | rfl <;> rfl
  · refine ⟨fun g hg => ?_, by omega, by omega, by omega⟩
    rcases hv' g hg with e | e
    · exact hup1 g e
    · omega
  · rcases hk' with e | ⟨r, hr, e⟩
    · rcases hv' k e with e | e
      · exact h.blk k (.inl e)
      · exact .inr (by omega)
    · rcases List.mem_append.1 hr with hr | hr
      · exact h.blk k (.inr ⟨r, hr, e⟩)
      · simp only [List.mem_cons, List.not_mem_nil, or_false] at hr
        rcases hr with rfl | rfl
        · have := (ownsRow_lt ha e).1; exact .inr (by omega)
        · have := (ownsRow_lt hb e).1; exact .inr (by omega)
end

set_option maxRecDepth 100000 in
set_option maxHeartbeats 8000000 in
theorem fresh_walk (Av : Option Addr) (cv : Nat) (bs : List UInt8) (Ak : Option Addr) (ck : Nat) (ks : List ByteArray) (w : World) (hA : BytesAt w Av bs) (hK : KeysAt w Ak ks) (hfew : ks.length ≤ 1048576) (hbl : bs.length ≤ 1048576) : Calls Try.prog 13 #[.slice Av bs.length cv, .slice Ak ks.length ck] w (Ans (.bool true) w) := by
  have HFX := fun u => Lib.hid (fixed_is u)
  have HA := Lib.hid hA
  have HK := Lib.hid hK
  obtain ⟨n, hn⟩ : ∃ n, bs.length = n := ⟨_, rfl⟩
  have HBN := Lib.hid hn
  obtain ⟨nk, hnk⟩ : ∃ nk, ks.length = nk := ⟨_, rfl⟩
  have HKN := Lib.hid hnk
  rw [hn] at hbl ⊢
  rw [hnk] at hfew ⊢
  obtain ⟨i0, hi, hz0, hz1, hz3⟩ := info_parts info27'
  have HRM := fun (u : World) (hu : Only NoneOf w u) => Lib.hid (roomy_is u Av n cv bs HBN.out (HA.out.keep hu) (by omega))
  clear hA hK hn hnk
  by_cases hbig : n ≤ 4096
  · have HRM0 := HRM w (Only.refl _ _)
    go_enter Try.func13, Try.ntmps13
    go_wp2_with fail
    refine HRM0.out.mono ?_; rintro e w1 ⟨vf, rfl, hf, ho1⟩
    have hf' := rowB_len hf (n := n + 80) (by simp [HBN.out])
    obtain ⟨F, cF, rfl, hF1, hF2, hcap⟩ := own_at hf' (by omega)
    have HF := Lib.hid hf
    have HO1 := Lib.hid ho1
    have HNW := Lib.hid (newR w1 (fun k => k = F ∨ (Value.slice none 0 0).ownBlock = some k) (fun k hk => hk.elim (fun e => by omega) (fun e => by cases e)))
    clear hf hf' ho1 HRM0
    go_wp2_with fail
    refine HNW.out.mono ?_; rintro e w2 ⟨rfl, T0, hs2, ho2, ht2⟩
    have HR0 := Lib.hid (show KeyRel w w1 F cF (w1.heap.size + 1) bs 0 [] T0 (.slice none 0 0) w2 from
      ⟨by simp, Fr.nil bs, hs2, ⟨by simp [vflat, rowsOf], .inl ⟨rfl, rfl⟩⟩, by rw [HBN.out]; exact HF.out.only ho2 (fun _ _ h => h), HO1.out.trans ho2, ht2, ho2.size, HO1.out.size, hF2⟩)
    clear hs2 ho2 ht2 HNW HF
    obtain ⟨s, hs⟩ : ∃ s, w1.heap.size + 1 = s := ⟨_, rfl⟩
    rw [hs] at HR0 ⊢
    go_wp2_with fail
    go_loopw [8, 43] (fun v vi wr => ∃ i : Nat, ∃ (R : List KV) (T : Nat → Prop), vi = .int .i64 i ∧ i ≤ nk ∧ KeyRel w w1 F cF s bs i R T v wr) (fun _ vi _ => nk - (intOf vi).toNat)
    case atStart => exact ⟨0, [], T0, rfl, by omega, HR0.out⟩
    case round =>
      clear HR0
      obtain ⟨i, R, T, rfl, hi2, hkr⟩ := hrel
      by_cases hlt : i < nk
      ·

        have hx : ks[i]? = some (ks[i]'(by rw [HKN.out]; exact hlt)) := List.getElem?_eq_getElem _
        generalize ks[i]'(by rw [HKN.out]; exact hlt) = key at hx
        obtain ⟨gk, ok, rfl, hgk, hck⟩ := (HK.out.keep hkr.only) i key hx
        have NXT := fun v u R T (h : KeyRel w w1 F cF s bs (i + 1) R T v u) => Lib.hid (show ∃ i' : Nat, ∃ (R : List KV) (T : Nat → Prop), Value.int .i64 ((i : Int) + 1) = .int .i64 i' ∧ i' ≤ nk ∧ KeyRel w w1 F cF s bs i' R T v u from ⟨i + 1, R, T, by rw [show ((i + 1 : Nat) : Int) = (i : Int) + 1 by omega], by omega, h⟩)
        clear hx
        by_cases hk1 : key.size < 1
        · have NX := NXT _ _ _ _ hkr.more
          clear hkr
          go_wp2_with fail
          exact ⟨NX.out, by simp [intOf]; omega⟩
        · by_cases hk2 : 255 < key.size
          · have NX := NXT _ _ _ _ hkr.more
            clear hkr
            go_wp2_with fail
            exact ⟨NX.out, by simp [intOf]; omega⟩
          · have HKR := Lib.hid hkr
            have HNWS := Lib.hid (newestR wr s i T _ R hkr.sto key (by unfold maxLen; omega))
            clear hkr
            go_wp2_with fail
            refine HNWS.out.mono ?_; rintro e w3 ⟨rfl, ho3⟩
            by_cases hv : verR R key = []
            · rw [hv]
              simp only [newestT, List.getLast?_nil]
              have HK3 := Lib.hid (HKR.out.keep ho3)
              have HO3 := Lib.hid ho3
              have hby : BytesAt w3 (some ⟨F, 0, none⟩) bs := by
                obtain ⟨A', c', e, hb⟩ := HK3.out.full.at
                injection e with e1 _ _
                rw [e1]
                exact hb.front
              have HAP := Lib.hid (applyR w3 s i T _ R HK3.out.sto (by unfold NMAX; omega) key 1 (some ⟨F, 0, none⟩) n cF false bs HBN.out hby)
              rw [fr_code hv (by omega) (by rw [HBN.out]; exact hbig), show afterR R key ⟨1, bs, false⟩ = R ++ [(key, ⟨1, bs, false⟩)] by unfold afterR; rw [if_pos (fr_code hv (by omega) (by rw [HBN.out]; exact hbig))]] at HAP
              have HV := Lib.hid hv
              clear ho3 hv hby
              go_wp2_with fail
              refine HAP.out.mono ?_; rintro e w4 ⟨rfl, T', hs4, ho4, ht4⟩
              have HS4 := Lib.hid hs4
              have HO4 := Lib.hid ho4
              have HT4 := Lib.hid ht4
              clear hs4 ho4 ht4
              have HM := Lib.hid HK3.out.len
              obtain ⟨m, hm⟩ : ∃ m, R.length = m := ⟨_, rfl⟩
              have HMM := Lib.hid hm
              have hup := HK3.out.up
              have hz4 := HO4.out.size
              have HWQ := Lib.hid ((Only.refl NoneOf w4).alloc (.cells #[.string key, .int .i64 1, .slice (some ⟨F, 0, none⟩) n cF, .bool false] 27))
              have HOWN := Lib.hid (show (w4.alloc (.cells #[.string key, .int .i64 1, .slice (some ⟨F, 0, none⟩) n cF, .bool false] 27)).ownsRow w1.heap.size 27 4 u8 m (vflat (rowsOf (.slice (some ⟨F, 0, none⟩) bs.length cF) R)) by
                rw [← HMM.out]
                exact ownsRow_only (ownsRow_only HK3.out.own HO4.out (fun g hg e => HK3.out.low (.inr hg) e)) HWQ.out (fun _ _ h => h))
              have HNB := Lib.hid (Blk.new w4 27 #[.string key, .int .i64 1, .slice (some ⟨F, 0, none⟩) n cF, .bool false])
              have hml : m ≤ i := by have := HM.out; omega
              clear hm
              go_wp2_with (at_builtin; refine wpList_append_any rfl (.tmp 69) (.tmp 73) 31 rfl w1.heap.size 27 i0 _ 4 56 Try.underlying31 hi hz0 hz1 hz3 rfl (by decide) u8 m (vflat (rowsOf (.slice (some ⟨F, 0, none⟩) bs.length cF) R)) rfl HOWN.out (some ⟨w4.heap.size, 0, none⟩) 1 1 [.string key, .int .i64 1, .slice (some ⟨F, 0, none⟩) n cF, .bool false] rfl rfl (fun j' u hj => ⟨w4.heap.size, 0, rfl, by rw [Nat.zero_add, HNB.out.cell]; simpa using hj⟩) (fun u hu => by simp at hu; rcases hu with rfl | rfl | rfl | rfl <;> rfl) (by unfold maxLen; omega) (by omega) (by simp; omega) ?_; intro v' w5 hown ho5 hat; have HOWN5 := Lib.hid hown; have HO5 := Lib.hid ho5; have HAT5 := Lib.hid hat; clear hown ho5 hat)
              have NX := NXT v' w5 _ T' (KeyRel.snoc HKR.out HV.out (by omega) HO3.out HS4.out HO4.out HT4.out (by rw [HMM.out, HBN.out]; have := HOWN5.out; rw [HBN.out] at this; exact this) ((HWQ.out.mono fun _ _ h => h.elim).step HO5.out (fun k _ h => h)) (by
                rcases HAT5.out with e | e
                · exact .inl e
                · have := HWQ.out.size
                  exact .inr ⟨_, e, this, (ownsRow_lt HOWN5.out e).2⟩))
              exact ⟨NX.out, by simp [intOf]; omega⟩
            · obtain ⟨y, hy⟩ := verR_ne.1 hv
              have NX := NXT _ _ _ _ (HKR.out.keep ho3).more
              have he := HKR.out.fr.ver hy
              rw [he]
              simp only [newestT, List.getLast?_singleton]
              clear ho3 hv hy he HKR
              go_wp2_with fail
              exact ⟨NX.out, by simp [intOf]; omega⟩

      · have hin : nk = i := by omega
        subst hin
        have hby : BytesAt wr (some ⟨F, 0, none⟩) bs := by
          obtain ⟨A', c', e, hb⟩ := hkr.full.at
          injection e with e1 _ _
          rw [e1]
          exact hb.front
        obtain ⟨m, hm⟩ : ∃ m, R.length = m := ⟨_, rfl⟩
        have HMM := Lib.hid hm
        have hml := hkr.len
        have hup := hkr.up
        have hown := hkr.own
        rw [hm] at hml hown
        have HOWN := Lib.hid hown
        obtain ⟨Al, cl, rfl, hva⟩ := rowsOf_vers hown hm hkr.fr hby
        have hflt := ownsRow_lt hkr.full (g := F) rfl
        have HKR := Lib.hid hkr
        have HLD := Lib.hid (load_ok wr Al cl R (fun k => k = F ∨ (Value.slice Al m cl).ownBlock = some k) hva (by omega) (fun k hk => by
          rcases hk with rfl | hk
          · exact hflt.2
          · exact (ownsRow_lt HOWN.out hk).2) (HKR.out.fr.load (by rw [HBN.out]; exact hbig)))
        rw [HMM.out] at HLD
        clear hkr hown hva hby hm
        go_wp2_with fail
        refine HLD.out.mono ?_; rintro e w5 ⟨t, T2, rfl, ht5, ho5, htt5⟩
        have HL5 := Lib.hid (show LdRel w w1 F cF (n + 80) s t m nk (.slice Al m cl) R T T2 w5 from
          ⟨HKR.out.sto.keep ho5, ht5.more (by omega), ⟨bs ++ List.replicate 80 165, by simp [HBN.out], by have := HKR.out.full.only ho5 (fun _ _ h => h); rw [HBN.out] at this; exact this⟩, ⟨_, ownsRow_only HOWN.out ho5 (fun _ _ h => h)⟩, HKR.out.only.trans ho5, by have := ho5.size; omega⟩)
        have HFU := Lib.hid (show RowB w5 w.heap.size (.slice (some ⟨F, 0, none⟩) (n + 80) cF) (bs ++ List.replicate 80 165) from by have := HKR.out.full.only ho5 (fun _ _ h => h); rw [HBN.out] at this; exact this)
        have HTT := Lib.hid (fun k (h : T2 k) => Nat.le_trans hup.1 (htt5 k h))
        have HTS := Lib.hid HKR.out.ter
        have HFR := Lib.hid HKR.out.fr
        have HRM5 := HRM w5 HL5.out.only
        clear ht5 ho5 htt5 HLD HOWN HKR
        go_wp2_with fail
        refine HRM5.out.mono ?_; rintro e w6 ⟨v2, rfl, hf2, ho6⟩
        have hf2' := rowB_len hf2 (n := n + 80) (by simp [HBN.out])
        obtain ⟨A2, c2, rfl⟩ := ownsRow_slice hf2'
        have HEQ := Lib.hid (show Calls Try.prog 24 #[.slice (some ⟨F, 0, none⟩) (n + 80) cF, .slice A2 (n + 80) c2] w6 (Told (.bool (decide (bs ++ List.replicate 80 165 = bs ++ List.replicate 80 165))) w6) from by
          obtain ⟨A', c', e1, hb1⟩ := (HFU.out.only ho6 (fun _ _ h => h)).at
          obtain ⟨A'', c'', e2, hb2⟩ := hf2.at
          injection e1 with e1 _ _
          injection e2 with e2 _ _
          subst e1; subst e2
          exact equal_is w6 _ _ (n + 80) (n + 80) cF c2 _ _ (by simp [HBN.out]) (by simp [HBN.out]) hb1 hb2 (by omega))
        rw [decide_eq_true rfl] at HEQ
        have HL6 := Lib.hid (HL5.out.keep ho6)
        clear hf2 hf2' ho6 HRM5 HFU HL5
        go_wp2_with fail
        refine HEQ.out.mono ?_; rintro e w7 ⟨rfl, m7, rfl⟩
        have HL7 := Lib.hid (HL6.out.keep ((Only.refl _ _).drewN m7))
        clear HL6 HEQ
        go_wp2_with fail
        go_loopw [92] (fun vi wr => ∃ i : Nat, vi = .int .i64 i ∧ i ≤ n + 80 ∧ LdRel w w1 F cF (n + 80) s t m nk (.slice Al m cl) R T T2 wr) (fun vi _ => n + 80 - (intOf vi).toNat)
        case atStart => exact ⟨0, rfl, by omega, HL7.out⟩
        case round =>
          clear HL7
          obtain ⟨i, rfl, hi3, hl⟩ := hrel
          by_cases hlt2 : i < n + 80
          ·

            obtain ⟨⟨x, hcx⟩, hfx, hnx⟩ := hl.byte hlt2 3
            have HNX := Lib.hid (show LdRel w w1 F cF (n + 80) s t m nk (.slice Al m cl) R T T2 (wr.setCell ⟨F, i, none⟩ (.int .u8 3)) from hnx)
            clear hl hnx
            go_wp2_with fail
            exact ⟨⟨i + 1, by rw [show ((i + 1 : Nat) : Int) = (i : Int) + 1 by omega], by omega, HNX.out⟩, by simp [intOf]; omega⟩

          · obtain rfl : i = n + 80 := by omega
            have HL8 := Lib.hid hl
            clear hl
            go_wp2_with fail
            go_loopw [101] (fun vi wr => ∃ i : Nat, vi = .int .i64 i ∧ i ≤ m ∧ LdRel w w1 F cF (n + 80) s t m nk (.slice Al m cl) R T T2 wr) (fun vi _ => m - (intOf vi).toNat)
            case atStart => exact ⟨0, rfl, by omega, HL8.out⟩
            case round =>
              clear HL8
              obtain ⟨i, rfl, hi3, hl⟩ := hrel
              by_cases hlt2 : i < m
              ·

                obtain ⟨xs, hxs⟩ := hl.list
                obtain ⟨gl, cl', e, _, _, _⟩ := own_at hxs (by omega)
                injection e with e1 _ e2
                subst e1; subst e2
                obtain ⟨hth, hnx⟩ := hl.row hlt2 [.string ⟨#[103, 111, 110, 101]⟩, .int .i64 9, .slice none 0 0, .bool false] rfl
                have HNX := Lib.hid hnx
                have HTH := Lib.hid (show wr.there gl (i * 4) (#[.string ⟨#[103, 111, 110, 101]⟩, .int .i64 9, .slice none 0 0, .bool false] : Array Value).size from hth)
                clear hl hnx hxs hth
                go_wp2_with (first | (refine wpList_store_mid rfl 27 (.tmp 107) (.tmp 106) rfl gl (i * 4) #[.string ⟨#[103, 111, 110, 101]⟩, .int .i64 9, .slice none 0 0, .bool false] (by simp [go_sem]) (by first | rfl | (simp [go_sem]; done) | (simp [go_sem]; rfl)) (by with_reducible exact HTH.out) (by kernel_rfl) (by simp [Value.oneCell']) ?_) | fail)
                exact ⟨⟨i + 1, by rw [show ((i + 1 : Nat) : Int) = (i : Int) + 1 by omega], by omega, HNX.out⟩, by simp [intOf]; omega⟩

              · have him : m = i := by omega
                subst him
                obtain ⟨wa, hwa⟩ : ∃ wa, wa = wr := ⟨_, rfl⟩
                subst hwa
                have HBO := Lib.hid (both_start hl.s hl.t)
                have HO8 := Lib.hid hl.only
                have HV1 := Lib.hid (versionsR wa s nk T _ R hl.s (by unfold NMAX; omega))
                clear hl
                go_wp2_with fail
                refine HV1.out.mono ?_; rintro e w11 ⟨lv, rl, rfl, hrl, hpl, ho11⟩
                obtain ⟨hll, hgl⟩ := vers_rows HFR.out hpl
                rw [HMM.out] at hll
                have HRL := Lib.hid hrl
                have HGL := Lib.hid hgl
                have HO11 := Lib.hid ho11
                have HB11 := Lib.hid (HBO.out.keep ho11)
                have HV2 := Lib.hid (versionsR w11 s nk T _ R HB11.out.1 (by unfold NMAX; omega))
                clear hrl hpl hgl ho11 HV1 HBO
                go_wp2_with fail
                refine HV2.out.mono ?_; rintro e w12 ⟨mv, rm, rfl, hrm, hpm, ho12⟩
                obtain ⟨hlm, hgm⟩ := vers_rows HFR.out hpm
                rw [HMM.out] at hlm
                have HRM := Lib.hid hrm
                have HGM := Lib.hid hgm
                have HO12 := Lib.hid ho12
                have HB12 := Lib.hid (HB11.out.keep ho12)
                have HSC := Lib.hid (scannedR w12 s nk T _ R HB12.out.1 (by unfold NMAX; omega) ⟨#[]⟩ ⟨#[]⟩ 5)
                have HLL := Lib.hid hll
                have HLM := Lib.hid hlm
                obtain ⟨Al0, cl0, hlv⟩ := ownsRow_slice HRL.out.own
                obtain ⟨Am0, cm0, hmv⟩ := ownsRow_slice HRM.out.own
                rw [hll] at hlv
                rw [hlm] at hmv
                subst hlv; subst hmv
                clear hrm hpm hgm ho12 HV2 HB11 hll hlm
                go_wp2_with fail
                refine HSC.out.mono ?_; rintro e w13 ⟨p1v, p1, rfl, hp1, hpp1, ho13⟩
                obtain ⟨hlp1, hgp1⟩ := pairs_rows HFR.out hpp1
                rw [HMM.out] at hlp1
                have HGP1 := Lib.hid hgp1
                have HB13 := Lib.hid (HB12.out.keep ho13)
                have HZ := Lib.hid (show wa.heap.size ≤ w11.heap.size ∧ w11.heap.size ≤ w12.heap.size ∧ w12.heap.size ≤ w13.heap.size from ⟨HO11.out.size, HO12.out.size, ho13.size⟩)
                have HL13 := Lib.hid (HRL.out.only (HO12.out.trans ho13) (fun _ _ h => h))
                have HM13 := Lib.hid (HRM.out.only ho13 (fun _ _ h => h))
                have HP13 := Lib.hid hp1
                have HO13 := Lib.hid ((HO11.out.trans HO12.out).trans ho13)
                have HLlt := Lib.hid (fun k (h : VBlocks (Value.slice Al0 m cl0) rl k) => HRL.out.lt h)
                have HMlt := Lib.hid (fun k (h : VBlocks (Value.slice Am0 m cm0) rm k) => HRM.out.lt h)
                have HVS1 := Lib.hid (values_step w13 wa.heap.size (.slice none 0 0) [] (BRows.nil _ _) (.slice Al0 m cl0) rl HL13.out (fun r hr => by have := HGL.out r hr; unfold maxLen; omega) p1v p1 (hp1.base (by have := HZ.out; omega))
                  (fun k _ h => by rcases h with h | ⟨_, h, _⟩ <;> cases h) (fun k _ h => by rcases h with h | ⟨_, h, _⟩ <;> cases h) (fun k hk h => by have := (HP13.out.lt hk).1; have := (HLlt.out k h).2; have := HZ.out; omega) (by have := HZ.out; omega) (by rw [HLL.out]; simp only [List.length_nil]; omega))
                clear hp1 hpp1 hgp1 ho13 HSC HB12 HO12 HO11 HRL HRM
                go_wp2_with fail
                refine HVS1.out.mono ?_; rintro e w14 ⟨v1, rfl, hL1, ho14, hat1⟩
                have HL1 := Lib.hid hL1
                have HO14 := Lib.hid (show Only NoneOf w13 w14 from ho14.mono fun k _ h => by cases h)
                have HV1 := Lib.hid (show ∀ g, v1.ownBlock = some g → w13.heap.size ≤ g from fun g hg => by
                  rcases hat1 with e | ⟨g', e, h⟩
                  · rw [e] at hg; cases hg
                  · rw [e] at hg; cases hg; exact h)
                have HB14 := Lib.hid (HB13.out.keep HO14.out)
                have HSC := Lib.hid (scannedR w14 s nk T _ R HB14.out.1 (by unfold NMAX; omega) ⟨#[]⟩ ⟨#[]⟩ 5)
                clear hL1 ho14 hat1 HVS1 HB13
                go_wp2_with fail
                refine HSC.out.mono ?_; rintro e w15 ⟨p2v, p2, rfl, hp2, hpp2, ho15⟩
                obtain ⟨hlp2, hgp2⟩ := pairs_rows HFR.out hpp2
                rw [HMM.out] at hlp2
                have HGP2 := Lib.hid hgp2
                have HB15 := Lib.hid (HB14.out.keep ho15)
                have HP15 := Lib.hid hp2
                have HO15 := Lib.hid (HO14.out.trans ho15)
                have HZ2 := Lib.hid (show w13.heap.size ≤ w14.heap.size ∧ w14.heap.size ≤ w15.heap.size from ⟨HO14.out.size, ho15.size⟩)
                have HVS2 := Lib.hid (values_step w15 wa.heap.size v1 ([] ++ (rl.map VRow.l ++ p1.map PRow.l)) (HL1.out.keep ho15) (.slice Am0 m cm0) rm ((HM13.out.only HO15.out (fun _ _ h => h)).base (by have := HZ.out; omega)) (fun r hr => by have := HGM.out r hr; unfold maxLen; omega) p2v p2 (hp2.base (by have := HZ.out; have := HZ2.out; omega))
                  (fun k hk h => by
                    have hz := HZ.out
                    have h0 := HMlt.out k hk
                    rcases h with h | ⟨r, hr, h⟩
                    · have := HV1.out k h; omega
                    · rw [List.nil_append] at hr
                      rcases List.mem_append.1 hr with hr | hr
                      · obtain ⟨x, hx, rfl⟩ := List.mem_map.1 hr
                        have := HLlt.out k (.inr ⟨x, hx, h⟩); omega
                      · obtain ⟨x, hx, rfl⟩ := List.mem_map.1 hr
                        have := (HP13.out.lt (k := k) (.inr ⟨x, hx, h⟩)).1; omega)
                  (fun k hk h => by have := (HL1.out.lt h).2; have := (HP15.out.lt hk).1; omega) (fun k hk h => by have := (HP15.out.lt hk).1; have := (HMlt.out k h).2; have := HZ.out; have := HZ2.out; omega) (by have := HZ.out; have := HZ2.out; omega) (by rw [HLM.out]; simp only [List.length_append, List.length_map, List.length_nil, HLL.out]; omega))
                clear hp2 hpp2 hgp2 ho15 HSC HB14
                go_wp2_with fail
                refine HVS2.out.mono ?_; rintro e w16 ⟨v2, rfl, hL2, ho16, hat2⟩
                have HL2 := Lib.hid hL2
                have HO16 := Lib.hid (show Only NoneOf w13 w16 from HO15.out.step ho16 (fun k hk h => by have := HV1.out k h; omega))
                have HV2 := Lib.hid (show ∀ g, v2.ownBlock = some g → w13.heap.size ≤ g from fun g hg => by
                  rcases hat2 with e | ⟨g', e, h⟩
                  · rw [e] at hg; exact HV1.out g hg
                  · rw [e] at hg; cases hg; have := HZ2.out; omega)
                have HZ3 := Lib.hid ho16.size
                have HB16 := Lib.hid (HB15.out.turn ho16 (fun k hk => by have := HV1.out k hk; have := HZ.out; omega))
                have HVT := Lib.hid (versionsR w16 t nk T2 _ R HB16.out.2.1 (by unfold NMAX; omega))
                clear hL2 ho16 hat2 HVS2 HB15 HL1 HV1
                go_wp2_with fail
                refine HVT.out.mono ?_; rintro e w17 ⟨kv, rk, rfl, hrk, hpk, ho17⟩
                obtain ⟨hlk, hgk⟩ := vers_rows HFR.out hpk
                rw [HMM.out] at hlk
                have HGK := Lib.hid hgk
                have HK17 := Lib.hid hrk
                have HB17 := Lib.hid (HB16.out.keep ho17)
                have HO17 := Lib.hid (HO16.out.trans ho17)
                have HZ4 := Lib.hid ho17.size
                have HVS3 := Lib.hid (values_step w17 wa.heap.size v2 (([] ++ (rl.map VRow.l ++ p1.map PRow.l)) ++ (rm.map VRow.l ++ p2.map PRow.l)) (HL2.out.keep ho17) kv rk (hrk.base (by have := HZ.out; have := HZ2.out; have := HZ3.out; omega)) (fun r hr => by have := HGK.out r hr; unfold maxLen; omega) (.slice none 0 0) [] (BRows.nil _ _)
                  (fun k hk h => by have := (HL2.out.lt h).2; have := (HK17.out.lt hk).1; omega) (fun k hk h => by rcases hk with h | ⟨_, h, _⟩ <;> cases h) (fun k hk h => by rcases hk with h | ⟨_, h, _⟩ <;> cases h) (by have := HZ.out; have := HZ2.out; have := HZ3.out; have := HZ4.out; omega) (by simp only [List.length_append, List.length_map, List.length_nil, HLL.out, HLM.out]; omega))
                clear hrk hpk hgk ho17 HVT HB16
                go_wp2_with fail
                refine HVS3.out.mono ?_; rintro e w18 ⟨v3, rfl, hL3, ho18, hat3⟩
                have HL3 := Lib.hid hL3
                have HO18 := Lib.hid (show Only NoneOf w13 w18 from HO17.out.step ho18 (fun k hk h => by have := HV2.out k h; omega))
                have HV3 := Lib.hid (show ∀ g, v3.ownBlock = some g → w13.heap.size ≤ g from fun g hg => by
                  rcases hat3 with e | ⟨g', e, h⟩
                  · rw [e] at hg; exact HV2.out g hg
                  · rw [e] at hg; cases hg; have := HZ2.out; have := HZ3.out; have := HZ4.out; omega)
                have HZ5 := Lib.hid ho18.size
                have HB18 := Lib.hid (HB17.out.turn ho18 (fun k hk => by have := HV2.out k hk; have := HZ.out; omega))
                clear hL3 ho18 hat3 HVS3 HB17
                go_wp2_with fail
                have HLF := Lib.hid (show ∀ g, (Value.slice Al0 m cl0).ownBlock = some g → ¬ LBlocks v3 ((([] ++ (rl.map VRow.l ++ p1.map PRow.l)) ++ (rm.map VRow.l ++ p2.map PRow.l)) ++ (rk.map VRow.l ++ ([] : List PRow).map PRow.l)) g from fun g hg hb => by
                  have h0 := HLlt.out g (.inl hg)
                  have hz := HZ.out
                  rcases hb with hb | ⟨r, hr, hb⟩
                  · have := HV3.out g hb; omega
                  · simp only [List.mem_append, List.mem_map, List.not_mem_nil, false_or, false_and, exists_false, or_false] at hr
                    rcases hr with ((⟨x, hx, rfl⟩ | ⟨x, hx, rfl⟩) | (⟨x, hx, rfl⟩ | ⟨x, hx, rfl⟩)) | ⟨x, hx, rfl⟩
                    · exact HL13.out.apart x hx g hg hb
                    · have := (HP13.out.lt (k := g) (.inr ⟨x, hx, hb⟩)).1; omega
                    · have := (HMlt.out g (.inr ⟨x, hx, hb⟩)).1; omega
                    · have := (HP15.out.lt (k := g) (.inr ⟨x, hx, hb⟩)).1; have := HZ2.out; omega
                    · have := (HK17.out.lt (k := g) (.inr ⟨x, hx, hb⟩)).1; have := HZ2.out; have := HZ3.out; omega)
                have HMF := Lib.hid (show ∀ g, (Value.slice Am0 m cm0).ownBlock = some g → ¬ LBlocks v3 ((([] ++ (rl.map VRow.l ++ p1.map PRow.l)) ++ (rm.map VRow.l ++ p2.map PRow.l)) ++ (rk.map VRow.l ++ ([] : List PRow).map PRow.l)) g from fun g hg hb => by
                  have h0 := HMlt.out g (.inl hg)
                  have hz := HZ.out
                  rcases hb with hb | ⟨r, hr, hb⟩
                  · have := HV3.out g hb; omega
                  · simp only [List.mem_append, List.mem_map, List.not_mem_nil, false_or, false_and, exists_false, or_false] at hr
                    rcases hr with ((⟨x, hx, rfl⟩ | ⟨x, hx, rfl⟩) | (⟨x, hx, rfl⟩ | ⟨x, hx, rfl⟩)) | ⟨x, hx, rfl⟩
                    · have := (HLlt.out g (.inr ⟨x, hx, hb⟩)).2; omega
                    · have := (HP13.out.lt (k := g) (.inr ⟨x, hx, hb⟩)).1; omega
                    · exact HM13.out.apart x hx g hg hb
                    · have := (HP15.out.lt (k := g) (.inr ⟨x, hx, hb⟩)).1; have := HZ2.out; omega
                    · have := (HK17.out.lt (k := g) (.inr ⟨x, hx, hb⟩)).1; have := HZ2.out; have := HZ3.out; omega)
                have HG0 := Lib.hid (show GetRel wa w13 w18 s t T T2 R nk bs v3 ((([] ++ (rl.map VRow.l ++ p1.map PRow.l)) ++ (rm.map VRow.l ++ p2.map PRow.l)) ++ (rk.map VRow.l ++ ([] : List PRow).map PRow.l)) 0 v3 ((([] ++ (rl.map VRow.l ++ p1.map PRow.l)) ++ (rm.map VRow.l ++ p2.map PRow.l)) ++ (rk.map VRow.l ++ ([] : List PRow).map PRow.l)) w18 from
                  ⟨HL3.out, fun r hr => by
                    simp only [List.mem_append, List.mem_map, List.not_mem_nil, false_or, false_and, exists_false, or_false] at hr
                    rcases hr with ((⟨x, hx, rfl⟩ | ⟨x, hx, rfl⟩) | (⟨x, hx, rfl⟩ | ⟨x, hx, rfl⟩)) | ⟨x, hx, rfl⟩
                    · exact (HGL.out x hx).2.1
                    · exact HGP1.out x hx
                    · exact (HGM.out x hx).2.1
                    · exact HGP2.out x hx
                    · exact (HGK.out x hx).2.1, by omega, HO18.out, ⟨HV3.out, by omega, by have := HZ.out; omega, HO18.out.size⟩, fun k h => .inl h, HB18.out⟩)
                have HLN := Lib.hid (show ((([] ++ (rl.map VRow.l ++ p1.map PRow.l)) ++ (rm.map VRow.l ++ p2.map PRow.l)) ++ (rk.map VRow.l ++ ([] : List PRow).map PRow.l)).length ≤ 5 * m by
                  simp only [List.length_append, List.length_map, List.length_nil, HLL.out, HLM.out]; omega)
                generalize (([] ++ (rl.map VRow.l ++ p1.map PRow.l)) ++ (rm.map VRow.l ++ p2.map PRow.l)) ++ (rk.map VRow.l ++ ([] : List PRow).map PRow.l) = L3 at HLF HMF HG0 HLN HL3
                clear HL3 HV3 HB18 HO18 HK17 HP15 HP13 HGP1 HGP2 HGK HGM HL2 HV2 HO17 HO16 HO15 HO14
                obtain ⟨i1, hj, hy0, hy1, hy3⟩ := info_parts info25
                go_loopw [19, 140] (fun v vi wr => ∃ i : Nat, ∃ ls : List LRow, vi = .int .i64 i ∧ i ≤ m ∧ GetRel wa w13 w18 s t T T2 R nk bs v3 L3 i v ls wr) (fun _ vi _ => m - (intOf vi).toNat)
                case atStart => exact ⟨0, L3, rfl, by omega, HG0.out⟩
                case round =>
                  clear HG0
                  obtain ⟨i, ls, rfl, hi4, hgr⟩ := hrel
                  by_cases hlt4 : i < m
                  ·

                    have hx : rl[i]? = some (rl[i]'(by rw [HLL.out]; exact hlt4)) := List.getElem?_eq_getElem _
                    generalize rl[i]'(by rw [HLL.out]; exact hlt4) = r at hx
                    obtain ⟨A9, c9, e9, hr9⟩ := (HL13.out.only hgr.only (fun _ _ h => h)).rat (fun r hr => by have := HGL.out r hr; unfold maxLen; omega)
                    injection e9 with e91 e92 e93
                    subst e91; subst e93
                    clear e92
                    obtain ⟨g9, o9, Ab, cb, hA9, hg9, d0, d1, d2, d3, _, _, _⟩ := hr9 i r hx
                    subst hA9
                    obtain ⟨q1, q2, q3, q4, q5, q6⟩ := HGL.out r (List.mem_of_getElem? hx)
                    rw [q2, HBN.out] at d2
                    rw [q1] at d1
                    rw [q3] at d3
                    have HGR := Lib.hid hgr
                    have HQ := Lib.hid ((Only.refl NoneOf wr).alloc (.cells #[.string r.key, .int .i64 1, .slice Ab n cb, .bool false] 27))
                    have HFD := Lib.hid (HFR.out.found q6 (st := 7) (by decide))
                    have HBX := Lib.hid (Blk.new wr 27 #[.string r.key, .int .i64 1, .slice Ab n cb, .bool false])
                    have HGT := Lib.hid (get_own (hgr.both.keep HQ.out).1 (key := r.key) (st := 7) (by unfold maxLen; omega) HFD.out)
                    have HKS := Lib.hid (show r.key.size ≤ maxLen by unfold maxLen; omega)
                    clear hx hgr q1 q2 q3 q4 q5 q6 hr9
                    go_wp2_with fail
                    refine HGT.out.mono ?_; rintro e w20 ⟨va, rfl, hra, ho20⟩
                    have hra' := rowB_len hra HBN.out
                    obtain ⟨Aa, ca, rfl⟩ := ownsRow_slice hra'
                    have HRA := Lib.hid hra
                    have HO20 := Lib.hid (HQ.out.trans ho20)
                    have k0 := (HBX.out.only ho20 (fun h => h)).cellv 0 rfl
                    have HGT2 := Lib.hid (get_own (HGR.out.both.keep HO20.out).1 (key := r.key) (st := 7) HKS.out HFD.out)
                    clear hra hra' ho20 HGT HBX HFD
                    go_wp2_with fail
                    refine HGT2.out.mono ?_; rintro e w21 ⟨vb, rfl, hrb, ho21⟩
                    have hrb' := rowB_len hrb HBN.out
                    obtain ⟨Ab2, cb2, rfl⟩ := ownsRow_slice hrb'
                    have HWQ := Lib.hid ((Only.refl NoneOf w21).alloc (.cells #[.slice Aa n ca, .slice Ab2 n cb2] 25))
                    have HOQ := Lib.hid ((HO20.out.trans ho21).trans HWQ.out)
                    have HRA2 := Lib.hid (((HRA.out.only ho21 (fun _ _ h => h)).only HWQ.out (fun _ _ h => h)).base HQ.out.size)
                    have HRB2 := Lib.hid ((hrb.only HWQ.out (fun _ _ h => h)).base HO20.out.size)
                    have HAB := Lib.hid (fun g (h1 : (Value.slice Aa n ca).ownBlock = some g) (h2 : (Value.slice Ab2 n cb2).ownBlock = some g) => (show False from by have := (ownsRow_lt HRA.out h1).2; have := (ownsRow_lt hrb h2).1; omega))
                    have HNB := Lib.hid (Blk.new w21 25 #[.slice Aa n ca, .slice Ab2 n cb2])
                    obtain ⟨nl, hnl⟩ : ∃ nl, ls.length = nl := ⟨_, rfl⟩
                    have HNL := Lib.hid hnl
                    have hnl7 : nl ≤ 7 * m := by have h1 := HGR.out.len; have h2 := HLN.out; omega
                    have hbs : wa.heap.size ≤ w21.heap.size := by have h1 := HGR.out.up; have h2 := HO20.out.size; have h3 := ho21.size; omega
                    have HOWN := Lib.hid (show (w21.alloc (.cells #[.slice Aa n ca, .slice Ab2 n cb2] 25)).ownsRow wa.heap.size 25 1 u19 nl (ls.flatMap LRow.cells) from by rw [← hnl]; exact ownsRow_only HGR.out.rows.own HOQ.out (fun _ _ h => h))
                    clear hrb hrb' ho21 hnl HGT2 HO20 HRA d0 d1 d2 d3 k0
                    go_wp2_with (at_builtin; refine wpList_append_any rfl (.tmp 164) (.tmp 167) 75 rfl wa.heap.size 25 i1 _ 1 24 Try.underlying75 hj hy0 hy1 hy3 rfl (by decide) u19 nl (ls.flatMap LRow.cells) rfl HOWN.out (some ⟨w21.heap.size, 0, none⟩) 2 2 [.slice Aa n ca, .slice Ab2 n cb2] rfl rfl (fun j' u hj => ⟨w21.heap.size, 0, rfl, by rw [Nat.zero_add, HNB.out.cell]; simpa using hj⟩) (fun u hu => by simp at hu; rcases hu with rfl | rfl <;> rfl) (by unfold maxLen; omega) (by omega) (by simp; omega) ?_; intro v' w22 hown ho22 hat; have HOWN5 := Lib.hid hown; have HO22 := Lib.hid ho22; have HAT := Lib.hid hat; clear hown ho22 hat)
                    exact ⟨⟨i + 1, _, by rw [show ((i + 1 : Nat) : Int) = (i : Int) + 1 by omega], by omega, GetRel.snoc HGR.out HOQ.out HRA2.out HRB2.out HAB.out (by rw [HNL.out]; exact HOWN5.out) HO22.out HAT.out⟩, by simp [intOf]; omega⟩

                  · have him2 : m = i := by omega
                    subst him2
                    have HTD := Lib.hid (told_is wr wa.heap.size u19 ls bs hgr.rows hgr.all Av n cv (HA.out.keep ((HO8.out.trans HO13.out).trans hgr.only)) HBN.out (by omega) (by have h1 := hgr.len; have h2 := HLN.out; omega) (by have h1 := hgr.up; omega))
                    have HGR := Lib.hid hgr
                    obtain ⟨A9, c9, e9⟩ := ownsRow_slice hgr.rows.own
                    subst e9
                    clear hgr
                    go_wp2_with fail
                    refine HTD.out.mono ?_; rintro e wt ⟨rfl, ls', htr⟩
                    have HFL := Lib.hid (fun g (h : LBlocks (.slice A9 ls.length c9) ls g) => (show wa.heap.size ≤ g ∧ (LBlocks v3 L3 g ∨ w18.heap.size ≤ g) from ⟨(HGR.out.rows.lt h).1, HGR.out.blk g h⟩))
                    have HSM := Lib.hid (show Sm wa s t T T2 R nk (.slice Al0 m cl0) (.slice Am0 m cm0) m m (vflat rl) (vflat rm) wt from by
                      have hup := HGR.out.up
                      have hz := HZ.out
                      refine ⟨?_, ?_, fun g h1 h2 => ?_, HGR.out.both.turn htr.only (fun k hk => (HFL.out k hk).1), (HO13.out.trans HGR.out.only).step htr.only (fun k hk e => by have := (HFL.out k e).1; omega)⟩
                      · have h0 := HL13.out.own
                        rw [HLL.out] at h0
                        exact ownsRow_only (ownsRow_only h0 HGR.out.only (fun _ _ h => h)) htr.only (fun g hg hb => by
                          rcases (HFL.out g hb).2 with h | h
                          · exact HLF.out g hg h
                          · have := HLlt.out g (.inl hg); omega)
                      · have h0 := ownsRow_base HM13.out.own (show wa.heap.size ≤ w11.heap.size by omega)
                        rw [HLM.out] at h0
                        exact ownsRow_only (ownsRow_only h0 HGR.out.only (fun _ _ h => h)) htr.only (fun g hg hb => by
                          rcases (HFL.out g hb).2 with h | h
                          · exact HMF.out g hg h
                          · have := HMlt.out g (.inl hg); omega)
                      · have := HLlt.out g (.inl h1)
                        have := HMlt.out g (.inl h2)
                        omega)
                    have HS1 := Lib.hid (show Stamps m 0 (-1) (vflat rl) from ⟨by rw [vflat_length, HLL.out], fun i hi => by omega⟩)
                    have HS2 := Lib.hid (show Stamps m 0 (-2) (vflat rm) from ⟨by rw [vflat_length, HLM.out], fun i hi => by omega⟩)
                    clear htr HFL HTD HGR HLF HMF HL13 HM13 HLlt HMlt HZ HZ2 HZ3 HZ4 HZ5 HGL HLL HLM
                    go_wp2_with fail
                    go_loopw [176] (fun vi wr => ∃ i : Nat, ∃ (xl xm : List Value), vi = .int .i64 i ∧ i ≤ m ∧ Sm wa s t T T2 R nk (.slice Al0 m cl0) (.slice Am0 m cm0) m m xl xm wr ∧ Stamps m i (-1) xl ∧ Stamps m i (-2) xm) (fun vi _ => m - (intOf vi).toNat)
                    case atStart => exact ⟨0, _, _, rfl, by omega, HSM.out, HS1.out, HS2.out⟩
                    case round =>
                      clear HSM HS1 HS2
                      obtain ⟨i, xl, xm, rfl, hi5, hsm, hs1, hs2⟩ := hrel
                      by_cases hlt5 : i < m
                      ·

                        obtain ⟨gl, _, e, _, _, _⟩ := own_at hsm.l (by omega)
                        injection e with e1 _ _
                        subst e1
                        obtain ⟨gm, _, e, _, hgm, _⟩ := own_at hsm.m (by omega)
                        injection e with e1 _ _
                        subst e1
                        obtain ⟨⟨x1, hx1⟩, hf1, hsm2⟩ := hsm.setl (i := i * 4 + 1) (by omega) (.int .i64 (-1))
                        obtain ⟨⟨x2, hx2⟩, hf2, hsm3⟩ := hsm2.setm (i := i * 4 + 1) (by omega) (.int .i64 (-2))
                        have HSM3 := Lib.hid hsm3
                        have HS1 := Lib.hid (hs1.set hlt5)
                        have HS2 := Lib.hid (hs2.set hlt5)
                        clear hsm hsm2 hsm3 hs1 hs2
                        go_wp2_with fail
                        exact ⟨⟨i + 1, _, _, by rw [show ((i + 1 : Nat) : Int) = (i : Int) + 1 by omega], by omega, HSM3.out, HS1.out, HS2.out⟩, by simp [intOf]; omega⟩

                      · have him3 : m = i := by omega
                        subst him3
                        have HSM := Lib.hid hsm
                        have HS1 := Lib.hid hs1
                        have HS2 := Lib.hid hs2
                        clear hsm hs1 hs2
                        go_wp2_with fail
                        go_loopw [17, 188] (fun v vi wr => ∃ j : Nat, ∃ (xl : List Value), vi = .int .i64 j ∧ j ≤ 30 ∧ Sm wa s t T T2 R nk v (.slice Am0 m cm0) (m + j) m xl xm wr ∧ ∀ q, q < m → xl[q * 4 + 1]? = some (.int .i64 (-1))) (fun _ vi _ => 30 - (intOf vi).toNat)
                        case atStart => exact ⟨0, xl, rfl, by omega, HSM.out, HS1.out.2⟩
                        case round =>
                          clear HSM HS1
                          obtain ⟨j, xl, rfl, hj6, hsm, hs1⟩ := hrel
                          by_cases hlt6 : j < 30
                          ·

                            have HSM := Lib.hid hsm
                            have HS1 := Lib.hid hs1
                            have HWQ := Lib.hid ((Only.refl NoneOf wr).alloc (.cells #[.string ⟨#[]⟩, .int .i64 (-3), .slice none 0 0, .bool false] 27))
                            have HOWN := Lib.hid (ownsRow_only hsm.l HWQ.out (fun _ _ h => h))
                            have HNB := Lib.hid (Blk.new wr 27 #[.string ⟨#[]⟩, .int .i64 (-3), .slice none 0 0, .bool false])
                            have hwsz : wa.heap.size ≤ wr.heap.size := hsm.both.2.2
                            have HXL := Lib.hid hsm.l.1
                            clear hsm hs1
                            go_wp2_with (at_builtin; refine wpList_append_any rfl (.tmp 190) (.tmp 192) 31 rfl wa.heap.size 27 i0 _ 4 56 Try.underlying31 hi hz0 hz1 hz3 rfl (by decide) u17 (m + j) xl rfl HOWN.out (some ⟨wr.heap.size, 0, none⟩) 1 1 [.string ⟨#[]⟩, .int .i64 (-3), .slice none 0 0, .bool false] rfl rfl (fun j' u hj => ⟨wr.heap.size, 0, rfl, by rw [Nat.zero_add, HNB.out.cell]; simpa using hj⟩) (fun u hu => by simp at hu; rcases hu with rfl | rfl | rfl | rfl <;> rfl) (by unfold maxLen; omega) (by omega) (by simp; omega) ?_; intro v' w5 hown ho5 hat; have HOWN5 := Lib.hid hown; have HO5 := Lib.hid ho5; have HAT5 := Lib.hid hat; clear hown ho5 hat)
                            exact ⟨⟨j + 1, _, by rw [show ((j + 1 : Nat) : Int) = (j : Int) + 1 by omega], by omega, HSM.out.grow HWQ.out HOWN5.out HO5.out HAT5.out, fun q hq => by rw [List.getElem?_append_left (by rw [HXL.out]; omega)]; exact HS1.out q hq⟩, by simp [intOf]; omega⟩

                          · have hj30 : j = 30 := by omega
                            subst hj30
                            obtain ⟨A7, c7, e7⟩ := ownsRow_slice hsm.l
                            subst e7
                            have HSM := Lib.hid hsm
                            have HS1 := Lib.hid hs1
                            clear hsm hs1
                            go_wp2_with fail
                            go_loopw [197] (fun vi wp => ∃ i : Nat, vi = .int .i64 i ∧ i ≤ m ∧ wp = wr) (fun vi _ => m - (intOf vi).toNat)
                            case atStart => exact ⟨0, rfl, by omega, rfl⟩
                            case round =>
                              obtain ⟨i, rfl, hi7, hw⟩ := hrel
                              subst hw
                              by_cases hlt7 : i < m
                              ·

                                obtain ⟨gl, _, e, _, hk1⟩ := own_stamp HSM.out.l (i := i) (by omega) (HS1.out i hlt7)
                                injection e with e1 _ _
                                subst e1
                                obtain ⟨gm, _, e, _, hk2⟩ := own_stamp HSM.out.m (i := i) (by omega) (HS2.out.2 i hlt7)
                                injection e with e1 _ _
                                subst e1
                                go_wp2_with fail
                                exact ⟨⟨i + 1, by rw [show ((i + 1 : Nat) : Int) = (i : Int) + 1 by omega], by omega, trivial⟩, by simp [intOf]; omega⟩

                              · have him8 : m = i := by omega
                                subst him8
                                have HB := Lib.hid HSM.out.both
                                have HOW := Lib.hid (HO8.out.trans HSM.out.only)
                                have HVA := Lib.hid (versionsR wr s nk T _ R HB.out.1 (by unfold NMAX; omega))
                                clear HSM HS1 HS2
                                go_wp2_with fail
                                refine HVA.out.mono ?_; rintro e wb ⟨va, ra, rfl, hra, hpa, hob⟩
                                obtain ⟨hla, hga⟩ := vers_rows HFR.out hpa
                                rw [HMM.out] at hla
                                have HRA := Lib.hid hra
                                have HGA := Lib.hid hga
                                have HOB := Lib.hid hob
                                have HLA := Lib.hid hla
                                have HVB := Lib.hid (versionsR wb t nk T2 _ R (HB.out.keep hob).2.1 (by unfold NMAX; omega))
                                obtain ⟨Aa, ca, eva⟩ := ownsRow_slice hra.own
                                rw [hla] at eva
                                subst eva
                                clear hra hpa hga hob hla HVA
                                go_wp2_with fail
                                refine HVB.out.mono ?_; rintro e wc ⟨vb, rb, rfl, hrb, hpb, hoc⟩
                                obtain ⟨hlb, hgb⟩ := vers_rows HFR.out hpb
                                rw [HMM.out] at hlb
                                obtain ⟨Ab, cb, evb, hrat⟩ := hrb.rat (fun r hr => by have := hgb r hr; unfold maxLen; omega)
                                rw [hlb] at evb
                                subst evb
                                have HRB := Lib.hid hrb
                                have HGB := Lib.hid hgb
                                have HLB := Lib.hid hlb
                                have HRT := Lib.hid hrat
                                have HOC := Lib.hid hoc
                                have HA1 := Lib.hid (HRA.out.only hoc (fun _ _ h => h))
                                have HOWN := Lib.hid (show wc.ownsRow wr.heap.size 27 4 (.slice Aa m ca) m (vflat ra) from by have := HA1.out.own; rw [HLA.out] at this; exact this)
                                have HNL := Lib.hid (show (vflat rb).length = m * 4 by rw [vflat_length, HLB.out])
                                have hzw : wr.heap.size ≤ wc.heap.size := Nat.le_trans HOB.out.size hoc.size
                                clear hrb hpb hgb hlb hrat hoc HVB
                                go_wp2_with (at_builtin; refine wpList_append_any rfl (.tmp 216) (.tmp 218) 31 rfl wr.heap.size 27 i0 _ 4 56 Try.underlying31 hi hz0 hz1 hz3 rfl (by decide) (.slice Aa m ca) m (vflat ra) rfl HOWN.out Ab m cb (vflat rb) rfl HNL.out (fun j' u hj => HRT.out.news j' u hj) (fun u hu => HRT.out.one u hu) (by unfold maxLen; omega) (by omega) (by omega) ?_; intro v' wd hown hod hat; obtain ⟨Ad, cd, rfl⟩ := ownsRow_slice hown; have HOWN5 := Lib.hid hown; have HOD := Lib.hid hod; clear hown hod hat)
                                have HRD := Lib.hid (show ∃ A c, (Value.slice Ad (m + m) cd) = .slice A (ra ++ rb).length c ∧ RAt wd A (ra ++ rb) from rat_own (B := wr.heap.size) (by
                                    rw [List.length_append, HLA.out, HLB.out, show vflat (ra ++ rb) = vflat ra ++ vflat rb from List.flatMap_append]
                                    exact HOWN5.out) (fun r hr => by
                                    have hkb : ∀ r : VRow, (r.st = 1 ∧ r.bs = bs ∧ r.dead = false ∧ 1 ≤ r.key.size ∧ r.key.size ≤ 255 ∧ (r.key, (⟨1, bs, false⟩ : Ver)) ∈ R) → r.key.size ≤ maxLen := fun r h => by unfold maxLen; omega
                                    rcases List.mem_append.1 hr with hr | hr
                                    · obtain ⟨A, c, e, hb⟩ := ((HA1.out.val r hr).only HOD.out (fun g hg e => HA1.out.apart r hr g e hg)).at
                                      exact ⟨A, c, e, hb, hkb r (HGA.out r hr)⟩
                                    · obtain ⟨A, c, e, hb⟩ := ((HRB.out.val r hr).only HOD.out (fun g hg e => by have h1 := (HRA.out.lt (k := g) (.inl e)).2; have h2 := (ownsRow_lt (HRB.out.val r hr) hg).1; omega)).at
                                      exact ⟨A, c, e, hb, hkb r (HGB.out r hr)⟩))
                                have HOE := Lib.hid (((HOW.out.trans HOB.out).trans HOC.out).step HOD.out (fun k hk e => by have h1 := (ownsRow_lt HOWN.out e).1; have h2 := HOW.out.size; omega))
                                have HGD := Lib.hid (show ∀ r ∈ ra ++ rb, r.st = 1 ∧ r.bs = bs ∧ r.dead = false from fun r hr => by
                                  rcases List.mem_append.1 hr with hr | hr
                                  · have := HGA.out r hr; exact ⟨this.1, this.2.1, this.2.2.1⟩
                                  · have := HGB.out r hr; exact ⟨this.1, this.2.1, this.2.2.1⟩)
                                have HLD := Lib.hid (show (ra ++ rb).length = m + m by rw [List.length_append, HLA.out, HLB.out])
                                generalize ra ++ rb = rd at HRD HGD HLD
                                clear HOWN5 HOD HOWN HA1 HRB HRA HRT HGA HGB HLA HLB HOB HOC HNL HOW
                                go_loopw [221] (fun vi wp => ∃ i : Nat, vi = .int .i64 i ∧ i ≤ m + m ∧ Only NoneOf wd wp) (fun vi _ => m + m - (intOf vi).toNat)
                                case atStart => exact ⟨0, rfl, by omega, Only.refl _ _⟩
                                case round =>
                                  obtain ⟨i, rfl, hi8, ho⟩ := hrel
                                  have HO := Lib.hid ho
                                  clear ho
                                  by_cases hlt8 : i < m + m
                                  · have hx : rd[i]? = some (rd[i]'(by rw [HLD.out]; exact hlt8)) := List.getElem?_eq_getElem _
                                    generalize rd[i]'(by rw [HLD.out]; exact hlt8) = r at hx
                                    obtain ⟨A4, c4, e4, hr4⟩ := HRD.out
                                    injection e4 with e41 e42 e43
                                    subst e41; subst e43
                                    clear e42
                                    obtain ⟨q1, q2, q3⟩ := HGD.out r (List.mem_of_getElem? hx)
                                    obtain ⟨g4, o4, Ab4, cb4, hA4, hg4, d0, d1, d2, d3, _, hby4, _⟩ := (hr4.keep HO.out) i r hx
                                    subst hA4
                                    rw [q2, HBN.out] at d2
                                    rw [q1] at d1
                                    rw [q3] at d3
                                    rw [q2] at hby4
                                    have HQ := Lib.hid ((Only.refl NoneOf wr).alloc (.cells #[.string r.key, .int .i64 1, .slice Ab4 n cb4, .bool false] 27))
                                    have HEQ := Lib.hid (equal_is (wr.alloc (.cells #[.string r.key, .int .i64 1, .slice Ab4 n cb4, .bool false] 27)) Ab4 Av n n cb4 cv bs bs HBN.out HBN.out (hby4.keep HQ.out) (HA.out.keep ((HOE.out.trans HO.out).trans HQ.out)) (by omega))
                                    rw [decide_eq_true rfl] at HEQ
                                    clear hx q1 q2 q3 hr4 hby4
                                    go_wp2_with fail
                                    refine HEQ.out.mono ?_; rintro e w4 ⟨rfl, m4, rfl⟩
                                    go_wp2_with fail
                                    exact ⟨⟨i + 1, by rw [show ((i + 1 : Nat) : Int) = (i : Int) + 1 by omega], by omega, (HO.out.trans HQ.out).drewN m4⟩, by simp [intOf]; omega⟩
                                  · have him9 : i = m + m := by omega
                                    subst him9
                                    have HOF := Lib.hid (HOE.out.trans HO.out)
                                    clear HRD HGD
                                    go_wp2_with fail
                                    refine (HFX _).out.mono ?_; rintro e w9 ⟨rfl, ho9⟩
                                    go_wp2_with fail
                                    go_ret
                                    exact ⟨rfl, HOF.out.trans ho9⟩
  · go_enter Try.func13, Try.ntmps13
    go_wp2_with fail
    refine (HFX _).out.mono ?_; rintro e w4 ⟨rfl, ho⟩
    go_wp2_with fail
    go_ret
    exact ⟨rfl, ho⟩

end Go.Proofs.Ytnonnencdhogiaa

/-
  Layer 14's law StoreFresh: bytes that come in, opened.
-/
namespace Go.Proofs.Ytnonnencdhogiaa
open Go.ChangeShapes Go.WideShapes Go.ChangeAt Go.RowKit Go.Deep

theorem open_value {H : Type} {enc : TypeId × Value → H} {w : World} {held : Bool} {v : Value} {d : DataW H} {p : List MemPlace} (hv : ∃ a len cap, v = .slice a len cap) (h : DataW.Trod enc Try.prog w 0 (fun _ => true) held 25 v d p) :
    ∃ A cap, ∃ bs : List UInt8, v = .slice A bs.length cap ∧ (A = none ∧ bs.length = 0 ∧ cap = 0 ∨ ∃ D S, d = .slice D S ∧ D.length = bs.length ∧ D.length + S.length = cap) ∧ BytesAt w A bs := by
  obtain ⟨A, n, cap, rfl, hl, _, hdd, hi⟩ := open_elems (sz := 1) Try.underlying25 (by kernel_rfl) (by omega) hv h
  have hx : ∀ i, i < n → ∃ b : UInt8, ∃ g off, A = some ⟨g, off, none⟩ ∧ g < w.heap.size ∧ w.cell? ⟨g, off + i, none⟩ = some (byteV b) := by
    intro i hlt
    obtain ⟨blk, off, cs, m, y, hA, hb, hlen, hc, ht⟩ := hi i hlt
    match cs, hlen with
    | [c], _ =>
      obtain ⟨x, rfl, hw⟩ := field_int Try.underlying5 ht
      have hr : 0 ≤ x ∧ x ≤ 255 := by simpa [Lit.wf, IntKind.min, IntKind.max, IntKind.signed, IntKind.bits] using hw
      refine ⟨UInt8.ofNat x.toNat, blk, off, hA, hb, ?_⟩
      have h0 := hc 0 _ rfl
      rw [Nat.mul_one, Nat.add_zero] at h0
      rw [h0]
      have hn : (UInt8.ofNat x.toNat).toNat = x.toNat := by rw [UInt8.toNat_ofNat']; omega
      simp only [byteV, hn]
      congr 2
      omega
  obtain ⟨bs, hbs, hp⟩ := list_of n hx
  subst hbs
  exact ⟨A, cap, bs, rfl, hdd, fun i c hc => by
    obtain ⟨g, off, h1, h2, h3⟩ := hp i c hc
    exact ⟨g, off, h1, h2, h3⟩⟩

end Go.Proofs.Ytnonnencdhogiaa

