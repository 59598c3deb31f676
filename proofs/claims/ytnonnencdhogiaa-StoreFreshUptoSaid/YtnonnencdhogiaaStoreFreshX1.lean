/-
  Texts of this proof, laid together: S72, S73, S74, S75, S65, S66, S76, S77.
-/
import Derived.Test.YtnonnencdhogiaaM9
import Derived.Deep.MidRow
/-
  Layer 14's law StoreFresh: roomy; lists of bytes, each list's bytes its own.
-/
namespace Go.Proofs.Ytnonnencdhogiaa
open Go.RowKit

theorem rowB_len {w : World} {B : Nat} {v : Value} {l : List UInt8} (h : RowB w B v l) {n : Nat} (hn : l.length = n) : w.ownsRow B 5 1 v n (l.map byteV) := by rw [← hn]; exact h

set_option maxRecDepth 100000 in
set_option maxHeartbeats 1000000 in
theorem roomy_is (w : World) (A : Option Addr) (n c : Nat) (bs : List UInt8) (hn : bs.length = n) (hA : BytesAt w A bs) (hl : n ≤ 35184372088832) :
    Calls Try.prog 37 #[.slice A n c] w fun e w' => ∃ v, e = .returned v ∧ RowB w' w.heap.size v (bs ++ List.replicate 80 165) ∧ Only NoneOf w w' := by
  obtain ⟨i0, hi, hz0, hz1, hz3⟩ := info_parts info5
  have HNEW := Lib.hid (BytesAt.news (hA.keep ((Only.refl NoneOf w).alloc (.cells #[] 5))))
  have HE := Lib.hid (own_empty (B := w.heap.size) (sz := 1) (Blk.new w 5 #[]) (Nat.le_refl _))
  have HO0 := Lib.hid ((Only.refl NoneOf w).alloc (.cells #[] 5))
  have HBL := Lib.hid (show (bs.map byteV).length = n * 1 by rw [List.length_map, hn, Nat.mul_one])
  have HN := Lib.hid hn
  clear hA hn
  go_enter Try.func37, Try.ntmps37
  go_wp2_with (at_builtin; refine wpList_append_any rfl (.tmp 4) (.tmp 5) 25 rfl w.heap.size 5 i0 _ 1 1 Try.underlying25 hi hz0 hz1 hz3 rfl (by decide) _ 0 [] rfl HE.out A n c (bs.map byteV) rfl HBL.out HNEW.out (one_bytes bs) (by unfold maxLen; omega) (by omega) (by simp) ?_; intro v3 w3 hown ho3 hat; rw [Nat.zero_add, List.nil_append] at hown; obtain ⟨Av3, cv3, rfl⟩ := ownsRow_slice hown; have HOWN := Lib.hid hown; have HO3 := Lib.hid ho3; clear hown ho3 hat)
  have HO4 := Lib.hid (show Only NoneOf w w3 from HO0.out.step HO3.out (fun k hk e => by
    have e1 : (Value.slice (some ⟨w.heap.size, 0, none⟩) 0 0).ownBlock = some k := e
    simp [Value.ownBlock] at e1
    omega))
  clear HO3 HE HNEW HO0 HBL
  go_loopw [3, 7] (fun v vi wr => ∃ i : Nat, vi = .int .i64 i ∧ i ≤ 80 ∧ RowB wr w.heap.size v (bs ++ List.replicate i 165) ∧ Only NoneOf w wr) (fun _ vi _ => 80 - (intOf vi).toNat)
  case atStart => exact ⟨0, rfl, by omega, by rw [List.replicate_zero, List.append_nil]; show World.ownsRow w3 w.heap.size 5 1 _ bs.length _; rw [HN.out]; exact HOWN.out, HO4.out⟩
  case round =>
    obtain ⟨i, rfl, hi2, hrow, hO⟩ := hrel
    have hlen : (bs ++ List.replicate i (165 : UInt8)).length = n + i := by rw [List.length_append, List.length_replicate, HN.out]
    have hrow' := rowB_len hrow hlen
    obtain ⟨Aq, cq, rfl⟩ := ownsRow_slice hrow'
    have HO := Lib.hid hO
    have hsz := hO.size
    by_cases hlt : i < 80
    · have HROW := Lib.hid (ownsRow_only hrow' ((Only.refl NoneOf wr).alloc (.cells #[.int .u8 165] 5)) (fun _ _ h => h))
      have HNW := Lib.hid (Blk.new wr 5 #[.int .u8 165])
      have HLT := Lib.hid (fun g (e : (Value.slice Aq (n + i) cq).ownBlock = some g) => ownsRow_lt hrow' e)
      clear hrow hrow' hO hlen
      go_wp2_with (at_builtin; refine wpList_append_any rfl (.tmp 9) (.tmp 10) 25 rfl w.heap.size 5 i0 _ 1 1 Try.underlying25 hi hz0 hz1 hz3 rfl (by decide) (.slice Aq (n + i) cq) (n + i) ((bs ++ List.replicate i 165).map byteV) rfl HROW.out (some ⟨wr.heap.size, 0, none⟩) 1 1 [.int .u8 165] rfl rfl (fun j' u hj => ⟨wr.heap.size, 0, rfl, by rw [Nat.zero_add, HNW.out.cell]; simpa using hj⟩) (fun u hu => by simp at hu; subst hu; rfl) (by unfold maxLen; omega) (by omega) (by simp; omega) ?_; intro v' w5 hown ho5 hat; obtain ⟨Aq', cq', rfl⟩ := ownsRow_slice hown; have HOWN5 := Lib.hid hown; have HO5 := Lib.hid ho5; clear hown ho5 hat)
      refine ⟨⟨i + 1, by rw [show ((i + 1 : Nat) : Int) = (i : Int) + 1 by omega], by omega, ?_, (HO.out.alloc _).step HO5.out (fun k hk e => by have := HLT.out k e; omega)⟩, by simp [intOf]; omega⟩
      show World.ownsRow w5 w.heap.size 5 1 _ (bs ++ List.replicate (i + 1) 165).length ((bs ++ List.replicate (i + 1) 165).map byteV)
      rw [show bs ++ List.replicate (i + 1) (165 : UInt8) = (bs ++ List.replicate i 165) ++ [165] by rw [List.replicate_succ', List.append_assoc], List.length_append, List.length_append, List.length_replicate, HN.out, List.map_append]
      exact HOWN5.out
    · obtain rfl : i = 80 := by omega
      have HROW := Lib.hid hrow
      clear hrow hrow' hlt hO hlen
      go_wp2_with fail
      go_ret
      exact ⟨_, rfl, HROW.out, HO.out⟩

end Go.Proofs.Ytnonnencdhogiaa

/-
  Layer 14's law StoreFresh: values: a list of byte slices, each with memory of its own.
-/
namespace Go.Proofs.Ytnonnencdhogiaa
open Go.RowKit

/-- a told list of bytes -/
structure LRow where
  val : Value
  bs : List UInt8
abbrev LRow.cells (r : LRow) : List Value := [r.val]
abbrev LRows := BRows (α := LRow) 25 1 LRow.cells LRow.val LRow.bs
abbrev LBlocks := BBlocks LRow.val
theorem info25 : (Try.prog.info? 25).map (fun i => (i.zero, i.size, i.bytes)) = some (some (.slice none 0 0), 1, 24) := by kernel_rfl
def VRow.l (r : VRow) : LRow := ⟨r.val, r.bs⟩
def PRow.l (r : PRow) : LRow := ⟨r.val, r.bs⟩

/-- a list of pairs in memory, row by row -/
def PAt (w : World) (A : Option Addr) (rs : List PRow) : Prop := ∀ i r, rs[i]? = some r → ∃ g off Ab cb, A = some ⟨g, off, none⟩ ∧ g < w.heap.size ∧ w.cell? ⟨g, off + i * 2, none⟩ = some (.string r.key) ∧ w.cell? ⟨g, off + i * 2 + 1, none⟩ = some (.slice Ab r.bs.length cb) ∧ r.val = .slice Ab r.bs.length cb

/-- what may come behind -/
structure LNew (w : World) (B : Nat) (v : Value) (ls news : List LRow) : Prop where
  own : ∀ r ∈ news, RowB w B r.val r.bs
  far : ∀ r ∈ news, ∀ g, r.val.ownBlock = some g → ¬ LBlocks v ls g
  dist : news.Pairwise fun a b => ∀ g, a.val.ownBlock = some g → b.val.ownBlock ≠ some g

theorem flat_l (ls : List LRow) : (ls.flatMap LRow.cells).length = ls.length := by
  induction ls with
  | nil => rfl
  | cons r ls ih => simp [List.flatMap_cons, ih]

/-- in a round -/
def ValRel (w : World) (B : Nat) (v0 : Value) (ls news : List LRow) (v : Value) (wr : World) : Prop :=
  LRows wr B v (ls ++ news) ∧ Only (fun k => v0.ownBlock = some k) w wr ∧ (v.ownBlock = v0.ownBlock ∨ ∃ g, v.ownBlock = some g ∧ w.heap.size ≤ g)

/-- one more -/
theorem ValRel.snoc {w wr w' : World} {B : Nat} {v0 v v' : Value} {ls news : List LRow} {r : LRow} (h : ValRel w B v0 ls news v wr) (hn : LNew w B v0 ls (news ++ [r])) {wm : World} (hm : Only NoneOf wr wm)
    (hown : wm.ownsRow B 25 1 v (ls ++ news).length ((ls ++ news).flatMap LRow.cells) → w'.ownsRow B 25 1 v' ((ls ++ news).length + 1) ((ls ++ news).flatMap LRow.cells ++ [r.val])) (ho : Only (fun k => v.ownBlock = some k) wm w') (hat : v'.ownBlock = v.ownBlock ∨ v'.ownBlock = some wm.heap.size) :
    ValRel w B v0 ls (news ++ [r]) v' w' := by
  obtain ⟨h1, h2, h3⟩ := h
  have hsz := h2.size
  have hsm := hm.size
  have hr : RowB w B r.val r.bs := hn.own r (by simp)
  have hrw : RowB wm B r.val r.bs := (hr.only h2 (fun g hg e => hn.far r (by simp) g hg (.inl e))).only hm (fun _ _ h => h)
  have hlt := fun g (hg : r.val.ownBlock = some g) => (ownsRow_lt hr hg).2
  refine ⟨?_, (h2.trans (hm.mono fun _ _ h => h.elim)).step ho (fun k hk e => ?_), ?_⟩
  · rw [← List.append_assoc]
    refine BRows.snoc (h1.keep hm) ho (hown (h1.keep hm).own) hat hrw (fun g hg hb => ?_)
    rcases hb with hb | ⟨x, hx, hb⟩
    · rcases h3 with e | ⟨g', hg', hge⟩
      · rw [e] at hb
        exact hn.far r (by simp) g hg (.inl hb)
      · rw [hg'] at hb
        cases hb
        have := hlt g hg
        omega
    · rcases List.mem_append.1 hx with hx | hx
      · exact hn.far r (by simp) g hg (.inr ⟨x, hx, hb⟩)
      · exact (List.pairwise_append.1 hn.dist).2.2 x hx r (by simp) g hb hg
  · rcases h3 with e3 | ⟨g', hg', hge⟩
    · rw [← e3]; exact e
    · rw [hg'] at e
      cases e
      omega
  · rcases hat with e | e
    · rw [e]; exact h3
    · exact .inr ⟨_, e, by omega⟩
theorem LNew.take {w : World} {B : Nat} {v : Value} {ls a b : List LRow} (h : LNew w B v ls (a ++ b)) : LNew w B v ls a :=
  ⟨fun r hr => h.own r (List.mem_append_left _ hr), fun r hr => h.far r (List.mem_append_left _ hr), (List.pairwise_append.1 h.dist).1⟩

set_option maxRecDepth 100000 in
set_option maxHeartbeats 4000000 in
theorem values_is (w : World) (B : Nat) (v : Value) (ls : List LRow) (h : LRows w B v ls) (Al : Option Addr) (cl : Nat) (vr : List VRow) (hl : ∀ w', Only (fun k => v.ownBlock = some k) w w' → RAt w' Al vr) (Ap : Option Addr) (cp : Nat) (pr : List PRow) (hp : ∀ w', Only (fun k => v.ownBlock = some k) w w' → PAt w' Ap pr)
    (hn : LNew w B v ls (vr.map VRow.l ++ pr.map PRow.l)) (hB : B ≤ w.heap.size) (hfew : ls.length + (vr.length + pr.length) ≤ 5000000000000) :
    Calls Try.prog 38 #[v, .slice Al vr.length cl, .slice Ap pr.length cp] w fun e w' => ∃ v', e = .returned v' ∧ ValRel w B v ls (vr.map VRow.l ++ pr.map PRow.l) v' w' := by
  have HL := Lib.hid hl
  have HP := Lib.hid hp
  have HNW := Lib.hid hn
  have HV0 := Lib.hid (show ValRel w B v ls [] v w from ⟨by rw [List.append_nil]; exact h, Only.refl _ _, .inl rfl⟩)
  obtain ⟨Av, cv, hv⟩ := ownsRow_slice h.own
  obtain ⟨i0, hi, hz0, hz1, hz3⟩ := info_parts info25
  obtain ⟨nl, hnl⟩ : ∃ nl, vr.length = nl := ⟨_, rfl⟩
  have HNL := Lib.hid hnl
  obtain ⟨np, hnp⟩ : ∃ np, pr.length = np := ⟨_, rfl⟩
  have HNP := Lib.hid hnp
  rw [hnl, hnp] at hfew ⊢
  clear hl hp hn h hnl hnp
  obtain ⟨v0, hv0⟩ : ∃ v0, v0 = v := ⟨_, rfl⟩
  rw [← hv0] at HL HP HNW HV0 ⊢
  have HVV := Lib.hid (hv0.trans hv)
  rw [hv0, hv]
  have HV1 := Lib.hid (show ValRel w B v0 ls [] (.slice Av ls.length cv) w by rw [← HVV.out]; exact HV0.out)
  clear HV0 hv0 hv
  go_enter Try.func38, Try.ntmps38
  go_wp2_with fail
  go_loopw [0, 13] (fun v vi wr => ∃ i : Nat, vi = .int .i64 i ∧ i ≤ nl ∧ ValRel w B v0 ls (((vr.take i)).map VRow.l) v wr) (fun _ vi _ => nl - (intOf vi).toNat)
  case atStart => exact ⟨0, rfl, by omega, by simpa using HV1.out⟩
  case round =>
    obtain ⟨i, rfl, hi2, hrel'⟩ := hrel
    have hml : (ls ++ (vr.take i).map VRow.l).length ≤ ls.length + i := by rw [List.length_append, List.length_map, List.length_take, HNL.out]; omega
    obtain ⟨Aq, cq, rfl⟩ := ownsRow_slice hrel'.1.own
    obtain ⟨m, hm⟩ : ∃ m, (ls ++ (((vr.take i)).map VRow.l)).length = m := ⟨_, rfl⟩
    have HM := Lib.hid hm
    rw [hm] at hml hrel' ⊢
    have HREL := Lib.hid hrel'
    have hsz := hrel'.2.1.size
    by_cases hlt : i < nl
    · have hx : vr[i]? = some (vr[i]'(by rw [HNL.out]; exact hlt)) := List.getElem?_eq_getElem _
      generalize vr[i]'(by rw [HNL.out]; exact hlt) = r at hx
      obtain ⟨g, off, Ab, cb, rfl, hg, d0, d1, d2, d3, hval, _, _⟩ := HL.out wr hrel'.2.1 i r hx
      have hnews : (((vr.take (i + 1))).map VRow.l) = (((vr.take i)).map VRow.l) ++ [VRow.l r] := by rw [List.take_add_one, hx]; simp
      have HNEW := Lib.hid hnews
      have HNT := Lib.hid (show LNew w B v0 ls ((((vr.take i)).map VRow.l) ++ [VRow.l r]) by
        rw [← hnews]
        refine LNew.take (b := ((vr.drop (i + 1)).map VRow.l ++ pr.map PRow.l)) ?_
        have := HNW.out
        rw [show (((vr.take (i + 1))).map VRow.l) ++ ((vr.drop (i + 1)).map VRow.l ++ pr.map PRow.l) = vr.map VRow.l ++ pr.map PRow.l from by rw [← List.append_assoc, ← List.map_append, List.take_append_drop]]
        exact this)
      obtain ⟨nb, hnb⟩ : ∃ nb, r.bs.length = nb := ⟨_, rfl⟩
      rw [hnb] at d2 hval
      have HVAL := Lib.hid hval
      have HOM := Lib.hid (((Only.refl NoneOf wr).alloc (.cells #[.string r.key, .int .i64 r.st, .slice Ab nb cb, .bool r.dead] 27)).alloc (.cells #[.slice Ab nb cb] 25))
      have HR0 := Lib.hid (show (((wr.alloc (.cells #[.string r.key, .int .i64 r.st, .slice Ab nb cb, .bool r.dead] 27)).alloc (.cells #[.slice Ab nb cb] 25)).ownsRow B 25 1 (.slice Aq m cq) m ((ls ++ (((vr.take i)).map VRow.l)).flatMap LRow.cells)) from by
        have := (HREL.out.1.keep HOM.out).own
        rw [hm] at this
        exact this)
      have HNB := Lib.hid (Blk.new' (wr.alloc (.cells #[.string r.key, .int .i64 r.st, .slice Ab nb cb, .bool r.dead] 27)) 25 #[.slice Ab nb cb] (n := wr.heap.size + 1) (by simp))
      clear hrel' hm hx hval hnb hnews
      go_wp2_with (at_builtin; refine wpList_append_any rfl (.tmp 17) (.tmp 20) 75 rfl B 25 i0 _ 1 24 Try.underlying75 hi hz0 hz1 hz3 rfl (by decide) (.slice Aq m cq) m ((ls ++ (((vr.take i)).map VRow.l)).flatMap LRow.cells) rfl HR0.out (some ⟨wr.heap.size + 1, 0, none⟩) 1 1 [.slice Ab nb cb] rfl rfl (fun j' u hj => ⟨wr.heap.size + 1, 0, rfl, by rw [Nat.zero_add, HNB.out.cell]; simpa using hj⟩) (fun u hu => by simp at hu; subst hu; rfl) (by unfold maxLen; omega) (by omega) (by simp; omega) ?_; intro v' w3 hown ho3 hat; obtain ⟨Aq', cq', rfl⟩ := ownsRow_slice hown; have HOWN := Lib.hid hown; have HO3 := Lib.hid ho3; have HAT := Lib.hid hat; clear hown ho3 hat)
      refine ⟨⟨i + 1, by rw [show ((i + 1 : Nat) : Int) = (i : Int) + 1 by omega], by omega, ?_⟩, by simp [intOf]; omega⟩
      rw [HNEW.out]
      refine ValRel.snoc (r := VRow.l r) HREL.out HNT.out HOM.out (fun _ => ?_) HO3.out HAT.out
      rw [HM.out, show (VRow.l r).val = .slice Ab nb cb from HVAL.out]
      exact HOWN.out
    · have hin : nl = i := by omega
      have e1 : vr.take i = vr := by rw [← hin, ← HNL.out, List.take_length]
      subst hin
      have HV2 := Lib.hid (show ValRel w B v0 ls (vr.map VRow.l ++ (pr.take 0).map PRow.l) (.slice Aq m cq) wr by rw [List.take_zero, List.map_nil, List.append_nil]; rw [e1] at hrel'; exact hrel')
      clear hrel' hm e1 hlt hml
      go_wp2_with fail
      go_loopw [0, 25] (fun v vi wr => ∃ i : Nat, vi = .int .i64 i ∧ i ≤ np ∧ ValRel w B v0 ls (vr.map VRow.l ++ ((pr.take i)).map PRow.l) v wr) (fun _ vi _ => np - (intOf vi).toNat)
      case atStart => exact ⟨0, rfl, by omega, by exact HV2.out⟩
      case round =>
        obtain ⟨i, rfl, hi2, hrel'⟩ := hrel
        have hml : (ls ++ (vr.map VRow.l ++ (pr.take i).map PRow.l)).length ≤ ls.length + nl + i := by rw [List.length_append, List.length_append, List.length_map, List.length_map, List.length_take, HNL.out]; omega
        obtain ⟨Aq, cq, rfl⟩ := ownsRow_slice hrel'.1.own
        obtain ⟨m, hm⟩ : ∃ m, (ls ++ (vr.map VRow.l ++ ((pr.take i)).map PRow.l)).length = m := ⟨_, rfl⟩
        have HM := Lib.hid hm
        rw [hm] at hml hrel' ⊢
        have HREL := Lib.hid hrel'
        have hsz := hrel'.2.1.size
        by_cases hlt : i < np
        · have hx : pr[i]? = some (pr[i]'(by rw [HNP.out]; exact hlt)) := List.getElem?_eq_getElem _
          generalize pr[i]'(by rw [HNP.out]; exact hlt) = r at hx
          obtain ⟨g, off, Ab, cb, rfl, hg, d0, d1, hval⟩ := HP.out wr hrel'.2.1 i r hx
          have hnews : (vr.map VRow.l ++ ((pr.take (i + 1))).map PRow.l) = (vr.map VRow.l ++ ((pr.take i)).map PRow.l) ++ [PRow.l r] := by rw [List.take_add_one, hx]; simp
          have HNEW := Lib.hid hnews
          have HNT := Lib.hid (show LNew w B v0 ls ((vr.map VRow.l ++ ((pr.take i)).map PRow.l) ++ [PRow.l r]) by
            rw [← hnews]
            refine LNew.take (b := ((pr.drop (i + 1)).map PRow.l)) ?_
            have := HNW.out
            rw [show (vr.map VRow.l ++ ((pr.take (i + 1))).map PRow.l) ++ ((pr.drop (i + 1)).map PRow.l) = vr.map VRow.l ++ pr.map PRow.l from by rw [List.append_assoc, ← List.map_append, List.take_append_drop]]
            exact this)
          obtain ⟨nb, hnb⟩ : ∃ nb, r.bs.length = nb := ⟨_, rfl⟩
          rw [hnb] at d1 hval
          have HVAL := Lib.hid hval
          have HOM := Lib.hid (((Only.refl NoneOf wr).alloc (.cells #[.string r.key, .slice Ab nb cb] 48)).alloc (.cells #[.slice Ab nb cb] 25))
          have HR0 := Lib.hid (show (((wr.alloc (.cells #[.string r.key, .slice Ab nb cb] 48)).alloc (.cells #[.slice Ab nb cb] 25)).ownsRow B 25 1 (.slice Aq m cq) m ((ls ++ (vr.map VRow.l ++ ((pr.take i)).map PRow.l)).flatMap LRow.cells)) from by
            have := (HREL.out.1.keep HOM.out).own
            rw [hm] at this
            exact this)
          have HNB := Lib.hid (Blk.new' (wr.alloc (.cells #[.string r.key, .slice Ab nb cb] 48)) 25 #[.slice Ab nb cb] (n := wr.heap.size + 1) (by simp))
          clear hrel' hm hx hval hnb hnews
          go_wp2_with (at_builtin; refine wpList_append_any rfl (.tmp 29) (.tmp 32) 75 rfl B 25 i0 _ 1 24 Try.underlying75 hi hz0 hz1 hz3 rfl (by decide) (.slice Aq m cq) m ((ls ++ (vr.map VRow.l ++ ((pr.take i)).map PRow.l)).flatMap LRow.cells) rfl HR0.out (some ⟨wr.heap.size + 1, 0, none⟩) 1 1 [.slice Ab nb cb] rfl rfl (fun j' u hj => ⟨wr.heap.size + 1, 0, rfl, by rw [Nat.zero_add, HNB.out.cell]; simpa using hj⟩) (fun u hu => by simp at hu; subst hu; rfl) (by unfold maxLen; omega) (by omega) (by simp; omega) ?_; intro v' w3 hown ho3 hat; obtain ⟨Aq', cq', rfl⟩ := ownsRow_slice hown; have HOWN := Lib.hid hown; have HO3 := Lib.hid ho3; have HAT := Lib.hid hat; clear hown ho3 hat)
          refine ⟨⟨i + 1, by rw [show ((i + 1 : Nat) : Int) = (i : Int) + 1 by omega], by omega, ?_⟩, by simp [intOf]; omega⟩
          rw [HNEW.out]
          refine ValRel.snoc (r := PRow.l r) HREL.out HNT.out HOM.out (fun _ => ?_) HO3.out HAT.out
          rw [HM.out, show (PRow.l r).val = .slice Ab nb cb from HVAL.out]
          exact HOWN.out
        · have hin : np = i := by omega
          have e1 : pr.take i = pr := by rw [← hin, ← HNP.out, List.take_length]
          subst hin
          have HV3 := Lib.hid (show ValRel w B v0 ls (vr.map VRow.l ++ pr.map PRow.l) (.slice Aq m cq) wr by rw [e1] at hrel'; exact hrel')
          clear hrel' hm e1 hlt hml
          go_wp2_with fail
          go_ret
          rw [← HVV.out]
          exact ⟨_, rfl, HV3.out⟩

end Go.Proofs.Ytnonnencdhogiaa

/-
  Layer 14's law StoreFresh: a list of byte slices, one of them turned; plain words for told.
-/
namespace Go.Proofs.Ytnonnencdhogiaa
open Go.RowKit

/-- a cell of an own row of cells overwritten -/
theorem own_put {w : World} {B g n cap : Nat} {e : TypeId} {xs : List Value} (h : w.ownsRow B e 1 (.slice (some ⟨g, 0, none⟩) n cap) n xs) {i : Nat} (hi : i < n) (u : Value) :
    (∃ x, xs[i]? = some x ∧ w.cell? ⟨g, i, none⟩ = some x) ∧ w.frozen? ⟨g, i, none⟩ = false ∧ B ≤ g ∧ (w.setCell ⟨g, i, none⟩ u).ownsRow B e 1 (.slice (some ⟨g, 0, none⟩) n cap) n (xs.set i u) := by
  obtain ⟨hl, h⟩ := h
  rcases h with ⟨h0, _⟩ | ⟨g', cap', cur, hv, hb, hh, hle, hcm, hsz, hcur⟩
  · simp at h0
  · simp only [Value.slice.injEq, Option.some.injEq, Addr.mk.injEq, and_true] at hv
    obtain ⟨rfl, _, rfl⟩ := hv
    have hblk : Blk w g e cur := hh
    rw [Nat.mul_one] at hl hcur
    refine ⟨⟨xs[i]'(by omega), List.getElem?_eq_getElem _, ?_⟩, hblk.free i, hb, by rw [List.length_set, Nat.mul_one]; exact hl, .inr ⟨g, cap, cur.setIfInBounds i u, rfl, hb, hblk.put i u, hle, hcm, by simpa using hsz, ?_⟩⟩
    · rw [hblk.cell, ← List.getElem?_eq_getElem, ← hcur, List.getElem?_take_of_lt (by omega), Array.getElem?_toList]
    · rw [Nat.mul_one, Array.toList_setIfInBounds, List.take_set, hcur]
theorem own_some {w : World} {B n : Nat} {v : Value} {e : TypeId} {xs : List Value} (h : w.ownsRow B e 1 v n xs) (hn : 0 < n) : ∃ g cap, v = .slice (some ⟨g, 0, none⟩) n cap ∧ B ≤ g ∧ g < w.heap.size := by
  obtain ⟨g, hg⟩ : ∃ g, v.ownBlock = some g := by
    rcases h.2 with ⟨_, h0⟩ | ⟨g', cap', cur, hv, _⟩
    · omega
    · exact ⟨g', by rw [hv]; rfl⟩
  have := ownsRow_lt h hg
  rcases h.2 with ⟨_, h0⟩ | ⟨g', cap', cur, rfl, _⟩
  · omega
  · obtain rfl : g' = g := by simpa [Value.ownBlock] using hg
    exact ⟨g', cap', rfl, this⟩

theorem flat_vals (ls : List LRow) : ls.flatMap LRow.cells = ls.map LRow.val := by
  induction ls with
  | nil => rfl
  | cons r ls ih => rw [List.flatMap_cons, ih]; rfl
theorem flat_set (ls : List LRow) (k : Nat) (r : LRow) : (ls.set k r).flatMap LRow.cells = (ls.flatMap LRow.cells).set k r.val := by
  rw [flat_vals, flat_vals, List.map_set]

/-- one row turned -/
theorem LRows.set {w w' : World} {B : Nat} {v : Value} {ls : List LRow} {k : Nat} {r r' : LRow} (h : LRows w B v ls) (hk : ls[k]? = some r) (ho : Only (fun g => v.ownBlock = some g ∨ r.val.ownBlock = some g) w w')
    (hown : w'.ownsRow B 25 1 v ls.length ((ls.set k r').flatMap LRow.cells)) (hr : RowB w' B r'.val r'.bs) (hat : ∀ g, r'.val.ownBlock = some g → r.val.ownBlock = some g ∨ w.heap.size ≤ g) : LRows w' B v (ls.set k r') := by
  have hd := List.pairwise_iff_getElem.1 h.dist
  obtain ⟨hkl, hkr⟩ := List.getElem?_eq_some_iff.1 hk
  have hother : ∀ j x, ls[j]? = some x → j ≠ k → ∀ g, x.val.ownBlock = some g → r.val.ownBlock ≠ some g := fun j x hj hne g hg e => by
    obtain ⟨hjl, hjx⟩ := List.getElem?_eq_some_iff.1 hj
    rcases Nat.lt_or_gt_of_ne hne with hlt | hlt
    · have := hd j k hjl hkl hlt g (by rw [hjx]; exact hg)
      rw [hkr] at this
      exact this e
    · have := hd k j hkl hjl hlt g (by rw [hkr]; exact e)
      rw [hjx] at this
      exact this hg
  have hlow : ∀ x ∈ ls, ∀ g, x.val.ownBlock = some g → g < w.heap.size := fun x hx g hg => (ownsRow_lt (h.vals x hx) hg).2
  have hnew : ∀ j x, ls[j]? = some x → j ≠ k → ∀ g, x.val.ownBlock = some g → r'.val.ownBlock ≠ some g := fun j x hj hne g hg e => by
    rcases hat g e with e' | e'
    · exact hother j x hj hne g hg e'
    · have := hlow x (List.mem_of_getElem? hj) g hg
      omega
  have hval : ∀ j x, (ls.set k r')[j]? = some x → (j = k ∧ x = r') ∨ (j ≠ k ∧ ls[j]? = some x) := fun j x hj => by
    rw [List.getElem?_set] at hj
    by_cases e : k = j
    · subst e
      simp only [if_pos, hkl] at hj
      exact .inl ⟨rfl, by injection hj with hj; exact hj.symm⟩
    · rw [if_neg e] at hj
      exact .inr ⟨fun h => e h.symm, hj⟩
  refine ⟨by rw [List.length_set]; exact hown, fun x hx => ?_, fun x hx g hg e => ?_, ?_⟩
  · obtain ⟨j, hj⟩ := List.mem_iff_getElem?.1 hx
    rcases hval j x hj with ⟨_, rfl⟩ | ⟨hne, hj'⟩
    · exact hr
    · refine (h.vals x (List.mem_of_getElem? hj')).only ho (fun g hg e => ?_)
      rcases e with e | e
      · exact h.apart x (List.mem_of_getElem? hj') g e hg
      · exact hother j x hj' hne g hg e
  · obtain ⟨j, hj⟩ := List.mem_iff_getElem?.1 hx
    rcases hval j x hj with ⟨_, rfl⟩ | ⟨hne, hj'⟩
    · rcases hat g e with e' | e'
      · exact h.apart r (List.mem_of_getElem? hk) g hg e'
      · have := (ownsRow_lt h.own hg).2
        omega
    · exact h.apart x (List.mem_of_getElem? hj') g hg e
  · refine List.pairwise_iff_getElem.2 fun i j hi hj hij g hgi hgj => ?_
    have a := hval i _ (List.getElem?_eq_getElem hi)
    have b := hval j _ (List.getElem?_eq_getElem hj)
    rcases a with ⟨ei, ea⟩ | ⟨ei, ea⟩ <;> rcases b with ⟨ej, eb⟩ | ⟨ej, eb⟩
    · omega
    · rw [ea] at hgi
      exact hnew j _ eb ej g hgj hgi
    · rw [eb] at hgj
      exact hnew i _ ea ei g hgi hgj
    · have hl1 := (List.getElem?_eq_some_iff.1 ea).1
      have hl2 := (List.getElem?_eq_some_iff.1 eb).1
      have := hd i j hl1 hl2 hij g (by rw [(List.getElem?_eq_some_iff.1 ea).2]; exact hgi)
      rw [(List.getElem?_eq_some_iff.1 eb).2] at this
      exact this hgj

/-- the told lists, turned by told -/
structure TR (w : World) (B : Nat) (v : Value) (ls ls' : List LRow) (wr : World) : Prop where
  rows : LRows wr B v ls'
  only : Only (LBlocks v ls) w wr
  blk : ∀ k, LBlocks v ls' k → LBlocks v ls k ∨ w.heap.size ≤ k
  len : ls'.length = ls.length
theorem TR.start {w : World} {B : Nat} {v : Value} {ls : List LRow} (h : LRows w B v ls) (m : Nat) : TR w B v ls ls (w.drewN m) :=
  ⟨h.keep ((Only.refl _ _).drewN m), (Only.refl _ _).drewN m, fun _ h => .inl h, rfl⟩
theorem TR.drewN {w wr : World} {B : Nat} {v : Value} {ls ls' : List LRow} (h : TR w B v ls ls' wr) (m : Nat) : TR w B v ls ls' (wr.drewN m) :=
  ⟨h.rows.keep ((Only.refl _ _).drewN m), h.only.drewN m, h.blk, h.len⟩
theorem TR.keep {w wr w2 : World} {B : Nat} {v : Value} {ls ls' : List LRow} (h : TR w B v ls ls' wr) (ho : Only NoneOf wr w2) : TR w B v ls ls' w2 :=
  ⟨h.rows.keep ho, h.only.trans (ho.mono fun _ _ h => h.elim), h.blk, h.len⟩
theorem TR.set {w wr w' : World} {B : Nat} {v : Value} {ls ls' : List LRow} {k : Nat} {r r' : LRow} (h : TR w B v ls ls' wr) (hk : ls'[k]? = some r) (ho : Only (fun g => v.ownBlock = some g ∨ r.val.ownBlock = some g) wr w')
    (hown : w'.ownsRow B 25 1 v ls'.length ((ls'.set k r').flatMap LRow.cells)) (hr : RowB w' B r'.val r'.bs) (hat : ∀ g, r'.val.ownBlock = some g → r.val.ownBlock = some g ∨ wr.heap.size ≤ g) : TR w B v ls (ls'.set k r') w' := by
  have hin : ∀ g, v.ownBlock = some g ∨ r.val.ownBlock = some g → LBlocks v ls' g := fun g hg => by
    rcases hg with hg | hg
    · exact .inl hg
    · exact .inr ⟨r, List.mem_of_getElem? hk, hg⟩
  have hsz := h.only.size
  refine ⟨h.rows.set hk ho hown hr hat, h.only.step ho (fun g hlt hg => ?_), fun g hg => ?_, by rw [List.length_set]; exact h.len⟩
  · rcases h.blk g (hin g hg) with e | e
    · exact e
    · omega
  · rcases hg with hg | ⟨x, hx, hg⟩
    · exact h.blk g (.inl hg)
    · rcases List.mem_or_eq_of_mem_set hx with hx | rfl
      · exact h.blk g (.inr ⟨x, hx, hg⟩)
      · rcases hat g hg with e | e
        · exact h.blk g (hin g (.inr e))
        · exact .inr (by omega)

/-- a row's value, and where the list holds it -/
theorem LRows.row {w : World} {B : Nat} {v : Value} {ls : List LRow} {k : Nat} {r : LRow} (h : LRows w B v ls) (hk : ls[k]? = some r) : ∃ g cap A c, v = .slice (some ⟨g, 0, none⟩) ls.length cap ∧ r.val = .slice A r.bs.length c ∧ w.cell? ⟨g, k, none⟩ = some (.slice A r.bs.length c) ∧ w.frozen? ⟨g, k, none⟩ = false := by
  have hkl := (List.getElem?_eq_some_iff.1 hk).1
  obtain ⟨g, cap, rfl, _, _⟩ := own_some h.own (by omega)
  obtain ⟨⟨x, hx, hc⟩, hf, _, _⟩ := own_put h.own hkl (.bool true)
  rw [flat_vals, List.getElem?_map, hk] at hx
  obtain ⟨A, c, e⟩ := ownsRow_slice (h.vals r (List.mem_of_getElem? hk))
  injection hx with hx
  refine ⟨g, cap, A, c, rfl, e, ?_, hf⟩
  rw [hc, ← hx, e]

/-- the byte of a number -/
def bt (k : Nat) : UInt8 := UInt8.ofNat k
theorem bt_val (k : Nat) : byteV (bt k) = .int .u8 ((k : Int) % 256) := by simp [bt, byteV]

/-- the second phase -/
def Ph2 (n : Nat) (ls : List LRow) (k i : Nat) : Prop := ∀ j r, ls[j]? = some r → r.bs.length = n ∧ (j < k → r.bs = List.replicate n (bt j)) ∧ (j = k → r.bs.take i = List.replicate i (bt k))
theorem Ph2.start {n : Nat} {ls : List LRow} {bs : List UInt8} (hn : bs.length = n) (h : ∀ r ∈ ls, r.bs = bs) : Ph2 n ls 0 0 := fun j r hr =>
  ⟨by rw [h r (List.mem_of_getElem? hr)]; exact hn, fun h => by omega, fun _ => by simp⟩
theorem Ph2.next {n : Nat} {ls : List LRow} {k : Nat} (h : Ph2 n ls k n) : Ph2 n ls (k + 1) 0 := fun j r hr => by
  obtain ⟨h1, h2, h3⟩ := h j r hr
  refine ⟨h1, fun hlt => ?_, fun _ => by simp⟩
  rcases Nat.lt_or_ge j k with hj | hj
  · exact h2 hj
  · obtain rfl : j = k := by omega
    rw [← h3 rfl, List.take_of_length_le (by omega)]
theorem Ph2.set {n : Nat} {ls : List LRow} {k i : Nat} {r : LRow} (h : Ph2 n ls k i) (hk : ls[k]? = some r) (hi : i < n) : Ph2 n (ls.set k ⟨r.val, r.bs.set i (bt k)⟩) k (i + 1) := fun j x hx => by
  have hkl := (List.getElem?_eq_some_iff.1 hk).1
  rw [List.getElem?_set] at hx
  by_cases e : k = j
  · subst e
    simp only [if_pos, hkl] at hx
    injection hx with hx
    subst hx
    obtain ⟨h1, h2, h3⟩ := h k r hk
    refine ⟨by simpa using h1, fun hlt => by omega, fun _ => ?_⟩
    show (r.bs.set i (bt k)).take (i + 1) = _
    rw [List.take_set, List.take_add_one, List.getElem?_eq_getElem (by omega), h3 rfl, List.set_append_right _ _ (by simp), List.length_replicate, Nat.sub_self, List.replicate_succ']
    rfl
  · rw [if_neg e] at hx
    obtain ⟨h1, h2, h3⟩ := h j x hx
    exact ⟨h1, h2, fun h => absurd h.symm e⟩

/-- the third -/
def Ph3 (n : Nat) (ls : List LRow) (k i : Nat) : Prop := ∀ j r, ls[j]? = some r → (j < k → r.bs = List.replicate n (bt j) ++ List.replicate 70 (bt (j + 128))) ∧ (j = k → r.bs = List.replicate n (bt j) ++ List.replicate i (bt (j + 128))) ∧ (k < j → r.bs = List.replicate n (bt j))
theorem Ph3.start {n : Nat} {ls : List LRow} (h : Ph2 n ls ls.length 0) : Ph3 n ls 0 0 := fun j r hr => by
  have := (h j r hr).2.1 (List.getElem?_eq_some_iff.1 hr).1
  exact ⟨fun h => by omega, fun _ => by simpa using this, fun _ => this⟩
theorem Ph3.next {n : Nat} {ls : List LRow} {k : Nat} (h : Ph3 n ls k 70) : Ph3 n ls (k + 1) 0 := fun j r hr => by
  obtain ⟨h1, h2, h3⟩ := h j r hr
  refine ⟨fun hlt => ?_, fun e => ?_, fun hlt => h3 (by omega)⟩
  · rcases Nat.lt_or_ge j k with hj | hj
    · exact h1 hj
    · exact h2 (by omega)
  · rw [h3 (by omega)]; simp
theorem Ph3.set {n : Nat} {ls : List LRow} {k i : Nat} {r : LRow} (h : Ph3 n ls k i) (hk : ls[k]? = some r) (v : Value) : Ph3 n (ls.set k ⟨v, r.bs ++ [bt (k + 128)]⟩) k (i + 1) := fun j x hx => by
  have hkl := (List.getElem?_eq_some_iff.1 hk).1
  rw [List.getElem?_set] at hx
  by_cases e : k = j
  · subst e
    simp only [if_pos, hkl] at hx
    injection hx with hx
    subst hx
    obtain ⟨h1, h2, h3⟩ := h k r hk
    refine ⟨fun hlt => by omega, fun _ => ?_, fun h => by omega⟩
    show r.bs ++ [bt (k + 128)] = _
    rw [h2 rfl, List.replicate_succ', List.append_assoc]
  · rw [if_neg e] at hx
    obtain ⟨h1, h2, h3⟩ := h j x hx
    exact ⟨h1, fun h => absurd h.symm e, h3⟩
/-- what each list's bytes are at the end -/
theorem Ph3.byte {n : Nat} {ls : List LRow} (h : Ph3 n ls ls.length 0) {k : Nat} {r : LRow} (hk : ls[k]? = some r) : r.bs.length = n + 70 ∧ ∀ i c, r.bs[i]? = some c → (i < n → c = bt k) ∧ (n ≤ i → c = bt (k + 128)) := by
  have e := (h k r hk).1 (List.getElem?_eq_some_iff.1 hk).1
  refine ⟨by rw [e]; simp, fun i c hc => ?_⟩
  rw [e] at hc
  constructor
  · intro hi
    rw [List.getElem?_append_left (by simpa using hi), List.getElem?_replicate, if_pos hi] at hc
    injection hc with hc
    exact hc.symm
  · intro hi
    rw [List.getElem?_append_right (by simpa using hi), List.length_replicate, List.getElem?_replicate] at hc
    split at hc
    · injection hc with hc
      exact hc.symm
    · cases hc

end Go.Proofs.Ytnonnencdhogiaa

/-
  Layer 14's law StoreFresh: told.
-/
namespace Go.Proofs.Ytnonnencdhogiaa
open Go.RowKit

theorem TR.row {w wr : World} {B N c0 k : Nat} {v : Value} {A0 : Option Addr} {ls ls' : List LRow} (h : TR w B v ls ls' wr) (hv : v = .slice A0 N c0) (hN : ls.length = N) (hk : k < N) :
    ∃ r g A c, ls'[k]? = some r ∧ A0 = some ⟨g, 0, none⟩ ∧ r.val = .slice A r.bs.length c ∧ wr.cell? ⟨g, k, none⟩ = some (.slice A r.bs.length c) ∧ wr.frozen? ⟨g, k, none⟩ = false ∧ g < wr.heap.size := by
  have hkl : k < ls'.length := by rw [h.len]; omega
  obtain ⟨g, cap, A, c, h1, h2, h3, h4⟩ := h.rows.row (List.getElem?_eq_getElem hkl)
  rw [hv] at h1
  injection h1 with h1 _ _
  exact ⟨_, g, A, c, List.getElem?_eq_getElem hkl, h1, h2, h3, h4, (ownsRow_lt h.rows.own (by rw [hv, h1]; rfl)).2⟩
theorem only_put {w : World} {S : Nat → Prop} {p : Addr} (hp : S p.block) (u : Value) : Only S w (w.setCell p u) := (Only.refl S w).put (.inl hp) u
/-- a byte of a row set -/
theorem TR.byte {w wr : World} {B n c i k g : Nat} {v : Value} {ls ls' : List LRow} {r : LRow} (h : TR w B v ls ls' wr) (hk : ls'[k]? = some r) (hv : r.val = .slice (some ⟨g, 0, none⟩) n c) (hn : r.bs.length = n) (hi : i < n) (x : UInt8) :
    TR w B v ls (ls'.set k ⟨r.val, r.bs.set i x⟩) (wr.setCell ⟨g, i, none⟩ (byteV x)) := by
  have hg : r.val.ownBlock = some g := by rw [hv]; rfl
  have ho : Only (fun b => v.ownBlock = some b ∨ r.val.ownBlock = some b) wr (wr.setCell ⟨g, i, none⟩ (byteV x)) := only_put (.inr hg) _
  have hrow := h.rows.vals r (List.mem_of_getElem? hk)
  refine h.set hk ho ?_ ?_ (fun b hb => .inl hb)
  · have e : (ls'.set k ⟨r.val, r.bs.set i x⟩).flatMap LRow.cells = ls'.flatMap LRow.cells := by
      rw [flat_set, flat_vals]
      refine List.ext_getElem? fun j => ?_
      rw [List.getElem?_set]
      split
      · rename_i e
        subst e
        rw [List.getElem?_map, hk]
        simp [(List.getElem?_eq_some_iff.1 hk).1]
      · rfl
    rw [e]
    exact ownsRow_only h.rows.own (only_put (S := fun b => r.val.ownBlock = some b) hg _) (fun b hb e => h.rows.apart r (List.mem_of_getElem? hk) b hb e)
  · have hrow' : wr.ownsRow B 5 1 (.slice (some ⟨g, 0, none⟩) n c) n (r.bs.map byteV) := by rw [← hv, ← hn]; exact hrow
    have := (own_put hrow' hi (byteV x)).2.2.2
    show World.ownsRow _ B 5 1 r.val (r.bs.set i x).length ((r.bs.set i x).map byteV)
    rw [List.length_set, hn, List.map_set, hv]
    exact this
/-- a byte more behind a row -/
theorem TR.more {w wr wm w3 w4 : World} {B k g N c0 : Nat} {v v' : Value} {ls ls' : List LRow} {r : LRow} (h : TR w B v ls ls' wr) (hk : ls'[k]? = some r) (hv : v = .slice (some ⟨g, 0, none⟩) N c0) (hN : ls.length = N) (x : UInt8) (hm : Only NoneOf wr wm) (hrow : RowB w3 B v' (r.bs ++ [x]))
    (ho : Only (fun b => r.val.ownBlock = some b) wm w3) (hat : v'.ownBlock = r.val.ownBlock ∨ v'.ownBlock = some wm.heap.size) (h4 : w4 = w3.setCell ⟨g, k, none⟩ v') :
    TR w B v ls (ls'.set k ⟨v', r.bs ++ [x]⟩) w4 := by
  subst h4
  have hg : v.ownBlock = some g := by rw [hv]; rfl
  have hsz := hm.size
  have hkl := (List.getElem?_eq_some_iff.1 hk).1
  have ho' : Only (fun b => v.ownBlock = some b ∨ r.val.ownBlock = some b) wr (w3.setCell ⟨g, k, none⟩ v') := ((hm.mono (fun _ _ h => h.elim)).step ho (fun b _ hb => .inr hb)).put (.inl (.inl hg)) _
  have hgl := ownsRow_lt h.rows.own hg
  have hat' : ∀ b, v'.ownBlock = some b → r.val.ownBlock = some b ∨ wr.heap.size ≤ b := fun b hb => by
    rcases hat with e | e
    · exact .inl (e ▸ hb)
    · rw [e] at hb
      injection hb with hb
      exact .inr (by omega)
  refine h.set hk ho' ?_ ?_ hat'
  · have h1 := ownsRow_only (ownsRow_only h.rows.own hm (fun _ _ h => h)) ho (fun b hb e => h.rows.apart r (List.mem_of_getElem? hk) b hb e)
    have hl : ls'.length = N := by rw [h.len]; exact hN
    rw [hl, hv] at h1
    have := (own_put h1 (i := k) (by omega) v').2.2.2
    rw [flat_set, hl, hv]
    exact this
  · refine ownsRow_only hrow (only_put (S := fun b => b = g) rfl _) (fun b hb e => ?_)
    subst e
    rcases hat' b hb with e | e
    · exact h.rows.apart r (List.mem_of_getElem? hk) b hg e
    · omega

set_option maxRecDepth 100000 in
set_option maxHeartbeats 4000000 in
theorem told_aux (w : World) (B N c0 : Nat) (A0 : Option Addr) (v : Value) (hv : v = .slice A0 N c0) (ls : List LRow) (hN : ls.length = N) (bs : List UInt8) (h : LRows w B v ls) (hall : ∀ r ∈ ls, r.bs = bs) (Av : Option Addr) (n cv : Nat) (hA : BytesAt w Av bs) (hn : bs.length = n) (hl : n ≤ 1000000000) (hlen : N ≤ 5000000000000) (hB : B ≤ w.heap.size) :
    Calls Try.prog 39 #[.slice A0 N c0, .slice Av n cv] w fun e w' => e = .returned (.bool true) ∧ ∃ ls', TR w B v ls ls' w' := by
  have HT0 := Lib.hid (TR.start h)
  have HALL := Lib.hid hall
  have HA := Lib.hid hA
  have HBN := Lib.hid hn
  have HV := Lib.hid hv
  have HN := Lib.hid hN
  obtain ⟨i0, hi, hz0, hz1, hz3⟩ := info_parts info5
  clear h hall hA hn hv hN
  go_enter Try.func39, Try.ntmps39
  go_wp2_with fail
  go_loopw [17] (fun vi wr => ∃ i m : Nat, vi = .int .i64 i ∧ i ≤ N ∧ wr = w.drewN m) (fun vi _ => N - (intOf vi).toNat)
  case atStart => exact ⟨0, 0, rfl, by omega, rfl⟩
  case round =>
    obtain ⟨i, m, rfl, hi2, hm⟩ := hrel
    by_cases hlt : i < N
    · have htr := HT0.out m
      rw [← hm] at htr
      have HM := Lib.hid hm
      obtain ⟨r, g, A, c, hr, hA0, hrv, hc, _, _⟩ := htr.row HV.out HN.out hlt
      subst hA0
      have hrb := HALL.out r (List.mem_of_getElem? hr)
      rw [hrb, HBN.out] at hrv hc
      have hbr := htr.rows.vals r (List.mem_of_getElem? hr)
      rw [hrv, hrb] at hbr
      obtain ⟨A', c', e, hba⟩ := hbr.at
      rw [HBN.out] at e
      injection e with e1 _ e2
      subst e1; subst e2
      have HEQ := Lib.hid (equal_is wr A Av n n c cv bs bs HBN.out HBN.out hba (HA.out.keep (by rw [hm]; exact (Only.refl _ _).drewN _)) (by omega))
      rw [decide_eq_true rfl] at HEQ
      clear htr hr hrv hrb hbr hba hm
      go_wp2_with fail
      refine HEQ.out.mono ?_; rintro e w4 ⟨rfl, m4, rfl⟩
      go_wp2_with fail
      exact ⟨⟨i + 1, m + m4, by rw [show ((i + 1 : Nat) : Int) = (i : Int) + 1 by omega], by omega, by rw [HM.out, World.drewN_drewN]⟩, by simp [intOf]; omega⟩
    · obtain rfl : i = N := by omega
      have HT1 := Lib.hid (show TR w B v ls ls wr by rw [hm]; exact HT0.out m)
      clear hm HT0
      go_wp2_with fail
      go_loopw [28] (fun vi wq => ∃ k : Nat, vi = .int .i64 k ∧ k ≤ i ∧ ∃ lq, TR w B v ls lq wq ∧ Ph2 n lq k 0) (fun vi _ => i - (intOf vi).toNat)
      case atStart => exact ⟨0, rfl, by omega, ls, HT1.out, Ph2.start HBN.out HALL.out⟩
      case round =>
        obtain ⟨k, rfl, hk2, lq, htr, hp⟩ := hrel
        by_cases hltk : k < i
        · obtain ⟨r, g, A, c, hr, hA0, hrv, hc, _, _⟩ := htr.row HV.out HN.out hltk
          subst hA0
          rw [(hp k r hr).1] at hrv hc
          have HTR := Lib.hid htr
          have HP := Lib.hid hp
          have HR := Lib.hid hr
          have HRV := Lib.hid hrv
          clear htr hp hr hrv
          go_wp2_with fail
          go_loopw [35] (fun vi wp => ∃ q : Nat, vi = .int .i64 q ∧ q ≤ n ∧ ∃ lp rp, TR w B v ls lp wp ∧ Ph2 n lp k q ∧ lp[k]? = some rp ∧ rp.val = .slice A n c) (fun vi _ => n - (intOf vi).toNat)
          case atStart => exact ⟨0, rfl, by omega, lq, r, HTR.out, HP.out, HR.out, HRV.out⟩
          case round =>
            obtain ⟨q, rfl, hq2, lp, rp, htp, hpp, hrp, hvp⟩ := hrel
            by_cases hltq : q < n
            · have hown := htp.rows.vals rp (List.mem_of_getElem? hrp)
              have hbn := (hpp k rp hrp).1
              have hown' : World.ownsRow wr B 5 1 rp.val n (rp.bs.map byteV) := by rw [← hbn]; exact hown
              rw [hvp] at hown'
              obtain ⟨ga, ca, e, _, _⟩ := own_some hown' (by omega)
              injection e with e1 _ e2
              subst e1; subst e2
              obtain ⟨⟨x, hx, hcx⟩, hfx, _, _⟩ := own_put hown' hltq (.bool true)
              have HNX := Lib.hid (htp.byte hrp hvp hbn hltq (bt k))
              have HPX := Lib.hid (hpp.set hrp hltq)
              have HRX := Lib.hid (show (lp.set k ⟨rp.val, rp.bs.set q (bt k)⟩)[k]? = some ⟨rp.val, rp.bs.set q (bt k)⟩ from List.getElem?_set_self (List.getElem?_eq_some_iff.1 hrp).1)
              have HVX := Lib.hid hvp
              rw [bt_val] at HNX
              clear htp hpp hrp hvp hown hown' hx
              go_wp2_with fail
              exact ⟨⟨q + 1, by rw [show ((q + 1 : Nat) : Int) = (q : Int) + 1 by omega], by omega, _, _, HNX.out, HPX.out, HRX.out, HVX.out⟩, by simp [intOf]; omega⟩
            · obtain rfl : q = n := by omega
              have HTP := Lib.hid htp
              have HPP := Lib.hid hpp.next
              clear htp hpp hrp hvp
              go_wp2_with fail
              exact ⟨⟨k + 1, by rw [show ((k + 1 : Nat) : Int) = (k : Int) + 1 by omega], by omega, lp, HTP.out, HPP.out⟩, by simp [intOf]; omega⟩
        · obtain rfl : k = i := by omega
          have HTR := Lib.hid htr
          have HP := Lib.hid (show Ph3 n lq 0 0 from Ph3.start (by rw [htr.len, HN.out]; exact hp))
          clear htr hp HT1
          go_wp2_with fail
          go_loopw [47] (fun vi wq => ∃ j : Nat, vi = .int .i64 j ∧ j ≤ k ∧ ∃ lq, TR w B v ls lq wq ∧ Ph3 n lq j 0) (fun vi _ => k - (intOf vi).toNat)
          case atStart => exact ⟨0, rfl, by omega, lq, HTR.out, HP.out⟩
          case round =>
            clear HTR HP
            obtain ⟨j, rfl, hj2, lq, htr, hp⟩ := hrel
            by_cases hltj : j < k
            · have HTR := Lib.hid htr
              have HP := Lib.hid hp
              clear htr hp
              go_wp2_with fail
              go_loopw [50] (fun vi wp => ∃ q : Nat, vi = .int .i64 q ∧ q ≤ 70 ∧ ∃ lp, TR w B v ls lp wp ∧ Ph3 n lp j q) (fun vi _ => 70 - (intOf vi).toNat)
              case atStart => exact ⟨0, rfl, by omega, lq, HTR.out, HP.out⟩
              case round =>
                obtain ⟨q, rfl, hq2, lp, htp, hpp⟩ := hrel
                by_cases hltq : q < 70
                · obtain ⟨r, g, A, c, hr, hA0, hrv, hc, hf, hg⟩ := htp.row HV.out HN.out hltj
                  subst hA0
                  have hrb := (hpp j r hr).2.1 rfl
                  have hrn : r.bs.length = n + q := by rw [hrb]; simp
                  have hown := htp.rows.vals r (List.mem_of_getElem? hr)
                  have hown' : World.ownsRow wr B 5 1 r.val (n + q) (r.bs.map byteV) := by rw [← hrn]; exact hown
                  rw [hrn] at hrv hc
                  rw [hrv] at hown'
                  have hszp := htp.only.size
                  have HO := Lib.hid ((Only.refl NoneOf wr).alloc (.cells #[.int .u8 (((j : Int) + 128) % 256)] 5))
                  have HROW := Lib.hid (ownsRow_only hown' HO.out (fun _ _ h => h))
                  have HNW := Lib.hid (Blk.new wr 5 #[.int .u8 (((j : Int) + 128) % 256)])
                  have HSZ := Lib.hid hszp
                  have HFA := Lib.hid (fun (w3 : World) (ho3 : Only (fun b => (Value.slice A (n + q) c).ownBlock = some b) (wr.alloc (.cells #[.int .u8 (((j : Int) + 128) % 256)] 5)) w3) => (show w3.cell? ⟨g, j, none⟩ = some (.slice A (n + q) c) ∧ w3.frozen? ⟨g, j, none⟩ = false from by
                    have hne : ¬ (Value.slice A (n + q) c).ownBlock = some g := by
                      rw [← hrv]
                      exact htp.rows.apart r (List.mem_of_getElem? hr) g (by rw [HV.out]; rfl)
                    have hgl : (⟨g, j, none⟩ : Addr).block < (wr.alloc (.cells #[.int .u8 (((j : Int) + 128) % 256)] 5)).heap.size := Nat.lt_of_lt_of_le hg HO.out.size
                    exact ⟨((ho3.cell hgl hne).trans (HO.out.cell (p := ⟨g, j, none⟩) hg (fun h => h))).trans hc, ((ho3.frozen hgl hne).trans (HO.out.frozen (p := ⟨g, j, none⟩) hg (fun h => h))).trans hf⟩))
                  have HTP := Lib.hid htp
                  have HPX := Lib.hid (fun v => hpp.set hr v)
                  have HR := Lib.hid hr
                  have HRV := Lib.hid hrv
                  have HRN := Lib.hid hrn
                  have hB2 : B ≤ wr.heap.size := by omega
                  clear htp hpp hr hrv hrb hrn hown hown' hszp
                  go_wp2_with (at_builtin; refine wpList_append_any rfl (.tmp 57) (.tmp 61) 25 rfl B 5 i0 _ 1 1 Try.underlying25 hi hz0 hz1 hz3 rfl (by decide) (.slice A (n + q) c) (n + q) (r.bs.map byteV) rfl HROW.out (some ⟨wr.heap.size, 0, none⟩) 1 1 [.int .u8 (((j : Int) + 128) % 256)] rfl rfl (fun j' u hj => ⟨wr.heap.size, 0, rfl, by rw [Nat.zero_add, HNW.out.cell]; simpa using hj⟩) (fun u hu => by simp at hu; subst hu; rfl) (by unfold maxLen; omega) (by omega) (by simp; omega) ?_; intro v' w5 hown ho5 hat; obtain ⟨Aq', cq', rfl⟩ := ownsRow_slice hown; obtain ⟨hc5, hf5⟩ := HFA.out w5 ho5; have HOWN5 := Lib.hid hown; have HO5 := Lib.hid ho5; have HAT5 := Lib.hid hat; clear hown ho5 hat)
                  have HRB := Lib.hid (show RowB w5 B (.slice Aq' (n + q + 1) cq') (r.bs ++ [bt (j + 128)]) from by
                    show World.ownsRow w5 B 5 1 _ (r.bs ++ [bt (j + 128)]).length ((r.bs ++ [bt (j + 128)]).map byteV)
                    rw [List.length_append, HRN.out, List.map_append, List.map_cons, List.map_nil, bt_val, show ((j + 128 : Nat) : Int) = (j : Int) + 128 by omega]
                    exact HOWN5.out)
                  exact ⟨⟨q + 1, by rw [show ((q + 1 : Nat) : Int) = (q : Int) + 1 by omega], by omega, _, TR.more HTP.out HR.out HV.out HN.out (bt (j + 128)) HO.out HRB.out (by rw [HRV.out]; exact HO5.out) (by rw [HRV.out]; exact HAT5.out) rfl, HPX.out _⟩, by simp [intOf]; omega⟩
                · obtain rfl : q = 70 := by omega
                  have HTP := Lib.hid htp
                  have HPP := Lib.hid hpp.next
                  clear htp hpp
                  go_wp2_with fail
                  exact ⟨⟨j + 1, by rw [show ((j + 1 : Nat) : Int) = (j : Int) + 1 by omega], by omega, lp, HTP.out, HPP.out⟩, by simp [intOf]; omega⟩
            · obtain rfl : j = k := by omega
              have HP := Lib.hid (show Ph3 n lq lq.length 0 by rw [htr.len, HN.out]; exact hp)
              have HTR := Lib.hid htr
              clear htr hp
              go_wp2_with fail
              go_loopw [68] (fun vi wq => ∃ p : Nat, vi = .int .i64 p ∧ p ≤ j ∧ wq = wr) (fun vi _ => j - (intOf vi).toNat)
              case atStart => exact ⟨0, rfl, by omega, rfl⟩
              case round =>
                obtain ⟨p, rfl, hp2, hw⟩ := hrel
                subst hw
                by_cases hltp : p < j
                · obtain ⟨r, g, A, c, hr, hA0, hrv, hc, _, _⟩ := HTR.out.row HV.out HN.out hltp
                  subst hA0
                  obtain ⟨hbl, hby⟩ := HP.out.byte hr
                  have hat := HTR.out.rows.vals r (List.mem_of_getElem? hr)
                  rw [hrv] at hat
                  obtain ⟨A', c', e, hba⟩ := hat.at
                  injection e with e1 _ e2
                  subst e1; subst e2
                  rw [hbl] at hc
                  have HBY := Lib.hid hby
                  have HBA := Lib.hid hba
                  have HBL := Lib.hid hbl
                  clear hr hrv hbl hby hat hba
                  go_wp2_with fail
                  go_loopw [75] (fun vi wp => ∃ q : Nat, vi = .int .i64 q ∧ q ≤ n + 70 ∧ wp = wr) (fun vi _ => n + 70 - (intOf vi).toNat)
                  case atStart => exact ⟨0, rfl, by omega, rfl⟩
                  case round =>
                    obtain ⟨q, rfl, hq2, hw⟩ := hrel
                    subst hw
                    by_cases hltq : q < n + 70
                    · have hx : r.bs[q]? = some (r.bs[q]'(by rw [HBL.out]; exact hltq)) := List.getElem?_eq_getElem _
                      generalize r.bs[q]'(by rw [HBL.out]; exact hltq) = x at hx
                      obtain ⟨ga, oa, hA, _, hcx⟩ := HBA.out q x hx
                      obtain ⟨b1, b2⟩ := HBY.out q x hx
                      subst hA
                      by_cases hqn : q < n
                      · rw [b1 hqn, bt_val] at hcx
                        clear hx b1 b2
                        go_wp2_with fail
                        exact ⟨⟨q + 1, by rw [show ((q + 1 : Nat) : Int) = (q : Int) + 1 by omega], by omega, trivial⟩, by simp [intOf]; omega⟩
                      · rw [b2 (by omega), bt_val, show ((p + 128 : Nat) : Int) = (p : Int) + 128 by omega] at hcx
                        clear hx b1 b2
                        go_wp2_with fail
                        exact ⟨⟨q + 1, by rw [show ((q + 1 : Nat) : Int) = (q : Int) + 1 by omega], by omega, trivial⟩, by simp [intOf]; omega⟩
                    · obtain rfl : q = n + 70 := by omega
                      go_wp2_with fail
                      exact ⟨⟨p + 1, by rw [show ((p + 1 : Nat) : Int) = (p : Int) + 1 by omega], by omega, trivial⟩, by simp [intOf]; omega⟩
                · obtain rfl : p = j := by omega
                  go_wp2_with fail
                  go_ret
                  exact ⟨rfl, _, HTR.out⟩

theorem told_is (w : World) (B : Nat) (v : Value) (ls : List LRow) (bs : List UInt8) (h : LRows w B v ls) (hall : ∀ r ∈ ls, r.bs = bs) (Av : Option Addr) (n cv : Nat) (hA : BytesAt w Av bs) (hn : bs.length = n) (hl : n ≤ 1000000000) (hlen : ls.length ≤ 5000000000000) (hB : B ≤ w.heap.size) :
    Calls Try.prog 39 #[v, .slice Av n cv] w fun e w' => e = .returned (.bool true) ∧ ∃ ls', TR w B v ls ls' w' := by
  obtain ⟨A0, c0, hv⟩ := ownsRow_slice h.own
  have := told_aux w B ls.length c0 A0 v hv ls rfl bs h hall Av n cv hA hn hl hlen hB
  rw [← hv] at this
  exact this

end Go.Proofs.Ytnonnencdhogiaa

/-
  Layer 14's law StoreLoads: both Loads.
-/
namespace Go.Proofs.Ytnonnencdhogiaa
open Go.RowKit

/-- what a Load takes, and its error -/
def loadS (xs : List KV) : List KV × Int := xs.foldl (fun p x => if p.2 ≠ 0 then p else if codeR p.1 x.1 x.2 = 0 then (p.1 ++ [x], 0) else (p.1, codeR p.1 x.1 x.2)) ([], 0)
theorem loadS_take {xs : List KV} {i : Nat} {x : KV} (h : xs[i]? = some x) (hp : loadS (xs.take i) = (xs.take i, 0)) : loadS (xs.take (i + 1)) = if codeR (xs.take i) x.1 x.2 = 0 then (xs.take (i + 1), 0) else (xs.take i, codeR (xs.take i) x.1 x.2) := by
  have e : xs.take (i + 1) = xs.take i ++ [x] := by rw [List.take_add_one, h]; rfl
  rw [e]
  unfold loadS at hp ⊢
  rw [List.foldl_append, hp]
  simp
theorem load_fold : ∀ (l : List KV) (p : List KV × Int), p.2 ≠ 0 → l.foldl (fun p x => if p.2 ≠ 0 then p else if codeR p.1 x.1 x.2 = 0 then (p.1 ++ [x], 0) else (p.1, codeR p.1 x.1 x.2)) p = p
  | [], _, _ => rfl
  | x :: l, p, h => by
    rw [List.foldl_cons, if_pos h]
    exact load_fold l p h
theorem loadS_stop {xs : List KV} {i : Nat} (h : (loadS (xs.take i)).2 ≠ 0) : loadS xs = loadS (xs.take i) := by
  have e : xs = xs.take i ++ xs.drop i := (List.take_append_drop i xs).symm
  have h2 : loadS xs = loadS (xs.take i ++ xs.drop i) := by rw [← e]
  rw [h2]
  unfold loadS at h ⊢
  rw [List.foldl_append]
  exact load_fold _ _ h

def LoadPost (xs : List KV) (w : World) (e : Ending) (w' : World) : Prop :=
  Only NoneOf w w' ∧ (((loadS xs).2 ≠ 0 ∧ e = .returned (.tuple #[.pointer none, .int .i64 (loadS xs).2])) ∨
    ((loadS xs).2 = 0 ∧ ∃ s T, e = .returned (.tuple #[.pointer (some ⟨s, 0, none⟩), .int .i64 0]) ∧ StoR w' s T NoneOf xs xs.length ∧ ∀ k, T k → w.heap.size ≤ k))

set_option maxRecDepth 100000 in
set_option maxHeartbeats 4000000 in
theorem load_any (w : World) (A : Option Addr) (cap : Nat) (xs : List KV) (hA : VersAt w A xs) (hfew : xs.length ≤ 2513169434843) :
    Calls Try.prog 36 #[.slice A xs.length cap] w (LoadPost xs w) := by
  have HA := Lib.hid hA
  obtain ⟨n, hn⟩ : ∃ n, xs.length = n := ⟨_, rfl⟩
  have HN := Lib.hid hn
  have HNW := Lib.hid (newR w NoneOf (fun _ h => h.elim))
  rw [hn] at hfew ⊢
  clear hA hn
  go_enter Try.func36, Try.ntmps36
  go_wp2_with fail
  refine HNW.out.mono ?_; rintro e w1 ⟨rfl, T1, h1, ho1, ht1⟩
  have H1 := Lib.hid h1
  have HO1 := Lib.hid ho1
  have HT1 := Lib.hid ht1
  clear h1 ho1 ht1
  go_wp2_with fail
  go_loopw [11] (fun v wr => ∃ (i : Nat) (T : Nat → Prop), v = .int .i64 i ∧ i ≤ n ∧ StoR wr (w.heap.size + 1) T NoneOf (xs.take i) i ∧ Only NoneOf w wr ∧ (∀ k, T k → w.heap.size ≤ k) ∧ loadS (xs.take i) = (xs.take i, 0)) (fun v _ => n - (intOf v).toNat)
  case atStart => exact ⟨0, T1, rfl, by omega, H1.out, HO1.out, HT1.out, rfl⟩
  case round =>
    obtain ⟨i, T, rfl, hi, h, hO, hT, hld⟩ := hrel
    have HO := Lib.hid hO
    have HS := Lib.hid h
    have HT := Lib.hid hT
    have HLD := Lib.hid hld
    clear hO h hT hld
    by_cases hlt : i < n
    · have hx : xs[i]? = some (xs[i]'(by rw [HN.out]; exact hlt)) := List.getElem?_eq_getElem _
      generalize xs[i]'(by rw [HN.out]; exact hlt) = x at hx
      obtain ⟨g, off, Ab, cb, rfl, hg, d0, d1, d2, d3, hby, hks⟩ := (HA.out.keep HO.out) i x hx
      have HTS := Lib.hid (loadS_take hx HLD.out)
      have HTK := Lib.hid (show xs.take (i + 1) = xs.take i ++ [x] by rw [List.take_add_one, hx]; rfl)
      obtain ⟨key, st, bs, dead⟩ := x
      simp only at d0 d1 d2 d3 hby hks
      obtain ⟨nn, hnn⟩ : ∃ nn, bs.length = nn := ⟨_, rfl⟩
      rw [hnn] at d2
      have HAP := applyR _ _ _ _ _ _ (HS.out.keep ((Only.refl NoneOf wr).alloc (.cells (verC key st (.slice Ab nn cb) dead) 27))) (by unfold NMAX; omega) key st Ab nn cb dead bs hnn (hby.keep ((Only.refl _ _).alloc _))
      obtain ⟨cd, hcd⟩ : ∃ cd, codeR (xs.take i) key ⟨st, bs, dead⟩ = cd := ⟨_, rfl⟩
      rw [hcd] at HAP
      have hts := HTS.out
      simp only [hcd] at hts
      have HTS2 := Lib.hid hts
      have HCD := Lib.hid hcd
      replace HAP := Lib.hid HAP
      have HOA := Lib.hid (HO.out.alloc (.cells (verC key st (.slice Ab nn cb) dead) 27))
      have hwr := HO.out.size
      clear hby hx hts hcd HTS
      go_wp2_with fail
      refine HAP.out.mono ?_; rintro e w2 ⟨rfl, T2, h2, ho2, ht2⟩
      have H2 := Lib.hid h2
      have HO2 := Lib.hid (HOA.out.step ho2 (fun k hk hh => by have := HT.out k hh; omega))
      have HT2 := Lib.hid (show ∀ k, T2 k → w.heap.size ≤ k from fun k hk => by
        rcases ht2 k hk with h | h
        · exact HT.out k h
        · simp at h; omega)
      clear h2 ho2 ht2
      by_cases hz : cd = 0
      · have HH2 := Lib.hid (show StoR w2 (w.heap.size + 1) T2 NoneOf (xs.take (i + 1)) (i + 1) by
          have := H2.out
          unfold afterR at this
          rw [HCD.out, if_pos hz, ← HTK.out] at this
          exact this)
        have HTS3 := Lib.hid (show loadS (xs.take (i + 1)) = (xs.take (i + 1), 0) by rw [HTS2.out, if_pos hz])
        subst hz
        go_wp2_with fail
        exact ⟨⟨i + 1, T2, by rw [show ((i + 1 : Nat) : Int) = (i : Int) + 1 by omega], by omega, HH2.out, HO2.out, HT2.out, HTS3.out⟩, by simp [intOf]; omega⟩
      · have hzb : (cd == 0) = false := beq_eq_false_iff_ne.2 hz
        have HTS3 := Lib.hid (show loadS xs = (xs.take i, cd) by
          have e2 : loadS (xs.take (i + 1)) = (xs.take i, cd) := by rw [HTS2.out, if_neg hz]
          rw [loadS_stop (i := i + 1) (by rw [e2]; exact hz), e2])
        have HZ := Lib.hid hz
        clear hz
        go_wp2_with fail
        go_ret2
        exact ⟨HO2.out, .inl ⟨by rw [HTS3.out]; exact HZ.out, by rw [HTS3.out]; rfl⟩⟩
    · obtain rfl : i = n := by omega
      have e1 : xs.take i = xs := by rw [← HN.out, List.take_length]
      have H3 := HS.out
      rw [e1] at H3
      have HS3 := Lib.hid H3
      have HL3 := Lib.hid (show (loadS xs).2 = 0 by have := HLD.out; rw [e1] at this; rw [this])
      clear H3 e1
      go_wp2_with fail
      go_ret2
      exact ⟨HO.out, .inr ⟨HL3.out, _, T, rfl, by rw [HN.out]; exact HS3.out, HT.out⟩⟩

def LoadRef (xs : List KV) (w : World) (e : Ending) (w' : World) : Prop :=
  Only NoneOf w w' ∧ (((loadS xs).2 ≠ 0 ∧ e = .returned (.tuple #[.slice none 0 0, .int .i64 (loadS xs).2])) ∨
    ((loadS xs).2 = 0 ∧ ∃ A cap rs, e = .returned (.tuple #[.slice A rs.length cap, .int .i64 0]) ∧ RGood rs xs ∧ RAt w' A rs))

set_option maxRecDepth 100000 in
set_option maxHeartbeats 4000000 in
theorem Load_ref (w : World) (A : Option Addr) (cap : Nat) (xs : List KV) (hA : VersAt w A xs) (hfew : xs.length ≤ 2513169434843) :
    Calls Try.prog 40 #[.slice A xs.length cap] w (LoadRef xs w) := by
  have HA := Lib.hid hA
  have HO0 := Lib.hid ((Only.refl NoneOf w).alloc (.cells #[] 27))
  obtain ⟨n, hn⟩ : ∃ n, xs.length = n := ⟨_, rfl⟩
  have HN := Lib.hid hn
  rw [hn] at hfew ⊢
  clear hA hn
  go_enter Try.func40, Try.ntmps40
  go_wp2_with fail
  go_loopw [4, 12] (fun v vi wr => ∃ (i : Nat) (A' : Option Addr) (cap' : Nat) (rs : List VRow), vi = .int .i64 i ∧ i ≤ n ∧ v = .slice A' rs.length cap' ∧ RGood rs (xs.take i) ∧ RAt wr A' rs ∧ Only NoneOf w wr ∧ loadS (xs.take i) = (xs.take i, 0)) (fun _ vi _ => n - (intOf vi).toNat)
  case atStart => exact ⟨0, some ⟨w.heap.size, 0, none⟩, 0, [], rfl, by omega, rfl, ⟨rfl, GoodR.nil⟩, fun i r hr => by simp at hr, HO0.out, rfl⟩
  case round =>
    obtain ⟨i, A1, cap1, rs, rfl, hi, rfl, hg, hra, hO, hld⟩ := hrel
    have HO := Lib.hid hO
    have HG := Lib.hid hg
    have HRA := Lib.hid hra
    have HLD := Lib.hid hld
    have hrn : rs.length = i := by rw [hg.len, List.length_take, HN.out]; omega
    have HRN := Lib.hid hrn
    clear hO hg hra hld
    by_cases hlt : i < n
    · have hx : xs[i]? = some (xs[i]'(by rw [HN.out]; exact hlt)) := List.getElem?_eq_getElem _
      generalize xs[i]'(by rw [HN.out]; exact hlt) = x at hx
      obtain ⟨g, off, Ab, cb, rfl, hg, d0, d1, d2, d3, hby, hks⟩ := (HA.out.keep HO.out) i x hx
      have HTS := Lib.hid (loadS_take hx HLD.out)
      have HTK := Lib.hid (show xs.take (i + 1) = xs.take i ++ [x] by rw [List.take_add_one, hx]; rfl)
      obtain ⟨key, st, bs, dead⟩ := x
      simp only at d0 d1 d2 d3 hby hks
      obtain ⟨nn, hnn⟩ : ∃ nn, bs.length = nn := ⟨_, rfl⟩
      rw [hnn] at d2
      have HAP := Apply_ref (wr.alloc (.cells (verC key st (.slice Ab nn cb) dead) 27)) A1 cap1 rs (xs.take i) HG.out (HRA.out.keep ((Only.refl _ _).alloc _)) (by omega) key st bs dead Ab nn cb hnn (hby.keep ((Only.refl _ _).alloc _))
      have HAF := Lib.hid (HG.out.good.after key ⟨st, bs, dead⟩)
      obtain ⟨cd, hcd⟩ : ∃ cd, codeR (xs.take i) key ⟨st, bs, dead⟩ = cd := ⟨_, rfl⟩
      unfold ApRef at HAP
      rw [hcd, hrn] at HAP
      have hts := HTS.out
      simp only [hcd] at hts
      have HTS2 := Lib.hid hts
      have HCD := Lib.hid hcd
      have HKS := Lib.hid hks
      replace HAP := Lib.hid HAP
      have HOA := Lib.hid (HO.out.alloc (.cells (verC key st (.slice Ab nn cb) dead) 27))
      have hwr := HO.out.size
      rw [hrn]
      clear hby hx hts hcd HTS hrn hks
      go_wp2_with fail
      refine HAP.out.mono ?_; rintro e w2 ⟨ho2, hcase⟩
      have HO2 := Lib.hid (HOA.out.trans ho2)
      have HRA2 := Lib.hid ((HRA.out.keep ((Only.refl NoneOf wr).alloc (.cells (verC key st (.slice Ab nn cb) dead) 27))).keep ho2)
      clear ho2
      rcases hcase with ⟨hz, rfl⟩ | ⟨hz, vq, r, rfl, hrp, hrb, hown⟩
      · have hzb : (cd == 0) = false := beq_eq_false_iff_ne.2 hz
        have HTS3 := Lib.hid (show loadS xs = (xs.take i, cd) by
          have e2 : loadS (xs.take (i + 1)) = (xs.take i, cd) := by rw [HTS2.out, if_neg hz]
          rw [loadS_stop (i := i + 1) (by rw [e2]; exact hz), e2])
        have HZ := Lib.hid hz
        clear hz
        go_wp2_with fail
        go_ret2
        exact ⟨HO2.out, .inl ⟨by rw [HTS3.out]; exact HZ.out, by rw [HTS3.out]; rfl⟩⟩
      · subst hz
        have HTS3 := Lib.hid (show loadS (xs.take (i + 1)) = (xs.take (i + 1), 0) by rw [HTS2.out, if_pos rfl])
        have hown' : w2.ownsRow (wr.alloc (.cells (verC key st (.slice Ab nn cb) dead) 27)).heap.size 27 4 vq (rs ++ [r]).length (vflat (rs ++ [r])) := by rw [List.length_append, HRN.out]; exact hown
        obtain ⟨A2, c2, hv2, hra2⟩ := rat_own hown' (fun q hq => by
          rcases List.mem_append.1 hq with hq | hq
          · exact rat_val HRA2.out hq
          · obtain rfl : q = r := by simpa using hq
            have e1 : q.key = key := congrArg (·.1) hrp
            have e2 : q.bs = bs := congrArg (fun p : KV => p.2.bs) hrp
            obtain ⟨Ac, cc, hv, hb⟩ := hrb.at
            exact ⟨Ac, cc, by rw [hv, e2], by rw [e2]; exact hb, by rw [e1]; exact HKS.out⟩)
        subst hv2
        have HR2 := Lib.hid hra2
        have HG2 := Lib.hid (show RGood (rs ++ [r]) (xs.take (i + 1)) by
          refine ⟨by rw [List.map_append, HG.out.eq, HTK.out]; simp [hrp], ?_⟩
          have := HAF.out
          unfold afterR at this
          rw [HCD.out, if_pos rfl] at this
          rw [HTK.out]
          exact this)
        have HL2 := Lib.hid (show (rs ++ [r]).length = i + 1 by rw [List.length_append, HRN.out]; rfl)
        rw [HL2.out]
        clear hown hown' hra2 hrp hrb
        go_wp2_with fail
        exact ⟨⟨i + 1, A2, c2, rs ++ [r], by rw [show ((i + 1 : Nat) : Int) = (i : Int) + 1 by omega], by omega, by rw [HL2.out], HG2.out, HR2.out, HO2.out, HTS3.out⟩, by simp [intOf]; omega⟩
    · obtain rfl : i = n := by omega
      have e1 : xs.take i = xs := by rw [← HN.out, List.take_length]
      have H3 := HG.out
      rw [e1] at H3
      have HG3 := Lib.hid H3
      have HL3 := Lib.hid (show (loadS xs).2 = 0 by have := HLD.out; rw [e1] at this; rw [this])
      clear H3 e1 hrn
      go_wp2_with fail
      go_ret2
      exact ⟨HO.out, .inr ⟨HL3.out, A1, cap1, rs, rfl, HG3.out, HRA.out⟩⟩

end Go.Proofs.Ytnonnencdhogiaa

/-
  Layer 14's law StoreLoads walked.
-/
namespace Go.Proofs.Ytnonnencdhogiaa
open Go.RowKit

/-- in a round -/
def DoRelN (w : World) (s nv n : Nat) (v3 vi : Value) (wr : World) : Prop :=
  ∃ (i : Nat) (A : Option Addr) (cap : Nat) (rs : List VRow) (R : List KV) (T : Nat → Prop), vi = .int .i64 i ∧ i ≤ n ∧ v3 = .slice A rs.length cap ∧ RGood rs R ∧ StoR wr s T NoneOf R (nv + i) ∧ (∀ w', Only T wr w' → RAt w' A rs) ∧ Only NoneOf w wr ∧ ∀ k, T k → w.heap.size ≤ k

set_option maxRecDepth 100000 in
set_option maxHeartbeats 8000000 in
theorem loads_walk (A0 : Option Addr) (cap0 : Nat) (vs : List KV) (A : Option Addr) (cap : Nat) (xs : List Stp) (w : World) (hV : VersAt w A0 vs) (hX : StepsAt w A xs) (hfew : vs.length + xs.length ≤ 2513169434843) : Calls Try.prog 14 #[.slice A0 vs.length cap0, .slice A xs.length cap] w (Ans (.bool true) w) := by
  have HFX := fun u => Lib.hid (fixed_is u)
  have HX := Lib.hid hX
  have HLR := Lib.hid (Load_ref w A0 cap0 vs hV (by omega))
  have HLA := fun (u : World) (hu : Only NoneOf w u) => Lib.hid (load_any u A0 cap0 vs (hV.keep hu) (by omega))
  obtain ⟨n, hn⟩ : ∃ n, xs.length = n := ⟨_, rfl⟩
  have HN := Lib.hid hn
  obtain ⟨nv, hnv⟩ : ∃ nv, vs.length = nv := ⟨_, rfl⟩
  have HNV := Lib.hid hnv
  rw [hn, hnv] at hfew
  rw [hn, hnv]
  simp only [hnv] at HLR HLA
  clear hX hV hn hnv
  go_enter Try.func14, Try.ntmps14
  go_wp2_with fail
  refine HLR.out.mono ?_; rintro e w1 ⟨ho1, hc1⟩
  have HO1 := Lib.hid ho1
  have HLA1 := HLA w1 ho1
  clear ho1 HLR HLA
  rcases hc1 with ⟨hz, rfl⟩ | ⟨hz, A1, cap1, rs, rfl, hg1, hr1⟩
  · have HZ := Lib.hid hz
    obtain ⟨cd, hcd⟩ : ∃ cd, (loadS vs).2 = cd := ⟨_, rfl⟩
    have hzb : (cd == 0) = false := beq_eq_false_iff_ne.2 (by rw [← hcd]; exact hz)
    have HCD := Lib.hid hcd
    rw [hcd]
    clear hz hcd
    go_wp2_with fail
    refine HLA1.out.mono ?_; rintro e w2 ⟨ho2, hc2⟩
    have HO2 := Lib.hid (HO1.out.trans ho2)
    rcases hc2 with ⟨_, rfl⟩ | ⟨hz2, _⟩
    · rw [HCD.out]
      clear ho2 HLA1
      go_wp2_with fail
      refine (HFX w2).out.mono ?_; rintro e w3 ⟨rfl, ho3⟩
      have HO3 := Lib.hid (HO2.out.trans ho3)
      clear ho3
      go_wp2_with fail
      go_ret
      exact ⟨rfl, HO3.out⟩
    · exact absurd hz2 HZ.out
  · have HZ := Lib.hid hz
    have HG1 := Lib.hid hg1
    have HR1 := Lib.hid hr1
    obtain ⟨nr1, hnr1⟩ : ∃ nr1, rs.length = nr1 := ⟨_, rfl⟩
    have HNR1 := Lib.hid hnr1
    rw [hnr1]
    clear hz hg1 hr1 hnr1
    go_wp2_with fail
    refine HLA1.out.mono ?_; rintro e w2 ⟨ho2, hc2⟩
    rcases hc2 with ⟨hz2, _⟩ | ⟨_, s, T1, rfl, hs2, ht2⟩
    · exact absurd HZ.out hz2
    · have HO2 := Lib.hid (HO1.out.trans ho2)
      have HS2 := Lib.hid hs2
      have HT2 := Lib.hid ht2
      have HO12 := Lib.hid ho2
      clear ho2 HLA1 hs2 ht2
      go_wp2_with fail
      refine (HFX w2).out.mono ?_; rintro e w3 ⟨rfl, ho3⟩
      have hz1 := HO1.out.size
      have HR0 := Lib.hid (show DoRelN w s nv n (.slice A1 nr1 cap1) (.int .i64 0) w3 from ⟨0, A1, cap1, rs, vs, T1, rfl, by omega, by rw [HNR1.out], HG1.out, by have := HS2.out.keep ho3; rw [HNV.out] at this; exact this,
        fun w' ho => HR1.out.keep (((HO12.out.trans ho3).mono (S' := T1) fun _ _ h => h.elim).step ho (fun _ _ h => h) |>.mono fun k hk h => absurd (HT2.out k h) (by omega)), HO2.out.trans ho3, fun k hk => by have := HT2.out k hk; omega⟩)
      clear ho3 HS2 HO2 HT2 HO12 HO1 HR1 HG1
      go_wp2_with fail
      go_loopw [5, 41] (fun v3 vi wr => DoRelN w s nv n v3 vi wr) (fun _ vi _ => n - (intOf vi).toNat)
      case atStart => exact HR0.out
      case round =>
        clear HR0
        obtain ⟨i, A1, cap1, rs, R, T, rfl, hi, rfl, hg, hst, hra, hO, hTl⟩ := hrel
        have HG := Lib.hid hg
        have HS := Lib.hid hst
        have HRA := Lib.hid hra
        have HO := Lib.hid hO
        have HTL := Lib.hid hTl
        have hrn : rs.length ≤ nv + i := by rw [hg.len]; exact hst.len
        clear hg hst hra hO hTl
        by_cases hlt : i < n
        · have hx : xs[i]? = some (xs[i]'(by rw [HN.out]; exact hlt)) := List.getElem?_eq_getElem _
          generalize xs[i]'(by rw [HN.out]; exact hlt) = x at hx
          obtain ⟨g, off, Ab, cb, rfl, hg, d0, d1, d2, d3, d4, d5, hby, hks⟩ := (HX.out.keep HO.out) i x hx
          have HWA := Lib.hid ((Only.refl NoneOf wr).alloc (.cells (stepC x.kind x.key x.st (.slice Ab x.bs.length cb) x.dead x.tt) 29))
          have HWN := Lib.hid (want_is (wr.alloc (.cells (stepC x.kind x.key x.st (.slice Ab x.bs.length cb) x.dead x.tt) 29)) T A1 cap1 rs R x Ab cb (fun k hk => Nat.lt_of_lt_of_le (HS.out.lt hk) HWA.out.size) HG.out
            (fun w' ho => HRA.out w' ((HWA.out.mono fun _ _ h => h.elim).step ho (fun _ _ h => h))) (by omega) hks (hby.keep HWA.out))
          have HBY := Lib.hid hby
          have HB6 := Lib.hid (Blk.new wr 29 (stepC x.kind x.key x.st (.slice Ab x.bs.length cb) x.dead x.tt))
          obtain ⟨nr, hnr⟩ : ∃ nr, rs.length = nr := ⟨_, rfl⟩
          rw [hnr] at HWN ⊢
          clear hx hby hnr
          go_wp2_with fail
          refine HWN.out.mono ?_; rintro e wb ⟨cs, A2, cap2, rs2, rfl, hg2, hob, htl⟩
          obtain ⟨E1, n1, c1, E2, n2, c2, E3, n3, c3, hcs⟩ := (htl wb (Only.refl _ _)).1.cells
          have HG2 := Lib.hid hg2
          have HTD := Lib.hid htl
          obtain ⟨te, hte⟩ : ∃ te, (ansR R x).e = te := ⟨_, rfl⟩
          obtain ⟨tn, htn⟩ : ∃ tn, (ansR R x).n = tn := ⟨_, rfl⟩
          obtain ⟨tm, htm⟩ : ∃ tm, (ansR R x).m = tm := ⟨_, rfl⟩
          obtain ⟨ti, hti⟩ : ∃ ti, (ansR R x).is = ti := ⟨_, rfl⟩
          rw [hte, htn, htm, hti] at hcs
          subst hcs
          have HOB := Lib.hid (HWA.out.trans hob)
          have HB6b := Lib.hid (HB6.out.only hob (fun h => h))
          clear hte htn htm hti hg2 htl hob HWN
          have HTW := Lib.hid (show ∀ k, T k → k < wr.heap.size from fun k hk => HS.out.lt hk)
          have hbw := HOB.out.size
          have HG0 := Lib.hid (show DoG (wb.alloc (.cells (tellC te tn tm ti (.slice E1 n1 c1) (.slice E2 n2 c2) (.slice E3 n3 c3)) 33)) s (nv + i) T R x wr.heap.size wb.heap.size (stepC x.kind x.key x.st (.slice Ab x.bs.length cb) x.dead x.tt) (tellC te tn tm ti (.slice E1 n1 c1) (.slice E2 n2 c2) (.slice E3 n3 c3)) 0 (wb.alloc (.cells (tellC te tn tm ti (.slice E1 n1 c1) (.slice E2 n2 c2) (.slice E3 n3 c3)) 33)) from
            ⟨HS.out.keep (HOB.out.alloc _), Only.refl _ _, HB6b.out.alloc _, Blk.new _ _ _⟩)
          have HOC := Lib.hid (HOB.out.alloc (.cells (tellC te tn tm ti (.slice E1 n1 c1) (.slice E2 n2 c2) (.slice E3 n3 c3)) 33))
          have HTE := Lib.hid (fun w'' (ho : Only T (wb.alloc (.cells (tellC te tn tm ti (.slice E1 n1 c1) (.slice E2 n2 c2) (.slice E3 n3 c3)) 33)) w'') => HTD.out w'' ((((Only.refl NoneOf wb).alloc (.cells (tellC te tn tm ti (.slice E1 n1 c1) (.slice E2 n2 c2) (.slice E3 n3 c3)) 33)).mono (S' := T) fun _ _ h => h.elim).step ho (fun _ _ h => h)))
          have HFIT := Lib.hid (ansR_fit HS.out (by unfold NMAX; omega) x)
          have hb6 : ¬ T wr.heap.size := fun h => by have := HTW.out _ h; omega
          have hb7 : ¬ T wb.heap.size := fun h => by have := HTW.out _ h; omega
          have hlo : ∀ k, T k → k < wr.heap.size := HTW.out
          have hN : nv + i < NMAX := by unfold NMAX; omega
          have HBC := Lib.hid (HBY.out.keep HOC.out)
          go_upto_region 11 with (fail)
          refine wp_region_head2 6 64 [] (fun _ => none) (fun i => match i with | 2 => some 0 | _ => none) T (DoG (wb.alloc (.cells (tellC te tn tm ti (.slice E1 n1 c1) (.slice E2 n2 c2) (.slice E3 n3 c3)) 33)) s (nv + i) T R x wr.heap.size wb.heap.size (stepC x.kind x.key x.st (.slice Ab x.bs.length cb) x.dead x.tt) (tellC te tn tm ti (.slice E1 n1 c1) (.slice E2 n2 c2) (.slice E3 n3 c3))) (DoT x Ab cb s wr.heap.size R (tellC te tn tm ti (.slice E1 n1 c1) (.slice E2 n2 c2) (.slice E3 n3 c3))) rfl (by kernel_rfl) (by kernel_rfl) ?hskip ?hgv (DoT_keep x Ab cb s wr.heap.size R (tellC te tn tm ti (.slice E1 n1 c1) (.slice E2 n2 c2) (.slice E3 n3 c3)) hlo) (HG0.out.keep (Only.refl _ _).drew) ?hstep ?hend
          case hskip =>
            intro i o hi ho hw k
            have : i = 0 ∨ i = 1 ∨ i = 2 ∨ i = 3 ∨ i = 4 ∨ i = 5 := by omega
            rcases this with rfl | rfl | rfl | rfl | rfl | rfl
            · rfl
            · rfl
            · obtain rfl := Option.some.inj (ho : some _ = some o); exact absurd (show true = false from hw) (by decide)
            · rfl
            · rfl
            · rfl
          case hgv =>
            intro g hg v w h
            cases hg
          case hstep =>
            intro i o hi ho a u k hk hik hs ht
            have e10 : a.tmps.getD 10 undef = .pointer (some ⟨wr.heap.size, 0, none⟩) := hs 10 (of_decide_eq_true (by kernel_rfl))
            have e11 : a.tmps.getD 11 undef = .pointer (some ⟨wb.heap.size, 0, none⟩) := hs 11 (of_decide_eq_true (by kernel_rfl))
            have e7 : a.tmps.getD 7 undef = .pointer (some ⟨s, 0, none⟩) := hs 7 (of_decide_eq_true (by kernel_rfl))
            have : i = 0 ∨ i = 1 ∨ i = 2 ∨ i = 3 ∨ i = 4 ∨ i = 5 := by omega
            rcases this with rfl | rfl | rfl | rfl | rfl | rfl
            · obtain rfl := Option.some.inj (ho : some _ = some o)
              rw [if_pos (by decide)]
              exact left2_value (.pointer (some ⟨s, 0, none⟩)) (by simp [go_sem, e7]) rfl rfl hk
            · obtain rfl := Option.some.inj (ho : some _ = some o)
              rw [if_pos (by decide)]
              exact left2_load 29 (.tmp 10) wr.heap.size 29 _ _ rfl e10 hk.blk6 Try.underlying29 rfl info29 rfl rfl hk
            · obtain rfl := Option.some.inj (ho : some _ = some o)
              rw [if_pos (by decide)]
              have s0 : a.tmps.getD 51 undef = .pointer (some ⟨s, 0, none⟩) := ht 0 (by omega) (by kernel_rfl)
              have s0c : a.tmps.getD 51 undef = .pointer (some ⟨s, 0, none⟩) := ht 0 (by omega) (by kernel_rfl)
              have s1c : a.tmps.getD 52 undef = .agg (stepC x.kind x.key x.st (.slice Ab x.bs.length cb) x.dead x.tt) := ht 1 (by omega) (by kernel_rfl)
              obtain rfl : k = 0 := by
                rcases hik with h | h
                · cases h
                · injection h with h; exact h.symm
              refine left2_turns 17 #[.pointer (some ⟨s, 0, none⟩), .agg (stepC x.kind x.key x.st (.slice Ab x.bs.length cb) x.dead x.tt)] (by simp [go_sem, s0c, s1c]) ?_ rfl
              obtain ⟨h1, h2, h3, h4⟩ := hk
              refine (call_is u s (nv + i) T NoneOf R h1 hN x Ab cb hks (HBC.out.keep h2)).mono ?_
              rintro e w' ⟨cs2, T', rfl, hst, hs, ho, hkk⟩
              have hsz := h2.size
              have hcz := HOC.out.size
              exact ⟨_, rfl, ⟨cs2, rfl, hst.low (by omega)⟩, ⟨T', hs, (h2.mono fun _ _ h => h.elim).step ho (fun _ _ h => h), fun k hk' => (hkk k hk').imp id (fun h => by omega), h3.only ho hb6, h4.only ho hb7⟩, ho⟩
            · obtain rfl := Option.some.inj (ho : some _ = some o)
              rw [if_pos (by decide)]
              exact left2_load 33 (.tmp 11) wb.heap.size 33 _ _ rfl e11 hk.blk7 Try.underlying33 rfl info33 rfl rfl hk
            · obtain rfl := Option.some.inj (ho : some _ = some o)
              rw [if_pos (by decide)]
              obtain ⟨cs2, s2c, h2⟩ : TellV wr.heap.size (ansR R x) (a.tmps.getD 53 undef) u := ht 2 (by omega) (by kernel_rfl)
              have s3c : a.tmps.getD 54 undef = .agg (tellC te tn tm ti (.slice E1 n1 c1) (.slice E2 n2 c2) (.slice E3 n3 c3)) := ht 3 (by omega) (by kernel_rfl)
              have hal := alike_same u cs2 (tellC te tn tm ti (.slice E1 n1 c1) (.slice E2 n2 c2) (.slice E3 n3 c3)) (ansR R x) HFIT.out h2.at (HTE.out u hk.turned).1
              exact left2_calls 16 #[.agg cs2, .agg (tellC te tn tm ti (.slice E1 n1 c1) (.slice E2 n2 c2) (.slice E3 n3 c3))] (by simp [go_sem, s2c, s3c]) (hal.mono (fun e w' ⟨he, ho⟩ => ⟨_, he, rfl, ho⟩)) rfl (fun w' ho => hk.keep ho)
            · obtain rfl := Option.some.inj (ho : some _ = some o)
              rw [if_pos (by decide)]
              have s4 : a.tmps.getD 55 undef = .bool true := ht 4 (by omega) (by kernel_rfl)
              exact left2_value (.bool false) (by simp [go_sem, s4]) rfl rfl hk
          case hend =>
            intro V' u k hk hkt hV'
            have v0 : V' 0 = .pointer (some ⟨s, 0, none⟩) := hV' 0 (by omega)
            have v1 : V' 1 = .agg (stepC x.kind x.key x.st (.slice Ab x.bs.length cb) x.dead x.tt) := hV' 1 (by omega)
            obtain ⟨cs2, v2, h2⟩ : TellV wr.heap.size (ansR R x) (V' 2) u := hV' 2 (by omega)
            have v3 : V' 3 = .agg (tellC te tn tm ti (.slice E1 n1 c1) (.slice E2 n2 c2) (.slice E3 n3 c3)) := hV' 3 (by omega)
            have v4 : V' 4 = .bool true := hV' 4 (by omega)
            have v5 : V' 5 = .bool false := hV' 5 (by omega)
            have hk0 : 0 < k := hkt 2 0 (by omega) rfl
            change wpList _ _ _ _ (Act.put (Act.put (Act.put (Act.put (Act.put (Act.put _ (some 51) (V' 0)) (some 52) (V' 1)) (some 53) (V' 2)) (some 54) (V' 3)) (some 55) (V' 4)) (some 56) (V' 5)) _
            rw [v0, v1, v2, v3, v4, v5]
            simp only [Act.put, List.setIfInBounds_toArray, List.set_cons_zero, List.set_cons_succ]
            simp only [List.drop_succ_cons, List.drop_zero]
            clear hV' v0 v1 v2 v3 v4 v5
            obtain ⟨T', hs9, ho9, ht9⟩ := hk.end hk0
            have HWE := Lib.hid (show DoRelN w s nv n (.slice A2 rs2.length cap2) (.int .i64 ((i : Int) + 1)) u from by
              refine ⟨i + 1, A2, cap2, rs2, stepR R x, T', by rw [show ((i + 1 : Nat) : Int) = (i : Int) + 1 by omega], by omega, rfl, HG2.out, by rw [← Nat.add_assoc]; exact hs9, fun w' ho => (HTE.out w' (ho9.step ho fun k hk ht => ?_)).2, (HO.out.trans HOC.out).step ho9 (fun k hk ht => by have := HTL.out k ht; omega), fun k hk => ?_⟩
              · rcases ht9 k ht with h | h
                · exact h
                · omega
              · rcases ht9 k hk with h | h
                · exact HTL.out k h
                · have := (HO.out.trans HOC.out).size
                  omega)
            clear hk hkt h2 hs9 ho9 ht9 hk0 hlo hb6 hb7 d0 d1 d2 d3 d4 d5
            go_wp2_with fail
            exact ⟨HWE.out, by simp [intOf]; omega⟩
        · obtain rfl : i = n := by omega
          have HVS := Lib.hid (versionsR wr s (nv + i) T NoneOf R HS.out (by unfold NMAX; omega))
          have HVR := fun (u : World) (hu : Only NoneOf wr u) => Lib.hid (Versions_ref u A1 cap1 rs R HG.out (HRA.out u (hu.mono fun _ _ h => h.elim)) (by omega))
          have hlen := HS.out.len
          have HFIT : Hid (∀ x ∈ versR R, x.2.bs.length ≤ 4611686018427387904) := Lib.hid fun x hx => by
            have := HG.out.good.bs x (versR_mem hx)
            omega
          obtain ⟨nr, hnr⟩ : ∃ nr, rs.length = nr := ⟨_, rfl⟩
          simp only [hnr] at HVR ⊢
          clear hlt hnr
          go_wp2_with fail
          refine HVS.out.mono ?_; rintro e w5 ⟨v5, rs5, rfl, hr5, hpl5, ho5⟩
          have HO5 := Lib.hid ho5
          have HL5 := Lib.hid (show ListAt 4 VerE w5 v5 (versR R) by rw [← hpl5]; exact listAt_vers hr5)
          have HVR5 := HVR w5 ho5
          clear hr5 hpl5 ho5 HVS HVR
          go_wp2_with fail
          refine HVR5.out.mono ?_; rintro e w6 ⟨v6, qs, rfl, hown, hsub, hplq, ho6⟩
          have HO6 := Lib.hid (HO5.out.trans ho6)
          have HVA := versions_alike w6 v5 v6 (versR R) (versR R) (HL5.out.keep (fun x cs => VerE.keep ho6 x cs) ho6) (by rw [← hplq]; exact list_rows hown (fun r hr => rat_val (HRA.out w6 ((HO5.out.trans ho6).mono fun _ _ h => h.elim)) (hsub r hr))) (by rw [versR_length]; omega) HFIT.out
          rw [decide_eq_true rfl] at HVA
          replace HVA := Lib.hid HVA
          clear hown hsub hplq ho6 HVR5
          go_wp2_with fail
          refine HVA.out.mono ?_; rintro e w7 ⟨rfl, hw7⟩
          have HO7 := Lib.hid ((HO.out.trans HO6.out).trans (drewN_only hw7))
          clear hw7 HVA
          go_wp2_with fail
          go_ret
          exact ⟨rfl, HO7.out⟩

end Go.Proofs.Ytnonnencdhogiaa

/-
  Layer 14's law StoreFresh: plain words: a store of fresh keys; texts that come in; cells of an own row; both stores.
-/
namespace Go.Proofs.Ytnonnencdhogiaa
open Go.ChangeShapes Go.WideShapes Go.ChangeAt Go.RowKit Go.Deep

/-- each key once, at stamp 1 -/
structure Fr (bs : List UInt8) (R : List KV) : Prop where
  one : ∀ p ∈ R, p.2 = ⟨1, bs, false⟩ ∧ 1 ≤ p.1.size ∧ p.1.size ≤ 255
  keys : R.Pairwise fun a b => a.1 ≠ b.1
theorem Fr.nil (bs : List UInt8) : Fr bs [] := ⟨fun _ h => (by cases h), List.Pairwise.nil⟩
theorem Fr.ver {bs : List UInt8} {R : List KV} (h : Fr bs R) {key : ByteArray} {x : Ver} (hm : (key, x) ∈ R) : verR R key = [⟨1, bs, false⟩] := by
  obtain ⟨i, hi⟩ := List.mem_iff_getElem?.1 hm
  obtain ⟨hil, hix⟩ := List.getElem?_eq_some_iff.1 hi
  have e : R = R.take i ++ (key, x) :: R.drop (i + 1) := by
    rw [← hix, List.getElem_cons_drop, List.take_append_drop]
  have hx : x = ⟨1, bs, false⟩ := (h.one _ hm).1
  have hp := h.keys
  rw [e] at hp
  obtain ⟨_, h2, h3⟩ := List.pairwise_append.1 hp
  obtain ⟨h4, _⟩ := List.pairwise_cons.1 h2
  rw [e, verR_append]
  have e1 : verR (R.take i) key = [] := Decidable.byContradiction fun hn => by
    obtain ⟨y, hy⟩ := verR_ne.1 hn
    exact h3 _ hy (key, x) (by simp) rfl
  have e2 : verR ((key, x) :: R.drop (i + 1)) key = x :: verR (R.drop (i + 1)) key := by simp [verR]
  have e3 : verR (R.drop (i + 1)) key = [] := Decidable.byContradiction fun hn => by
    obtain ⟨y, hy⟩ := verR_ne.1 hn
    exact h4 _ hy rfl
  rw [e1, e2, e3, hx]
  rfl
theorem fr_code {bs : List UInt8} {R : List KV} {key : ByteArray} (hv : verR R key = []) (hk : 1 ≤ key.size ∧ key.size ≤ 255) (hb : bs.length ≤ 4096) : codeR R key ⟨1, bs, false⟩ = 0 := by
  unfold codeR applyC
  rw [hv]
  have hm : mayI key.size bs.length 1 false = 0 := may_of hk hb (fun h => by cases h) ⟨by decide, by decide⟩
  simp only [hm]
  rfl
theorem Fr.snoc {bs : List UInt8} {R : List KV} (h : Fr bs R) {key : ByteArray} (hv : verR R key = []) (hk : 1 ≤ key.size ∧ key.size ≤ 255) : Fr bs (R ++ [(key, ⟨1, bs, false⟩)]) := by
  refine ⟨fun p hp => ?_, List.pairwise_append.2 ⟨h.keys, List.pairwise_singleton _ _, fun a ha b hb e => ?_⟩⟩
  · rcases List.mem_append.1 hp with hp | hp
    · exact h.one p hp
    · obtain rfl : p = (key, ⟨1, bs, false⟩) := by simpa using hp
      exact ⟨rfl, hk⟩
  · obtain rfl : b = (key, ⟨1, bs, false⟩) := by simpa using hb
    exact verR_ne.2 ⟨a.2, by have e' : a.1 = key := e; rw [← e']; exact ha⟩ hv
theorem Fr.load {bs : List UInt8} {R : List KV} (h : Fr bs R) (hb : bs.length ≤ 4096) (i : Nat) (x : KV) (hx : R[i]? = some x) : codeR (R.take i) x.1 x.2 = 0 := by
  obtain ⟨h1, h2⟩ := h.one x (List.mem_of_getElem? hx)
  rw [h1]
  refine fr_code (Decidable.byContradiction fun hn => ?_) h2 hb
  obtain ⟨y, hy⟩ := verR_ne.1 hn
  obtain ⟨hil, hix⟩ := List.getElem?_eq_some_iff.1 hx
  have e : R = R.take i ++ x :: R.drop (i + 1) := by
    rw [← hix, List.getElem_cons_drop, List.take_append_drop]
  have hp := h.keys
  rw [e] at hp
  exact (List.pairwise_append.1 hp).2.2 _ hy x (by simp) rfl
theorem Fr.found {bs : List UInt8} {R : List KV} (h : Fr bs R) {key : ByteArray} {x : Ver} (hm : (key, x) ∈ R) {st : Int} (hs : 1 ≤ st) : found (verR R key) st = some bs := by
  rw [h.ver hm]
  simp [Go.Proofs.Ytnonnencdhogiaa.found, newest, hs]
theorem Fr.scan {bs : List UInt8} {R : List KV} (h : Fr bs R) {a b : ByteArray} {p : ByteArray × List UInt8} (hp : p ∈ scanR R a b 5) : p.2 = bs := by
  have hf := scan_get hp
  have hne : verR R p.1 ≠ [] := fun e => by rw [e] at hf; simp [Go.Proofs.Ytnonnencdhogiaa.found, newest] at hf
  obtain ⟨y, hy⟩ := verR_ne.1 hne
  rw [h.found hy (by decide)] at hf
  injection hf with hf
  exact hf.symm
theorem scan_few (R : List KV) (a b : ByteArray) (st : Int) : (scanR R a b st).length ≤ R.length :=
  Nat.le_trans (List.length_filterMap_le _ _) (keysR_length R)

/-- texts in memory -/
def KeysAt (w : World) (A : Option Addr) (ks : List ByteArray) : Prop := ∀ i k, ks[i]? = some k → ∃ g off, A = some ⟨g, off, none⟩ ∧ g < w.heap.size ∧ w.cell? ⟨g, off + i, none⟩ = some (.string k)
theorem KeysAt.keep {w w' : World} {A : Option Addr} {ks : List ByteArray} (h : KeysAt w A ks) (ho : Only NoneOf w w') : KeysAt w' A ks := fun i k hk => by
  obtain ⟨g, off, hA, hg, hc⟩ := h i k hk
  exact ⟨g, off, hA, Nat.lt_of_lt_of_le hg ho.size, (ho.cell (p := ⟨g, off + i, none⟩) hg (fun h => h)).trans hc⟩
theorem open_keys {H : Type} {enc : TypeId × Value → H} {w : World} {held : Bool} {v : Value} {d : DataW H} {p : List MemPlace} (hv : ∃ a len cap, v = .slice a len cap) (h : DataW.Trod enc Try.prog w 0 (fun _ => true) held 45 v d p) :
    ∃ A cap, ∃ ks : List ByteArray, v = .slice A ks.length cap ∧ (A = none ∧ ks.length = 0 ∧ cap = 0 ∨ ∃ D S, d = .slice D S ∧ D.length = ks.length ∧ D.length + S.length = cap) ∧ KeysAt w A ks := by
  obtain ⟨A, n, cap, rfl, hl, _, hdd, hi⟩ := open_elems (sz := 1) Try.underlying45 (by kernel_rfl) (by omega) hv h
  have one : ∀ i, i < n → ∃ t : ByteArray, ∃ g off, A = some ⟨g, off, none⟩ ∧ g < w.heap.size ∧ w.cell? ⟨g, off + i, none⟩ = some (.string t) := fun i hlt => by
    obtain ⟨blk, off, cs, m, y, hA, hb, hlen, hc, ht⟩ := hi i hlt
    match cs, hlen with
    | [c], _ =>
      obtain ⟨t, rfl, _⟩ := field_string Try.underlying9 ht
      have h0 := hc 0 _ rfl
      rw [Nat.mul_one, Nat.add_zero] at h0
      exact ⟨t, blk, off, hA, hb, h0⟩
  obtain ⟨s, hs, hp⟩ := list_of n one
  subst hs
  exact ⟨A, cap, s, rfl, hdd, hp⟩

/-- a cell of an own row -/
theorem own_cell {w : World} {B g n cap sz : Nat} {e : TypeId} {xs : List Value} (h : w.ownsRow B e sz (.slice (some ⟨g, 0, none⟩) n cap) n xs) {i : Nat} (hi : i < n * sz) (u : Value) :
    (∃ x, xs[i]? = some x ∧ w.cell? ⟨g, i, none⟩ = some x) ∧ w.frozen? ⟨g, i, none⟩ = false ∧ (w.setCell ⟨g, i, none⟩ u).ownsRow B e sz (.slice (some ⟨g, 0, none⟩) n cap) n (xs.set i u) := by
  obtain ⟨hl, h⟩ := h
  rcases h with ⟨h0, _⟩ | ⟨g', cap', cur, hv, hb, hh, hle, hcm, hsz, hcur⟩
  · simp at h0
  · simp only [Value.slice.injEq, Option.some.injEq, Addr.mk.injEq, and_true] at hv
    obtain ⟨rfl, _, rfl⟩ := hv
    have hblk : Blk w g e cur := hh
    refine ⟨⟨xs[i]'(by omega), List.getElem?_eq_getElem _, ?_⟩, hblk.free i, by rw [List.length_set]; exact hl, .inr ⟨g, cap, cur.setIfInBounds i u, rfl, hb, hblk.put i u, hle, hcm, by simpa using hsz, ?_⟩⟩
    · rw [hblk.cell, ← List.getElem?_eq_getElem, ← hcur, List.getElem?_take_of_lt (by omega), Array.getElem?_toList]
    · rw [Array.toList_setIfInBounds, List.take_set, hcur]
theorem own_at {w : World} {B n sz : Nat} {v : Value} {e : TypeId} {xs : List Value} (h : w.ownsRow B e sz v n xs) (hn : 0 < n) : ∃ g cap, v = .slice (some ⟨g, 0, none⟩) n cap ∧ B ≤ g ∧ g < w.heap.size ∧ n ≤ cap := by
  rcases h.2 with ⟨_, h0⟩ | ⟨g, cap, cur, hv, hb, _, hle, _⟩
  · omega
  · exact ⟨g, cap, hv, hb, (ownsRow_lt h (by rw [hv]; rfl)).2, hle⟩
/-- a row of cells put, whatever stands there -/
theorem own_cells {B g n cap sz : Nat} {e : TypeId} : ∀ (vs : List Value) (o : Nat) {w : World} {xs : List Value}, w.ownsRow B e sz (.slice (some ⟨g, 0, none⟩) n cap) n xs → o + vs.length ≤ n * sz →
    w.there g o vs.length ∧ ∃ xs', (w.setCells g o vs).ownsRow B e sz (.slice (some ⟨g, 0, none⟩) n cap) n xs'
  | [], o, w, xs, h, _ => ⟨fun j hj => by simp at hj, xs, h⟩
  | v :: vs, o, w, xs, h, hl => by
    simp only [List.length_cons] at hl ⊢
    obtain ⟨_, _, h2⟩ := own_cell h (i := o) (by omega) v
    refine ⟨fun j hj => ?_, (own_cells vs (o + 1) h2 (by omega)).2⟩
    obtain ⟨⟨x, _, hx⟩, hf, _⟩ := own_cell h (i := o + j) (by omega) v
    exact ⟨by rw [hx]; rfl, hf⟩

/-- what was made since wa -/
def Abv (wa w : World) (k : Nat) : Prop := wa.heap.size ≤ k ∧ k < w.heap.size
/-- both stores hold the same; what is made from wa on is not theirs -/
def Both (wa : World) (s t : Nat) (T1 T2 : Nat → Prop) (R : List KV) (N : Nat) (w : World) : Prop := StoR w s T1 (Abv wa w) R N ∧ StoR w t T2 (Abv wa w) R N ∧ wa.heap.size ≤ w.heap.size
theorem Both.turn {wa w w' : World} {s t N : Nat} {T1 T2 S : Nat → Prop} {R : List KV} (h : Both wa s t T1 T2 R N w) (ho : Only S w w') (hS : ∀ k, S k → wa.heap.size ≤ k) : Both wa s t T1 T2 R N w' := by
  obtain ⟨h1, h2, h3⟩ := h
  have hsz := ho.size
  have ho' : Only (fun k => S k ∧ k < w.heap.size) w w' := ho.mono fun k hk hs => ⟨hs, hk⟩
  have hU : ∀ k, Abv wa w' k → k < w'.heap.size ∧ (Abv wa w k ∨ w.heap.size ≤ k) := fun k hk => ⟨hk.2, by
    rcases Nat.lt_or_ge k w.heap.size with h | h
    · exact .inl ⟨hk.1, h⟩
    · exact .inr h⟩
  exact ⟨h1.other ho' (fun k hk => ⟨hS k hk.1, hk.2⟩) hU, h2.other ho' (fun k hk => ⟨hS k hk.1, hk.2⟩) hU, by omega⟩
theorem Both.keep {wa w w' : World} {s t N : Nat} {T1 T2 : Nat → Prop} {R : List KV} (h : Both wa s t T1 T2 R N w) (ho : Only NoneOf w w') : Both wa s t T1 T2 R N w' := h.turn ho (fun _ h => h.elim)
theorem both_start {w : World} {s t N : Nat} {T1 T2 U1 U2 : Nat → Prop} {R : List KV} (h1 : StoR w s T1 U1 R N) (h2 : StoR w t T2 U2 R N) : Both w s t T1 T2 R N w :=
  ⟨h1.other (S := NoneOf) (Only.refl _ _) (fun _ h => h.elim) (fun k hk => by have := hk.1; have := hk.2; omega), h2.other (S := NoneOf) (Only.refl _ _) (fun _ h => h.elim) (fun k hk => by have := hk.1; have := hk.2; omega), Nat.le_refl _⟩

/-- the versions handed in, as a list holds them -/
def rowsOf (v : Value) (R : List KV) : List VRow := R.map fun p => ⟨p.1, p.2.st, v, p.2.bs, p.2.dead⟩
theorem rowsOf_length (v : Value) (R : List KV) : (rowsOf v R).length = R.length := by simp [rowsOf]
theorem rowsOf_snoc (v : Value) (R : List KV) (p : KV) : rowsOf v (R ++ [p]) = rowsOf v R ++ [⟨p.1, p.2.st, v, p.2.bs, p.2.dead⟩] := by simp [rowsOf]
theorem rowsOf_vers {w : World} {B n : Nat} {v : Value} {bs : List UInt8} {A : Option Addr} {c : Nat} {R : List KV} (h : w.ownsRow B 27 4 v n (vflat (rowsOf (.slice A bs.length c) R))) (hn : R.length = n) (hR : Fr bs R) (hb : BytesAt w A bs) :
    ∃ Al cl, v = .slice Al n cl ∧ VersAt w Al R := by
  subst hn
  rw [← rowsOf_length (.slice A bs.length c) R] at h
  obtain ⟨Al, cl, e, hr⟩ := rat_own h (fun r hr => by
    obtain ⟨p, hp, rfl⟩ := List.mem_map.1 hr
    have := hR.one p hp
    exact ⟨A, c, by rw [this.1], by rw [this.1]; exact hb, by unfold maxLen; simp only; omega⟩)
  rw [rowsOf_length] at e
  refine ⟨Al, cl, e, fun i x hx => ?_⟩
  obtain ⟨g, off, Ab, cb, h1, h2, d0, d1, d2, d3, h4, h5, h6⟩ := hr i ⟨x.1, x.2.st, .slice A bs.length c, x.2.bs, x.2.dead⟩ (by unfold rowsOf; rw [List.getElem?_map, hx]; rfl)
  exact ⟨g, off, Ab, cb, h1, h2, d0, d1, d2, d3, h5, h6⟩

/-- versions told, read -/
theorem VRows.rat {w : World} {B : Nat} {v : Value} {rs : List VRow} (h : VRows w B v rs) (hk : ∀ r ∈ rs, r.key.size ≤ maxLen) : ∃ A cap, v = .slice A rs.length cap ∧ RAt w A rs :=
  rat_own h.own (fun r hr => by
    obtain ⟨A, c, e, hb⟩ := (h.val r hr).at
    exact ⟨A, c, e, hb, hk r hr⟩)
/-- pairs told, read -/
theorem prows_pat {w : World} {B : Nat} {v : Value} {rs : List PRow} (h : PRows w B v rs) : ∃ A cap, v = .slice A rs.length cap ∧ PAt w A rs := by
  obtain ⟨A, c, hv⟩ := ownsRow_slice h.own
  refine ⟨A, c, hv, fun i r hi => ?_⟩
  have hil : i < rs.length := (List.getElem?_eq_some_iff.1 hi).1
  obtain ⟨g, cap, hv2, _, hlt, _⟩ := own_at h.own (by omega)
  have ho := h.own
  rw [hv2] at ho
  obtain ⟨Ab, cb, hvr⟩ := ownsRow_slice (h.vals r (List.mem_of_getElem? hi))
  have hc : ∀ j, j < 2 → w.cell? ⟨g, i * 2 + j, none⟩ = r.cells[j]? := fun j hj => by
    obtain ⟨⟨x, hx, hxc⟩, _⟩ := own_cell ho (i := i * 2 + j) (by omega) (.bool true)
    rw [hxc, ← hx]
    exact flatMap_get PRow.cells 2 (fun _ => rfl) rs i j r hi hj
  rw [hv] at hv2
  injection hv2 with e1 _ _
  refine ⟨g, 0, Ab, cb, e1, hlt, by rw [Nat.zero_add]; exact hc 0 (by omega), by rw [Nat.zero_add, hc 1 (by omega), ← hvr]; rfl, hvr⟩
theorem plain_key {rs : List VRow} {L : List KV} (h : rs.map VRow.plain = L) {r : VRow} (hr : r ∈ rs) : (r.key, ⟨r.st, r.bs, r.dead⟩) ∈ L := by
  rw [← h]
  exact List.mem_map.2 ⟨r, hr, rfl⟩

end Go.Proofs.Ytnonnencdhogiaa

/-
  Layer 14's law StoreFresh: plain words for what is told: values of lists, gets, stamps turned.
-/
namespace Go.Proofs.Ytnonnencdhogiaa
open Go.RowKit

theorem vers_rows {bs : List UInt8} {R : List KV} {rl : List VRow} (hF : Fr bs R) (h : rl.map VRow.plain = versR R) :
    rl.length = R.length ∧ ∀ r ∈ rl, r.st = 1 ∧ r.bs = bs ∧ r.dead = false ∧ 1 ≤ r.key.size ∧ r.key.size ≤ 255 ∧ (r.key, (⟨1, bs, false⟩ : Ver)) ∈ R := by
  refine ⟨by rw [← versR_length R, ← h, List.length_map], fun r hr => ?_⟩
  have hm := versR_mem (plain_key h hr)
  obtain ⟨h1, h2, h3⟩ := hF.one _ hm
  injection h1 with e1 e2 e3
  refine ⟨e1, e2, e3, h2, h3, ?_⟩
  rw [e1, e2, e3] at hm
  exact hm
theorem pairs_rows {bs : List UInt8} {R : List KV} {pr : List PRow} {a b : ByteArray} (hF : Fr bs R) (h : pr.map PRow.plain = scanR R a b 5) : pr.length ≤ R.length ∧ ∀ r ∈ pr, r.bs = bs := by
  refine ⟨by rw [← List.length_map (f := PRow.plain), h]; exact scan_few R a b 5, fun r hr => ?_⟩
  have hm : (r.key, r.bs) ∈ scanR R a b 5 := by rw [← h]; exact List.mem_map.2 ⟨r, hr, rfl⟩
  exact hF.scan hm

/-- more rows at once -/
theorem LRows.append {w w' : World} {B : Nat} {v v' : Value} {ls news : List LRow} (h : LRows w B v ls) (ho : Only (fun k => v.ownBlock = some k) w w') (hown : w'.ownsRow B 25 1 v' (ls ++ news).length ((ls ++ news).flatMap LRow.cells))
    (hat : v'.ownBlock = v.ownBlock ∨ v'.ownBlock = some w.heap.size) (hn : LNew w B v ls news) : LRows w' B v' (ls ++ news) := by
  have hb : ∀ x ∈ ls ++ news, RowB w B x.val x.bs ∧ ∀ g, v.ownBlock = some g → x.val.ownBlock ≠ some g := fun x hx => by
    rcases List.mem_append.1 hx with hx | hx
    · exact ⟨h.vals x hx, h.apart x hx⟩
    · exact ⟨hn.own x hx, fun g hg e => hn.far x hx g e (.inl hg)⟩
  refine ⟨hown, fun x hx => (hb x hx).1.only ho (fun g hg e => (hb x hx).2 g e hg), fun x hx g hg e => ?_, ?_⟩
  · rcases hat with hat | hg'
    · rw [hat] at hg
      exact (hb x hx).2 g hg e
    · rw [hg'] at hg
      cases hg
      have := (ownsRow_lt (hb x hx).1 e).2
      omega
  · rw [List.pairwise_append]
    exact ⟨h.dist, hn.dist, fun a ha b hb' g hg e => hn.far b hb' g e (.inr ⟨a, ha, hg⟩)⟩

/-- values of a list of versions and of pairs -/
theorem values_step (w : World) (B : Nat) (v : Value) (ls : List LRow) (h : LRows w B v ls) (lv : Value) (rl : List VRow) (hl : VRows w B lv rl) (hk : ∀ r ∈ rl, r.key.size ≤ maxLen) (pv : Value) (pr : List PRow) (hp : PRows w B pv pr)
    (d1 : ∀ k, VBlocks lv rl k → ¬ LBlocks v ls k) (d2 : ∀ k, PBlocks pv pr k → ¬ LBlocks v ls k) (d3 : ∀ k, PBlocks pv pr k → ¬ VBlocks lv rl k) (hB : B ≤ w.heap.size) (hfew : ls.length + (rl.length + pr.length) ≤ 5000000000000) :
    Calls Try.prog 38 #[v, lv, pv] w fun e w' => ∃ v', e = .returned v' ∧ LRows w' B v' (ls ++ (rl.map VRow.l ++ pr.map PRow.l)) ∧ Only (fun k => v.ownBlock = some k) w w' ∧ (v'.ownBlock = v.ownBlock ∨ ∃ g, v'.ownBlock = some g ∧ w.heap.size ≤ g) := by
  obtain ⟨Al, cl, rfl, _⟩ := hl.rat hk
  obtain ⟨Ap, cp, rfl, _⟩ := prows_pat hp
  have hl' : ∀ w', Only (fun k => v.ownBlock = some k) w w' → RAt w' Al rl := fun w' ho => by
    have := hl.only ho (fun k hk e => d1 k hk (.inl e))
    obtain ⟨A, c, e, hr⟩ := this.rat hk
    injection e with e1 _ _
    rw [e1]; exact hr
  have hp' : ∀ w', Only (fun k => v.ownBlock = some k) w w' → PAt w' Ap pr := fun w' ho => by
    have := BRows.only hp ho (fun k hk e => d2 k hk (.inl e))
    obtain ⟨A, c, e, hr⟩ := prows_pat this
    injection e with e1 _ _
    rw [e1]; exact hr
  have hn : LNew w B v ls (rl.map VRow.l ++ pr.map PRow.l) := by
    refine ⟨fun r hr => ?_, fun r hr g hg hb => ?_, ?_⟩
    · rcases List.mem_append.1 hr with hr | hr
      · obtain ⟨x, hx, rfl⟩ := List.mem_map.1 hr
        exact hl.val x hx
      · obtain ⟨x, hx, rfl⟩ := List.mem_map.1 hr
        exact hp.vals x hx
    · rcases List.mem_append.1 hr with hr | hr
      · obtain ⟨x, hx, rfl⟩ := List.mem_map.1 hr
        exact d1 g (.inr ⟨x, hx, hg⟩) hb
      · obtain ⟨x, hx, rfl⟩ := List.mem_map.1 hr
        exact d2 g (.inr ⟨x, hx, hg⟩) hb
    · rw [List.pairwise_append]
      refine ⟨List.pairwise_map.2 hl.dist, List.pairwise_map.2 hp.dist, fun a ha b hb g hg e => ?_⟩
      obtain ⟨x, hx, rfl⟩ := List.mem_map.1 ha
      obtain ⟨y, hy, rfl⟩ := List.mem_map.1 hb
      exact d3 g (.inr ⟨y, hy, e⟩) (.inr ⟨x, hx, hg⟩)
  refine (values_is w B v ls h Al cl rl hl' Ap cp pr hp' hn hB hfew).mono ?_
  rintro e w' ⟨v', rfl, h1, h2, h3⟩
  exact ⟨v', rfl, h1, h2, h3⟩

/-- what stands behind told: two lists of versions, and both stores -/
structure Sm (wa : World) (s t : Nat) (T1 T2 : Nat → Prop) (R : List KV) (N : Nat) (lv mv : Value) (nl nm : Nat) (xl xm : List Value) (wr : World) : Prop where
  l : wr.ownsRow wa.heap.size 27 4 lv nl xl
  m : wr.ownsRow wa.heap.size 27 4 mv nm xm
  ap : ∀ g, lv.ownBlock = some g → mv.ownBlock ≠ some g
  both : Both wa s t T1 T2 R N wr
  only : Only NoneOf wa wr
theorem Sm.keep {wa wr w' : World} {s t N nl nm : Nat} {T1 T2 : Nat → Prop} {R : List KV} {lv mv : Value} {xl xm : List Value} (h : Sm wa s t T1 T2 R N lv mv nl nm xl xm wr) (ho : Only NoneOf wr w') : Sm wa s t T1 T2 R N lv mv nl nm xl xm w' :=
  ⟨ownsRow_only h.l ho (fun _ _ h => h), ownsRow_only h.m ho (fun _ _ h => h), h.ap, h.both.keep ho, h.only.trans ho⟩
theorem Sm.setl {wa wr : World} {s t N nl nm g c i : Nat} {T1 T2 : Nat → Prop} {R : List KV} {mv : Value} {xl xm : List Value} (h : Sm wa s t T1 T2 R N (.slice (some ⟨g, 0, none⟩) nl c) mv nl nm xl xm wr) (hi : i < nl * 4) (u : Value) :
    (∃ x, wr.cell? ⟨g, i, none⟩ = some x) ∧ wr.frozen? ⟨g, i, none⟩ = false ∧ Sm wa s t T1 T2 R N (.slice (some ⟨g, 0, none⟩) nl c) mv nl nm (xl.set i u) xm (wr.setCell ⟨g, i, none⟩ u) := by
  obtain ⟨⟨x, _, hc⟩, hf, hp⟩ := own_cell h.l hi u
  have hg := ownsRow_lt h.l (g := g) rfl
  have ho : Only (fun k => k = g) wr (wr.setCell ⟨g, i, none⟩ u) := only_put (p := ⟨g, i, none⟩) (S := fun k => k = g) rfl _
  have hsz := h.both.2.2
  exact ⟨⟨x, hc⟩, hf, hp, ownsRow_only h.m ho (fun b hb e => h.ap g rfl (by rw [← e]; exact hb)), h.ap, h.both.turn ho (fun k hk => by omega), h.only.step ho (fun k hk e => by omega)⟩
theorem Sm.setm {wa wr : World} {s t N nl nm g c i : Nat} {T1 T2 : Nat → Prop} {R : List KV} {lv : Value} {xl xm : List Value} (h : Sm wa s t T1 T2 R N lv (.slice (some ⟨g, 0, none⟩) nm c) nl nm xl xm wr) (hi : i < nm * 4) (u : Value) :
    (∃ x, wr.cell? ⟨g, i, none⟩ = some x) ∧ wr.frozen? ⟨g, i, none⟩ = false ∧ Sm wa s t T1 T2 R N lv (.slice (some ⟨g, 0, none⟩) nm c) nl nm xl (xm.set i u) (wr.setCell ⟨g, i, none⟩ u) := by
  obtain ⟨⟨x, _, hc⟩, hf, hp⟩ := own_cell h.m hi u
  have hg := ownsRow_lt h.m (g := g) rfl
  have ho : Only (fun k => k = g) wr (wr.setCell ⟨g, i, none⟩ u) := only_put (p := ⟨g, i, none⟩) (S := fun k => k = g) rfl _
  exact ⟨⟨x, hc⟩, hf, ownsRow_only h.l ho (fun b hb e => h.ap b hb (by rw [e]; rfl)), hp, h.ap, h.both.turn ho (fun k hk => by omega), h.only.step ho (fun k hk e => by omega)⟩
theorem Sm.grow {wa wr wm w' : World} {s t N nl nm n' : Nat} {T1 T2 : Nat → Prop} {R : List KV} {lv mv lv' : Value} {xl xm xl' : List Value} (h : Sm wa s t T1 T2 R N lv mv nl nm xl xm wr) (hm : Only NoneOf wr wm)
    (hown : w'.ownsRow wa.heap.size 27 4 lv' n' xl') (ho : Only (fun k => lv.ownBlock = some k) wm w') (hat : lv'.ownBlock = lv.ownBlock ∨ lv'.ownBlock = some wm.heap.size) : Sm wa s t T1 T2 R N lv' mv n' nm xl' xm w' := by
  have h' := h.keep hm
  refine ⟨hown, ownsRow_only h'.m ho (fun g hg e => h.ap g e hg), fun g hg e => ?_, h'.both.turn ho (fun k hk => (ownsRow_lt h.l hk).1), h'.only.step ho (fun k hk e => by have := (ownsRow_lt h.l e).1; omega)⟩
  rcases hat with hat | hat
  · rw [hat] at hg
    exact h.ap g hg e
  · rw [hat] at hg
    cases hg
    have := (ownsRow_lt h'.m e).2
    omega
/-- a stamp read -/
theorem own_stamp {w : World} {B n i : Nat} {v : Value} {xs : List Value} (h : w.ownsRow B 27 4 v n xs) (hi : i < n) {x : Value} (hx : xs[i * 4 + 1]? = some x) : ∃ g cap, v = .slice (some ⟨g, 0, none⟩) n cap ∧ g < w.heap.size ∧ w.cell? ⟨g, i * 4 + 1, none⟩ = some x := by
  obtain ⟨g, cap, rfl, _, hg, _⟩ := own_at h (by omega)
  obtain ⟨⟨y, hy, hc⟩, _⟩ := own_cell h (i := i * 4 + 1) (by omega) (.bool true)
  rw [hx] at hy
  injection hy with hy
  exact ⟨g, cap, rfl, hg, by rw [hy]; exact hc⟩
/-- the first k stamps -/
def Stamps (n k : Nat) (s : Int) (xs : List Value) : Prop := xs.length = n * 4 ∧ ∀ i, i < k → xs[i * 4 + 1]? = some (.int .i64 s)
theorem Stamps.set {n k : Nat} {s : Int} {xs : List Value} (h : Stamps n k s xs) (hk : k < n) : Stamps n (k + 1) s (xs.set (k * 4 + 1) (.int .i64 s)) := by
  refine ⟨by rw [List.length_set]; exact h.1, fun i hi => ?_⟩
  rw [List.getElem?_set]
  split
  · rw [if_pos (by have := h.1; omega)]
  · exact h.2 i (by omega)

end Go.Proofs.Ytnonnencdhogiaa

