/-
  Layer 14: Vacuum (a range over the map, a chain pruned in each round).
-/
import Derived.Test.YtnonnencdhogiaaS10
namespace Go.Proofs.Ytnonnencdhogiaa
open Go.RowKit
open Go.Maps (Keyed)
open Cb (ChIs Foot pruned)

theorem ranges_only {w w' : World} {S : Nat → Prop} {m r n cnt : Nat} {D : MD} {left : Lit → Bool} (h : w.ranges Try.prog 9 RP m r n D left cnt) (ho : Only S w w') (hm : ¬ S m) (hr : ¬ S r) : w'.ranges Try.prog 9 RP m r n D left cnt := by
  have h1 := h.owns.lt
  have h2 := h.lt
  obtain ⟨es, clock, since, seen, c0, hb, F, hs, hD, hi, rest⟩ := h
  exact ⟨es, clock, since, seen, c0, (ho.block m h1 hm).trans hb, F, hs, hD, (ho.block r h2 hr).trans hi, rest⟩

theorem ranges_iter {w : World} {m r n cnt : Nat} {D : MD} {left : Lit → Bool} (h : w.ranges Try.prog 9 RP m r n D left cnt) (o : Nat) : w.cell? ⟨r, o, none⟩ = none := by
  obtain ⟨es, clock, since, seen, c0, _, _, _, _, hi, _⟩ := h
  simp [World.cell?, hi]
theorem Sto.iter {w w1 : World} {s m n r : Nat} {D : MD} {C : ByteArray → Option Ch} {live : Int} {V : ByteArray → List Ver} {U : Nat → Prop} (h : Sto w s m n D C live V U) (ho : Only (fun k => some r = some k) w w1) (hr : ¬ Ter s m C r) (hi : ∀ o, w.cell? ⟨r, o, none⟩ = none) : Sto w1 s m n D C live V U := by
  have hne : ∀ k, Ter s m C k → ¬ (some r = some k) := fun k hk e => hr (by cases e; exact hk)
  refine ⟨⟨h.is.blk.only ho (hne s (.inl rfl)), map_only h.is.map ho (hne m (.inr (.inl rfl))), h.is.keys, fun key c hc => (h.is.chains key c hc).only ho (fun k hk => hne k (.inr (.inr ⟨key, c, hc, hk⟩))), h.is.apart, h.is.far, h.is.sm⟩,
    h.len, fun key c hc i l x hl hx => ?_, h.nov, h.has⟩
  obtain ⟨h1, h2, A, cp, hval, hby, hap⟩ := h.ver key c hc i l x hl hx
  refine ⟨h1, h2, A, cp, hval, fun j b hb => ?_, hap⟩
  obtain ⟨g, off, hA, hg, hcell⟩ := hby j b hb
  refine ⟨g, off, hA, Nat.lt_of_lt_of_le hg ho.size, (ho.cell (p := ⟨g, off + j, none⟩) hg (fun e => ?_)).trans hcell⟩
  have e' : r = g := by simpa using e
  subst e'
  rw [hi] at hcell
  cases hcell

/-- how many versions of a key go -/
def goneOf (V : ByteArray → List Ver) (hz : Int) : Lit → Nat
  | .string bs => ((V ⟨bs.toArray⟩).takeWhile fun x => decide (x.st ≤ hz)).length - 1
  | _ => 0

def VacRel (w : World) (s m n : Nat) (D : MD) (es : List (Lit × MD)) (C : ByteArray → Option Ch) (live : Int) (V : ByteArray → List Ver) (U : Nat → Prop) (hz : Int) (total : Nat) (v : Value) (wr : World) : Prop :=
  ∃ (left : Lit → Bool) (cnt acc : Nat) (C' : ByteArray → Option Ch) (V' : ByteArray → List Ver), wr.ranges Try.prog 9 RP m w.heap.size n D left cnt ∧ v = .int .i64 acc ∧ acc + sumLeft (goneOf V hz) es left = total ∧ Sto wr s m n D C' live V' U ∧
    (∀ key : ByteArray, key.size ≤ maxLen → V' key = if left (.string key.data.toList) then V key else keptV (V key) hz) ∧ (∀ key : ByteArray, ¬ key.size ≤ maxLen → V' key = V key) ∧ Only (Ter s m C) w wr ∧ (∀ k, Ter s m C' k → Ter s m C k ∨ w.heap.size < k) ∧ w.heap.size < wr.heap.size

def VacPost (s m n : Nat) (D : MD) (C : ByteArray → Option Ch) (live : Int) (V : ByteArray → List Ver) (U : Nat → Prop) (hz : Int) (total : Nat) (w : World) (e : Ending) (w' : World) : Prop :=
  e = .returned (.int .i64 total) ∧ ∃ C' V', Sto w' s m n D C' live V' U ∧ (∀ key : ByteArray, key.size ≤ maxLen → V' key = keptV (V key) hz) ∧ (∀ key : ByteArray, ¬ key.size ≤ maxLen → V' key = V key) ∧ Only (Ter s m C) w w' ∧ ∀ k, Ter s m C' k → Ter s m C k ∨ w.heap.size ≤ k

set_option maxRecDepth 100000 in
set_option maxHeartbeats 1000000 in
theorem vacuum_is (w : World) (s m n : Nat) (D : MD) (C : ByteArray → Option Ch) (live : Int) (V : ByteArray → List Ver) {U : Nat → Prop} (hz : Int) (es : List (Lit × MD)) (h : Sto w s m n D C live V U) (hD : D = .map es) (hes : es.Pairwise fun p q => p.1 ≠ q.1)
    (hsum : sumLeft (goneOf V hz) es (fun _ => true) ≤ 9223372036854775807) :
    Calls Try.prog 20 #[.pointer (some ⟨s, 0, none⟩), .int .i64 hz] w (VacPost s m n D C live V U hz (sumLeft (goneOf V hz) es (fun _ => true)) w) := by
  have c0 := h.is.blk.cellv 0 rfl
  have HS := Lib.hid h
  have hown := h.is.map
  obtain ⟨total, htot⟩ : ∃ t, t = sumLeft (goneOf V hz) es (fun _ => true) := ⟨_, rfl⟩
  rw [← htot] at hsum ⊢
  have HT := Lib.hid htot
  clear h htot
  go_enter Try.func20, Try.ntmps20
  go_wp2_with (first | (refine wpList_range_own _ rfl (.tmp 13) 81 rfl 9 84 law9 Try.underlying81 RP m n D rfl hown ?_; intro w0 hrg0 hg0 hs0) | fail)
  go_frame
  have HG0 := Lib.hid ((only_grown hg0).mono (S' := NoneOf) (fun _ _ h => by cases h))
  go_loopw [5] (fun v wr => VacRel w s m n D es C live V U hz total v wr) (fun _ wr => wr.rangeLeft m w.heap.size)
  case atStart =>
    refine ⟨_, _, 0, C, V, hrg0, rfl, ?_, HS.out.keep HG0.out, fun key hk => ?_, fun _ _ => rfl, HG0.out.mono (fun _ _ h => h.elim), fun k hk => .inl hk, by omega⟩
    · rw [HT.out, Nat.zero_add]
      refine sum_congr _ _ (fun p hp => ?_)
      rw [hD, Go.Maps.has_eq]
      have hk : WideAt.IsKeyLit p.1 := by
        obtain ⟨es', hD', _, hk⟩ := hown.entries law9
        rw [hD] at hD'
        cases hD'
        exact hk p hp
      exact List.any_eq_true.2 ⟨p, hp, WideAt.sameKey_self hk⟩
    · cases hh : Go.Maps.has D (.string key.data.toList) with
      | true => simp
      | false =>
        have h1 := HS.out.is.keys key .nil hk
        have h2 := HS.out.is.keys key (.lit (.bool true)) hk
        rw [Go.Maps.atKey_of_not_has hh] at h1 h2
        cases hc : C key with
        | none => rw [HS.out.nov key hc]; simp [keptV]
        | some c => rw [hc] at h1; cases h1
  case round =>
    clear hrg0 hg0 hs0 hown c0
    obtain ⟨left, cnt, acc, C', V', hrg, rfl, hacc, hsto, hV', hVb, ho, hter, hlr⟩ := hrel
    have HVB := Lib.hid hVb
    have HO := Lib.hid ho
    have HACC := Lib.hid hacc
    have HST := Lib.hid hsto
    have HV := Lib.hid hV'
    have HTER := Lib.hid hter
    clear ho hacc hsto hV' hter hVb
    go_wp2_with (first | (refine wpList_next_ranges _ rfl (.tmp 14) rfl 9 law9 RP Value.string ptrV key_inv RP_inv m w.heap.size n D left cnt rfl hrg ?_ ?_) | fail)
    · intro hc0 hl0
      have hz' := HACC.out
      rw [sum_none _ _ _ hl0, Nat.add_zero] at hz'
      subst hz'
      go_wp2_with fail
      go_ret
      refine ⟨rfl, C', V', HST.out, fun key hk => ?_, HVB.out, HO.out, fun k hk => ?_⟩
      · rw [HV.out key hk, hl0]
        rfl
      · rcases HTER.out k hk with h | h
        · exact .inl h
        · exact .inr (by omega)
    · intro x c kl y ps w1 cnt1 hkx hlx hvc hat hrg1 hlt hg1 hs1 hen
      obtain ⟨hkl, hxl⟩ := key_lit x kl hkx
      subst hkl
      have hat' : ∀ zd, D.atKey (.string x.data.toList) zd = y := fun zd => by rw [hD]; exact hat zd
      have hk0 := fun zd => (HST.out.is.keys x zd hxl).symm.trans (hat' zd)
      obtain ⟨ch, hch⟩ : ∃ ch, C' x = some ch := by
        cases hc : C' x with
        | some ch => exact ⟨ch, rfl⟩
        | none =>
          rw [hc] at hk0
          have h1 := hk0 .nil
          have h2 := hk0 (.lit (.bool true))
          simp only at h1 h2
          rw [← h1] at h2
          cases h2
      have hy : y = .lit (.int .i64 ch.1) := by
        have := hk0 .nil
        rw [hch] at this
        exact this.symm
      have hpv : ptrV c = .pointer (some ⟨ch.1, 0, none⟩) := RP_at (ps := ps) (by rw [hvc, ← hy])
      have hent : ∃ p ∈ es, p.1 = .string x.data.toList := at_entry (y := y) hat
      have hst := sum_strike (goneOf V hz) left (.string x.data.toList) trivial hlx es hes hent
      have hVx : V' x = V x := by rw [HV.out x hxl, hlx]; rfl
      have hcn := cnt_ver ch.2.2 (V' x) hz (HST.out.len x ch hch) (fun i l z h1 h2 => (HST.out.ver x ch hch i l z h1 h2).1)
      have hgo : goneOf V hz (.string x.data.toList) = Go.Proofs.Ytnonnencdhogiaa.cnt ch.2.2 hz - 1 := by
        show ((V x).takeWhile fun z => decide (z.st ≤ hz)).length - 1 = _
        rw [← hVx, ← hcn]
      have hnr : ¬ Ter s m C' w.heap.size := fun ht => by
        rcases HTER.out _ ht with h | h
        · have := HS.out.is.ter_lt h
          omega
        · omega
      have hg1' := only_grown hg1
      have hsto1 := HST.out.iter hg1' hnr (ranges_iter hrg)
      have hchain := hsto1.is.chains x ch hch
      have HP := Lib.hid (prune_is w1 ch.1 ch.2.1 ch.2.2 hz hchain)
      have HST1 := Lib.hid hsto1
      have HRG1 := Lib.hid hrg1
      have HRG0 := Lib.hid hrg
      have HG1 := Lib.hid hg1'
      have hs1' := hg1'.size
      rw [hgo] at hst
      have hacc := HACC.out
      have HSUM := Lib.hid (show acc + (Go.Proofs.Ytnonnencdhogiaa.cnt ch.2.2 hz - 1) + sumLeft (goneOf V hz) es (fun z => left z && !z.sameKey (.string x.data.toList)) = total by omega)
      have hbig : acc + (Go.Proofs.Ytnonnencdhogiaa.cnt ch.2.2 hz - 1) ≤ 9223372036854775807 := by omega
      have HVX := Lib.hid hVx
      have HCH := Lib.hid hch
      rw [hpv] at hen ⊢
      clear hk0 hat' hy hpv hent hst hVx hcn hgo hsto1 hchain hrg1 hrg hat hvc hkx hacc hg1' hch
      generalize hgn : Go.Proofs.Ytnonnencdhogiaa.cnt ch.2.2 hz - 1 = ng at *
      go_wp2_with fail
      refine HP.out.mono ?_; rintro e w2 ⟨v', rfl, hA2, ho2, hft2⟩
      rw [hgn]
      have hfm : ∀ k, Foot ch.1 ch.2.1 k → k ≠ m ∧ k ≠ w.heap.size := fun k hk => ⟨(HST1.out.is.far x ch HCH.out k hk).2, fun e => hnr (by rw [← e]; exact .inr (.inr ⟨x, ch, HCH.out, hk⟩))⟩
      have HRG2 := Lib.hid (ranges_only HRG1.out ho2 (fun h => (hfm _ h).1 rfl) (fun h => (hfm _ h).2 rfl))
      have HST2 := Lib.hid (HST1.out.prune HCH.out ho2 hA2 hft2)
      have HO2 := Lib.hid ((HO.out.step HG1.out (fun k hk e => absurd (show w.heap.size = k by simpa using e) (by omega))).step ho2 (fun k hk hf => by
        rcases HTER.out k (.inr (.inr ⟨x, ch, HCH.out, hf⟩)) with h | h
        · exact h
        · omega))
      have HFT := Lib.hid hft2
      have hs2 := ho2.size
      clear hA2 ho2 hft2 hfm
      go_wp2_with fail
      go_roundw
      case rel =>
        refine ⟨_, cnt1, acc + ng, _, _, by rw [hD]; exact HRG2.out, by go_num, HSUM.out, HST2.out, fun key hk => ?_, fun key hk => by rw [upd_other _ _ (fun e => hk (by rw [e]; exact hxl))]; exact HVB.out key hk, HO2.out, fun k hk => ?_, by omega⟩
        · by_cases e : key = x
          · rw [e, upd_same, HVX.out]
            have hself : (Lit.string x.data.toList).sameKey (.string x.data.toList) = true := WideAt.sameKey_self (show WideAt.IsKeyLit (.string x.data.toList) from trivial)
            rw [hself]
            simp
          · rw [upd_other _ _ e, HV.out key hk]
            have hsk : (Lit.string key.data.toList).sameKey (.string x.data.toList) = false := by
              cases hs : (Lit.string key.data.toList).sameKey (.string x.data.toList)
              · rfl
              · exact absurd (WideAt.sameKey_eq hs) (string_ne e)
            rw [hsk]
            simp
        · rcases hk with rfl | rfl | ⟨k2, c2, hc2, hf⟩
          · exact .inl (.inl rfl)
          · exact .inl (.inr (.inl rfl))
          · by_cases e : k2 = x
            · rw [e, upd_same] at hc2
              cases hc2
              rcases HFT.out k hf with hf' | hge
              · exact HTER.out k (.inr (.inr ⟨x, ch, HCH.out, hf'⟩))
              · exact .inr (by omega)
            · rw [upd_other _ _ e] at hc2
              exact HTER.out k (.inr (.inr ⟨k2, c2, hc2, hf⟩))
      case measure => rw [HRG2.out.left_eq, HRG0.out.left_eq]; exact hlt

end Go.Proofs.Ytnonnencdhogiaa
