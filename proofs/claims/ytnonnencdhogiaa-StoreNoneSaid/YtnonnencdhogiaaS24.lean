/-
  Layer 14's law: Scanned.
-/
import Derived.Test.YtnonnencdhogiaaS23
namespace Go.Proofs.Ytnonnencdhogiaa
open Go.RowKit Go.Shelf
attribute [local go_sem] Oper.semAt_some

def PairsPost (L : List (ByteArray × List UInt8)) (w : World) (e : Ending) (w' : World) : Prop := ∃ v rs, e = .returned v ∧ PRows w' w.heap.size v rs ∧ rs.map PRow.plain = L ∧ Only NoneOf w w'

theorem func_nil62 (u : World) (f : Nat) (c : Array Value) : (binOp .eql 62 (.func (.func f) #[] c) .nilFunc).run Try.prog u = .ok (.bool false) u := by kernel_rfl

set_option maxRecDepth 100000 in
set_option maxHeartbeats 4000000 in
theorem scanned_any (w : World) (p : Option Addr) (fr tt : ByteArray) (st : Int) (xs : List (ByteArray × List UInt8)) (hfew : xs.length * 40 ≤ 140737488355328)
    (hit : ∀ W b, Only NoneOf w W → W.cell? ⟨b, 0, none⟩ = some (.pointer p) → W.cell? ⟨b + 1, 0, none⟩ = some (.string fr) → W.cell? ⟨b + 2, 0, none⟩ = some (.string tt) → W.cell? ⟨b + 3, 0, none⟩ = some (.int .i64 st) → IterM Try.prog 56 (scanFn b) PairEnc xs NoneOf W) :
    Calls Try.prog 22 #[.pointer p, .string fr, .string tt, .int .i64 st] w (PairsPost xs w) := by
  have HIT := Lib.hid hit
  have hfn := func_nil62
  have HSC := fun u => Lib.hid (scan_is u p fr tt st)
  clear hit
  refine callsIn_wide (n := 1).1 (callsIn_of_wp_marks Try.func22 rfl trivial ?_ rfl)
  simp only [Try.ntmps22, List.size_toArray, List.length_cons, List.length_nil, Nat.reduceAdd, Nat.reduceSub, Array.replicate_succ, Array.replicate_zero, List.push_toArray, List.append_toArray, List.nil_append, List.cons_append]
  gi_wp2_with fail
  refine ⟨trivial, (callsIn_wide.2 (HSC _).out).mono ?_⟩
  rintro e w2 ⟨rfl, rfl⟩
  gi_wp2_with fail
  have hb := Blk.new w 30 #[.slice none 0 0]
  have hO1 : Only NoneOf w (w.alloc (.cells #[.slice none 0 0] 30)) := (Only.refl _ _).alloc _
  have hW2 : Only NoneOf w (scanBoxes (w.alloc (.cells #[.slice none 0 0] 30)) (.pointer p) fr tt st) := (((hO1.alloc _).alloc _).alloc _).alloc _
  have hob : Blk (scanBoxes (w.alloc (.cells #[.slice none 0 0] 30)) (.pointer p) fr tt st) w.heap.size 30 #[.slice none 0 0] := (((hb.alloc _).alloc _).alloc _).alloc _
  have hz2 : (scanBoxes (w.alloc (.cells #[.slice none 0 0] 30)) (.pointer p) fr tt st).heap.size = w.heap.size + 5 := by simp [scanBoxes]
  have k0 : (scanBoxes (w.alloc (.cells #[.slice none 0 0] 30)) (.pointer p) fr tt st).cell? ⟨w.heap.size + 1, 0, none⟩ = some (.pointer p) := ((((Blk.new' (w.alloc (.cells #[.slice none 0 0] 30)) 24 #[.pointer p] (n := w.heap.size + 1) (by simp)).alloc _).alloc _).alloc _).cellv 0 rfl
  have k1 : (scanBoxes (w.alloc (.cells #[.slice none 0 0] 30)) (.pointer p) fr tt st).cell? ⟨w.heap.size + 1 + 1, 0, none⟩ = some (.string fr) := (((Blk.new' ((w.alloc (.cells #[.slice none 0 0] 30)).alloc (.cells #[.pointer p] 24)) 9 #[.string fr] (n := w.heap.size + 1 + 1) (by simp)).alloc _).alloc _).cellv 0 rfl
  have k2 : (scanBoxes (w.alloc (.cells #[.slice none 0 0] 30)) (.pointer p) fr tt st).cell? ⟨w.heap.size + 1 + 2, 0, none⟩ = some (.string tt) := ((Blk.new' (((w.alloc (.cells #[.slice none 0 0] 30)).alloc (.cells #[.pointer p] 24)).alloc (.cells #[.string fr] 9)) 9 #[.string tt] (n := w.heap.size + 1 + 2) (by simp)).alloc _).cellv 0 rfl
  have k3 : (scanBoxes (w.alloc (.cells #[.slice none 0 0] 30)) (.pointer p) fr tt st).cell? ⟨w.heap.size + 1 + 3, 0, none⟩ = some (.int .i64 st) := (Blk.new' ((((w.alloc (.cells #[.slice none 0 0] 30)).alloc (.cells #[.pointer p] 24)).alloc (.cells #[.string fr] 9)).alloc (.cells #[.string tt] 9)) 3 #[.int .i64 st] (n := w.heap.size + 1 + 3) (by simp)).cellv 0 rfl
  obtain ⟨i0, hi, hz0, hz1, hz3⟩ := info_parts info48
  generalize hw2 : scanBoxes (w.alloc (.cells #[.slice none 0 0] 30)) (.pointer p) fr tt st = w2 at *
  clear hw2 hb hO1
  refine range_ownM (α := ByteArray × List UInt8) (xs := xs) (Enc := PairEnc) (Kp := NoneOf) (Nat.le_refl 1) rfl (fun _ _ => by kernel_rfl)
    (fun Wn hn _ => HIT.out Wn (w.heap.size + 1) (hW2.trans hn) ((hn.cell (p := ⟨w.heap.size + 1, 0, none⟩) (by show w.heap.size + 1 < _; omega) (fun h => h)).trans k0) ((hn.cell (p := ⟨w.heap.size + 1 + 1, 0, none⟩) (by show w.heap.size + 1 + 1 < _; omega) (fun h => h)).trans k1) ((hn.cell (p := ⟨w.heap.size + 1 + 2, 0, none⟩) (by show w.heap.size + 1 + 2 < _; omega) (fun h => h)).trans k2) ((hn.cell (p := ⟨w.heap.size + 1 + 3, 0, none⟩) (by show w.heap.size + 1 + 3 < _; omega) (fun h => h)).trans k3))
    (fun n x args A h => by obtain ⟨v, rfl, _⟩ := h; rfl) (fun {k} _ hh => hh)
    (fun E pre B => w2.heap.size + 2 ≤ E ∧ Only NoneOf w B ∧ ∃ v rs, Blk B w.heap.size 30 #[v] ∧ PRows B (w.heap.size + 1) v rs ∧ rs.map PRow.plain = pre ∧ ∀ k, PBlocks v rs k → E ≤ k)
    (fun cd E pre B => False)
    (fun E pre A B hs ho => by
      obtain ⟨h1, h3, v, rs, h5, h6, h7, h8⟩ := hs
      exact ⟨h1, h3.step ho (fun k hk hh => by have := hh.1; omega), v, rs, h5.only ho (fun hh => by have := hh.1; omega), h6.only ho (fun k hk hh => by have := h8 k hk; have := hh.2; omega), h7, h8⟩)
    (fun cd E pre A B hs ho => hs)
    (fun E B hE hB ho => ⟨hE, hW2.trans ho, _, [], hob.only ho (fun h => h), BRows.nil _ _, rfl, fun k hk => by
      rcases hk with hk | ⟨r, hr, _⟩
      · simp [Value.ownBlock] at hk
      · cases hr⟩)
    (fun n x a' B => w2.heap.size + 2 ≤ n ∧ ∃ b v, n ≤ b ∧ Blk B b 48 #[.string x.1, v] ∧ RowB B n v x.2 ∧ v.ownBlock ≠ some b ∧ a' = { tmps := #[.pointer p, .string fr, .string tt, .int .i64 st, undef, undef, undef, undef, .slice none 0 0, .pointer (some ⟨w.heap.size, 0, none⟩), .func (.func 56) #[] (scanFn (w.heap.size + 1)), .pointer (some ⟨b, 0, none⟩), .pointer p, .string fr, .string tt, .int .i64 st, .func (.func 56) #[] (scanFn (w.heap.size + 1)), .func (.func 56) #[] (scanFn (w.heap.size + 1)), .bool false, undef, undef, undef, .func (.func 56) #[] (scanFn (w.heap.size + 1)), .agg #[.string x.1, v], undef, undef, undef, undef, undef], defers := [] })
    (fun n x a' A B hs ho => by
      obtain ⟨hn, b, v, h1, h2, h3, h4, h5⟩ := hs
      exact ⟨hn, b, v, h1, h2.only ho (by omega), h3.only ho (fun g hg e => by have := (ownsRow_lt h3 hg).1; omega), h4, h5⟩)
    ?assign ?body ?done ?stop
  case assign =>
    rintro ⟨key, bs⟩ args A0 Wa K hx hsz hA0 ⟨v, rfl, hv⟩ hK
    obtain ⟨Av, cv, rfl⟩ := ownsRow_slice hv
    simp only at hv ⊢
    gi_wp2
    exact hK _ _ ((Only.refl _ _).alloc _) ⟨hsz, Wa.heap.size, _, hA0.size, Blk.new _ _ _, hv.keep ((Only.refl _ _).alloc _), fun e => by have := (ownsRow_lt hv e).2; omega, rfl⟩
  case body =>
    rintro E pre ⟨key, bs⟩ a' A0 Wb hloop hE hEA hpre ⟨_, hO0, v, rs, hV0, hR0, hpl, hg⟩ hoAW ⟨hn, b, vv, hb, hB, hvv, hne, rfl⟩
    have hV := hV0.only hoAW (fun hh => by have := hh.1; omega)
    have hR := hR0.only hoAW (fun k hk hh => by have := hg k hk; have := hh.2; omega)
    have hO := hO0.step hoAW (fun k hk hh => by have := hh.1; omega)
    have hlt : ∀ k, PBlocks v rs k → k < A0.heap.size := fun k hk => (hR0.lt hk).2
    have hsz := hoAW.size
    have hpl1 : rs.length + 1 ≤ xs.length := by
      have h1 := hpre.length_le
      have h2 := congrArg List.length hpl
      simp only [List.length_append, List.length_cons, List.length_nil, List.length_map] at h1 h2
      omega
    obtain ⟨Av, cv, rfl⟩ := ownsRow_slice hvv
    obtain ⟨A, cq, rfl⟩ := ownsRow_slice hR.own
    simp only at hB hvv
    have V0 := hV.cellv 0 rfl
    have V1 := hV.free 0
    have hVlt := hV.lt
    have b0 : Wb.cell? ⟨b, 0, none⟩ = some (.string key) := hB.cellv 0 rfl
    have b1 : Wb.cell? ⟨b, 1, none⟩ = some (.slice Av bs.length cv) := hB.cellv 1 rfl
    have hbw := World.block_lt_of_cell? _ _ b0
    have HN := Lib.hid (Blk.new Wb 48 #[.string key, .slice Av bs.length cv])
    have HRA := Lib.hid (hR.keep ((Only.refl _ Wb).alloc (.cells #[.string key, .slice Av bs.length cv] 48)))
    have HVA := Lib.hid (hV.alloc (.cells #[.string key, .slice Av bs.length cv] 48))
    have HVV := Lib.hid (hvv.keep ((Only.refl _ Wb).alloc (.cells #[.string key, .slice Av bs.length cv] 48)))
    have hnv : (Value.slice A rs.length cq).ownBlock ≠ some w.heap.size := fun e => by have := (ownsRow_lt hR.own e).1; omega
    have HZ2 := Lib.hid hz2
    have hz3' : w.heap.size + 5 ≤ w2.heap.size := by omega
    clear hz2
    gi_wp2_with (gi_at_builtin; refine wpListIn_append_own_at _ rfl (.tmp 24) (.tmp 26) 30 rfl (w.heap.size + 1) 48 i0 _ 2 40 Try.underlying30 hi hz0 hz1 hz3 rfl (by decide) (.slice A rs.length cq) rs.length (rs.flatMap PRow.cells) rfl HRA.out.own ⟨Wb.heap.size, 0, none⟩ 1 1 [.string key, .slice Av bs.length cv] rfl rfl (World.news_of_block HN.out) (by simp [Value.oneCell']) (by unfold maxLen; omega) (by omega) (by simp; omega) ?_; intro v' w3 hown' hgr _ hat; obtain ⟨g', cap', rfl⟩ := ownsRow_succ hown'; have hV3 := HVA.out.only (only_grown hgr) hnv; have x0 := hV3.cellv 0 rfl; have x1 := hV3.free 0)
    have hz2 := HZ2.out
    have hsn := BRows.snoc (r := (⟨key, .slice Av bs.length cv, bs⟩ : PRow)) HRA.out (only_grown hgr) hown' hat (HVV.out.base (by omega)) (fun g hg' hb' => by have := (ownsRow_lt HVV.out hg').1; have := hlt g hb'; omega)
    have hvb := fun k hk => bblocks_snoc (val := PRow.val) (v := .slice A rs.length cq) (v' := .slice (some ⟨g', 0, none⟩) (rs.length + 1) cap') (rs := rs) (r := (⟨key, .slice Av bs.length cv, bs⟩ : PRow)) (k := k) hat hk
    have hE' : ∀ k, PBlocks (.slice (some ⟨g', 0, none⟩) (rs.length + 1) cap') (rs ++ [⟨key, .slice Av bs.length cv, bs⟩]) k → E ≤ k := fun k hk => by
      rcases hvb k hk with h | h | h
      · exact hg k h
      · have := (ownsRow_lt HVV.out h).1; omega
      · simp at h; omega
    have hput : Only (· = w.heap.size) w3 (w3.setCell ⟨w.heap.size, 0, none⟩ (.slice (some ⟨g', 0, none⟩) (rs.length + 1) cap')) := (Only.refl (· = w.heap.size) w3).put (.inl rfl) _
    have hgr' : Only (fun k => (Value.slice A rs.length cq).ownBlock = some k) Wb w3 := Only.step ((Only.refl _ Wb).alloc _) (only_grown hgr) (fun _ _ h => h)
    have fin1 : Only (Theirs w2.heap.size E NoneOf) Wb (w3.setCell ⟨w.heap.size, 0, none⟩ (.slice (some ⟨g', 0, none⟩) (rs.length + 1) cap')) := Only.put (hgr'.mono (fun k _ e => .inr (hg k (.inl e)))) (.inl (.inl ⟨by simp; omega, fun h => h⟩)) _
    have fin2 : Only NoneOf w (w3.setCell ⟨w.heap.size, 0, none⟩ (.slice (some ⟨g', 0, none⟩) (rs.length + 1) cap')) := (hO.step hgr' (fun k hk e => by have := hg k (.inl e); omega)).step hput (fun k hk e => by omega)
    exact ⟨fin1, by omega, fin2, _, hV3.put 0 _, _, hsn.only hput (fun k hk e => by have := (hsn.lt hk).1; omega), by rw [List.map_append, hpl]; rfl, hE'⟩
  case done =>
    rintro E Wd hE ⟨_, hO, v, rs, hV, hR, hpl, hg⟩ hD
    have V0 := hV.cellv 0 rfl
    gi_wp2
    refine ⟨by simp, .inl ⟨_, _, rfl, run_takeDeferred hD, ?_⟩⟩
    have hP : Only (· = w2.heap.size) Wd (Wd.putObj w2.heap.size (.deferred none)) := Only.putObj (S := (· = w2.heap.size)) (Only.refl _ _) (.inl rfl) _
    exact ⟨_, results_tmp rfl _ _ _, v, rs, rfl, (hR.only hP (fun k hk e => by have := hg k hk; omega)).base (by omega), hpl, hO.step hP (fun k hk e => by omega)⟩
  case stop =>
    rintro E cd pre Wd hE hpre h
    exact h.elim

theorem scannedR (w : World) (s N : Nat) (T U : Nat → Prop) (R : List KV) (h : StoR w s T U R N) (hN : N ≤ NMAX) (fr tt : ByteArray) (st : Int) :
    Calls Try.prog 22 #[.pointer (some ⟨s, 0, none⟩), .string fr, .string tt, .int .i64 st] w (PairsPost (scanR R fr tt st) w) := by
  refine scanned_any w _ fr tt st _ ?_ (fun W b ho h0 h1 h2 h3 => scanIter W b s N T U R fr tt st (h.keep ho) hN h0 h1 h2 h3)
  obtain ⟨m, n, D, C, h1, h2, h3, h4, h5⟩ := h
  have h6 := keysR_length R
  have h7 : (scanR R fr tt st).length ≤ (keysR R).length := List.length_filterMap_le _ _
  unfold NMAX at hN
  omega

end Go.Proofs.Ytnonnencdhogiaa
