/-
  Texts of this proof, laid together: S38, S39, S40, S41, S42, S43, S44.
-/
import Derived.Test.YtnonnencdhogiaaM5
import Derived.JoinedCond
/-
  Layer 14's law StoreEarlier walked.
-/
namespace Go.Proofs.Ytnonnencdhogiaa
open Go.RowKit

/-- two stores beside one another, and a call's row -/
structure QG (w0 : World) (s t : Nat) (T1 T2 : Nat → Prop) (R1 R2 : List KV) (N b : Nat) (row : Array Value) (w : World) : Prop where
  one : StoR w s T1 T2 R1 N
  two : StoR w t T2 T1 R2 N
  only : Only NoneOf w0 w
  row : Blk w b 29 row
theorem QG.keep {w0 : World} {s t : Nat} {T1 T2 : Nat → Prop} {R1 R2 : List KV} {N b : Nat} {row : Array Value} {w w' : World} (h : QG w0 s t T1 T2 R1 R2 N b row w) (ho : Only NoneOf w w') : QG w0 s t T1 T2 R1 R2 N b row w' :=
  ⟨h.one.keep ho, h.two.keep ho, h.only.trans ho, h.row.only ho (fun h => h)⟩
theorem quiet_tell {u : World} {s N : Nat} {T U : Nat → Prop} {R : List KV} (h : StoR u s T U R N) (x : Stp) (A : Option Addr) (cc : Nat) (hN : N < NMAX) (hk : x.kind = 1 ∨ x.kind = 3) (hkey : x.key.size ≤ maxLen) (hby : BytesAt u A x.bs) :
    Calls Try.prog 17 #[.pointer (some ⟨s, 0, none⟩), .agg (stepC x.kind x.key x.st (.slice A x.bs.length cc) x.dead x.tt)] u fun e w' => ∃ v, e = .returned v ∧ TellV 0 (ansR R x) v w' ∧ Only NoneOf u w' :=
  (callq u s N T U R h hN x A cc hk hkey hby).mono fun _ _ ⟨cs, he, hst, ho⟩ => ⟨_, he, ⟨cs, rfl, hst.low (Nat.zero_le _)⟩, ho⟩

/-- the values of StoreEarlier's question -/
def EarT (x : Stp) (vst : Int) (A : Option Addr) (c s t b10 b4 : Nat) (R1 R2 : List KV) (B1 B2 B3 g : Bool) : Nat → Value → World → Prop
  | 0, v, _ => v = .pointer (some ⟨b10, 1, none⟩)
  | 1, v, _ => v = .pointer (some ⟨b10, 2, none⟩)
  | 2, v, _ => v = .int .i64 x.st
  | 3, v, _ => v = .pointer (some ⟨b4, 1, none⟩)
  | 4, v, _ => v = .int .i64 vst
  | 5, v, _ => v = .bool B1
  | 6, v, _ => v = .bool B1
  | 7, v, _ => v = cond B1 (.pointer (some ⟨b10, 0, none⟩)) undef
  | 8, v, _ => v = cond B1 (.int .i64 x.kind) undef
  | 9, v, _ => v = cond B1 (.bool B2) undef
  | 10, v, _ => v = cond B1 (.bool B2) undef
  | 11, v, _ => v = cond (B1 && !B2) (.pointer (some ⟨b10, 0, none⟩)) undef
  | 12, v, _ => v = cond (B1 && !B2) (.int .i64 x.kind) undef
  | 13, v, _ => v = cond (B1 && !B2) (.bool B3) undef
  | 14, v, _ => v = cond B1 (.bool (B2 || B3)) undef
  | 15, v, _ => v = .bool g
  | 16, v, _ => v = .bool g
  | 17, v, _ => v = cond g (.pointer (some ⟨s, 0, none⟩)) undef
  | 18, v, _ => v = cond g (.agg (stepC x.kind x.key x.st (.slice A x.bs.length c) x.dead x.tt)) undef
  | 19, v, w => cond g (TellV 0 (ansR R1 x) v w) (v = undef)
  | 20, v, _ => v = cond g (.pointer (some ⟨t, 0, none⟩)) undef
  | 21, v, _ => v = cond g (.agg (stepC x.kind x.key x.st (.slice A x.bs.length c) x.dead x.tt)) undef
  | 22, v, w => cond g (TellV 0 (ansR R2 x) v w) (v = undef)
  | 23, v, _ => v = cond g (.bool true) undef
  | 24, v, _ => v = cond g (.bool false) undef
  | 25, v, _ => v = .bool false
  | _, _, _ => True
theorem EarT_keep (x : Stp) (vst : Int) (A : Option Addr) (c s t b10 b4 : Nat) (R1 R2 : List KV) (B1 B2 B3 g : Bool) (i : Nat) (v : Value) (w w' : World) (h : EarT x vst A c s t b10 b4 R1 R2 B1 B2 B3 g i v w) (ho : Only NoneOf w w') : EarT x vst A c s t b10 b4 R1 R2 B1 B2 B3 g i v w' := by
  have tell : ∀ R, cond g (TellV 0 (ansR R x) v w) (v = undef) → cond g (TellV 0 (ansR R x) v w') (v = undef) := fun R h => by
    cases g
    · exact h
    · obtain ⟨cs, h1, h2⟩ := h
      exact ⟨cs, h1, h2.keep ho⟩
  match i, h with
  | 0, h | 1, h | 2, h | 3, h | 4, h | 5, h | 6, h | 7, h | 8, h | 9, h | 10, h | 11, h | 12, h | 13, h | 14, h | 15, h | 16, h | 17, h | 18, h | 20, h | 21, h | 23, h | 24, h | 25, h => exact h
  | 19, h => exact tell _ h
  | 22, h => exact tell _ h
  | _ + 26, _ => exact trivial

/-- the loop over what is asked -/
def EarRel (w0 : World) (s t : Nat) (T1 T2 : Nat → Prop) (R1 R2 : List KV) (N n : Nat) (v : Value) (wr : World) : Prop := ∃ i : Nat, v = .int .i64 i ∧ i ≤ n ∧ StoR wr s T1 T2 R1 N ∧ StoR wr t T2 T1 R2 N ∧ Only NoneOf w0 wr

set_option maxRecDepth 100000 in
set_option maxHeartbeats 8000000 in
theorem earlier_walk (A : Option Addr) (cap : Nat) (vs : List KV) (key : ByteArray) (st : Int) (Av : Option Addr) (cv : Nat) (bs : List UInt8) (dead : Bool) (A3 : Option Addr) (cap3 : Nat) (xs : List Stp) (w : World)
    (hV : VersAt w A vs) (hfv : vs.length ≤ 2513169434843) (hby : BytesAt w Av bs) (hX : StepsAt w A3 xs) (hfx : xs.length ≤ 1759218604390) :
    Calls Try.prog 6 #[.slice A vs.length cap, .agg (verC key st (.slice Av bs.length cv) dead), .slice A3 xs.length cap3] w (Ans (.bool true) w) := by
  have HV := Lib.hid hV
  have HX := Lib.hid hX
  have HBY := Lib.hid hby
  obtain ⟨n, hn⟩ : ∃ n, xs.length = n := ⟨_, rfl⟩
  have HN := Lib.hid hn
  rw [hn] at hfx ⊢
  obtain ⟨nv, hnv⟩ : ∃ nv, vs.length = nv := ⟨_, rfl⟩
  have HNV := Lib.hid hnv
  rw [hnv] at hfv ⊢
  obtain ⟨nb, hnb⟩ : ∃ nb, bs.length = nb := ⟨_, rfl⟩
  have HNB := Lib.hid hnb
  rw [hnb] at ⊢
  clear hV hX hby hn hnv hnb
  have HFX := fun u => Lib.hid (fixed_is u)
  go_enter Try.func6, Try.ntmps6
  go_wp2_with fail
  refine (HFX _).out.mono ?_; rintro e w1 ⟨rfl, ho1⟩
  have HO1 := Lib.hid (((Only.refl NoneOf w).alloc (.cells (verC key st (.slice Av nb cv) dead) 27)).trans ho1)
  have HB1 := Lib.hid ((Blk.new w 27 (verC key st (.slice Av nb cv) dead)).only ho1 (fun h => h))
  have HF1 := filled_is w1 A cap vs NoneOf (HV.out.keep HO1.out) (by rw [HNV.out]; exact hfv) (fun _ h => h.elim)
  rw [HNV.out] at HF1
  have HF1 := Lib.hid HF1
  clear ho1
  go_wp2_with fail
  refine HF1.out.mono ?_; rintro e w2 ⟨s, T1, rfl, h1, ho2, ht1⟩
  have HF2 := filled_is w2 A cap vs T1 (HV.out.keep (HO1.out.trans ho2)) (by rw [HNV.out]; exact hfv) (fun k hk => h1.lt hk)
  rw [HNV.out] at HF2
  have HF2 := Lib.hid HF2
  have H1 := Lib.hid h1
  have HO2 := Lib.hid ho2
  have HT1 := Lib.hid ht1
  clear h1 ho2 ht1 HF1
  go_wp2_with fail
  refine HF2.out.mono ?_; rintro e w3 ⟨t, T2, rfl, h2, ho3, ht2⟩
  have HTW := Lib.hid (show TwoSt w1 s t (fillR vs) (fillR vs) nv w3 from by
    rw [← HNV.out]
    exact ⟨T1, T2, H1.out.other ho3 (fun _ h => h.elim) (fun k hk => ⟨h2.lt hk, .inr (ht2 k hk)⟩), h2, HO2.out.trans ho3, HT1.out, fun k hk => Nat.le_trans HO2.out.size (ht2 k hk)⟩)
  have HO3 := Lib.hid (HO2.out.trans ho3)
  have HB3 := Lib.hid (HB1.out.only HO3.out (fun h => h))
  have c0 := HB3.out.cellv 0 rfl
  have c1 := HB3.out.cellv 1 rfl
  have c2 := HB3.out.cellv 2 rfl
  have c3 := HB3.out.cellv 3 rfl
  have HAP := Lib.hid (two_apply HTW.out (by unfold NMAX; omega) key st Av nb cv dead bs HNB.out (HBY.out.keep (HO1.out.trans HO3.out)))
  clear h2 ho3 ht2 HF2 H1 HT1 HO2
  go_wp2_with fail
  refine HAP.out.mono ?_; rintro e w4 ⟨rfl, T1', T2', h1, h2, h3, h4, h5⟩
  have H1 := Lib.hid h1
  have H2 := Lib.hid h2
  have HO4 := Lib.hid (HO1.out.trans h3)
  have HB4 := Lib.hid (HB1.out.only h3 (fun h => h))
  clear h1 h2 h3 h4 h5 c0 c1 c2 c3 HTW HAP HB3 HO3
  go_wp2_with fail
  go_loopw [22] (fun v wr => EarRel w4 s t T1' T2' (afterR (fillR vs) key ⟨st, bs, dead⟩) (fillR vs) (nv + 1) n v wr) (fun v _ => n - (intOf v).toNat)
  case atStart => exact ⟨0, rfl, by omega, H1.out, H2.out, Only.refl _ _⟩
  case round =>
    obtain ⟨i, rfl, hi, h1, h2, hO⟩ := hrel
    have HO := Lib.hid hO
    have HS1 := Lib.hid h1
    have HS2 := Lib.hid h2
    clear hO h1 h2
    by_cases hlt : i < n
    · have hx : xs[i]? = some (xs[i]'(by rw [HN.out]; exact hlt)) := List.getElem?_eq_getElem _
      generalize xs[i]'(by rw [HN.out]; exact hlt) = x at hx
      obtain ⟨g, off, Ab, cb, rfl, hg, d0, d1, d2, d3, d4, d5, hbx, hks⟩ := (HX.out.keep (HO4.out.trans HO.out)) i x hx
      have HBX := Lib.hid hbx
      have hal : Only NoneOf wr (wr.alloc (.cells (stepC x.kind x.key x.st (.slice Ab x.bs.length cb) x.dead x.tt) 29)) := (Only.refl _ _).alloc _
      have HG0 := Lib.hid (show QG wr s t T1' T2' (afterR (fillR vs) key ⟨st, bs, dead⟩) (fillR vs) (nv + 1) wr.heap.size (stepC x.kind x.key x.st (.slice Ab x.bs.length cb) x.dead x.tt) (wr.alloc (.cells (stepC x.kind x.key x.st (.slice Ab x.bs.length cb) x.dead x.tt) 29)) from
        ⟨HS1.out.keep hal, HS2.out.keep hal, hal, Blk.new _ _ _⟩)
      have HBW := Lib.hid (HB4.out.only HO.out (fun h => h))
      have HF := Lib.hid (ansR_fit HS1.out (by unfold NMAX; omega) x)
      have hend : ∀ u, QG wr s t T1' T2' (afterR (fillR vs) key ⟨st, bs, dead⟩) (fillR vs) (nv + 1) wr.heap.size (stepC x.kind x.key x.st (.slice Ab x.bs.length cb) x.dead x.tt) u →
          EarRel w4 s t T1' T2' (afterR (fillR vs) key ⟨st, bs, dead⟩) (fillR vs) (nv + 1) n (.int .i64 ((i : Int) + 1)) u := fun u h => ⟨i + 1, by rw [show ((i + 1 : Nat) : Int) = (i : Int) + 1 by omega], by omega, h.one, h.two, HO.out.trans h.only⟩
      have HEND := Lib.hid hend
      clear hbx hal hend hx
      cases q1 : decide (x.st < st)
      · go_upto_region 8 with (fail)
        refine wp_region_head2 26 53 [6, 10, 16] (fun g => match g with | 6 => some false | 16 => some false | _ => none) (fun _ => none) NoneOf (fun _ => QG wr s t T1' T2' (afterR (fillR vs) key ⟨st, bs, dead⟩) (fillR vs) (nv + 1) wr.heap.size (stepC x.kind x.key x.st (.slice Ab x.bs.length cb) x.dead x.tt)) (EarT x st Ab cb s t wr.heap.size w.heap.size (afterR (fillR vs) key ⟨st, bs, dead⟩) (fillR vs) false false false false) rfl (by kernel_rfl) (by kernel_rfl) ?hskip ?hgv (EarT_keep _ _ _ _ _ _ _ _ _ _ _ _ _ _) (HG0.out.keep ((Only.refl _ _).drew)) ?hstep ?hend
        case hskip =>
          intro i o hi ho hw k
          have : i = 0 ∨ i = 1 ∨ i = 2 ∨ i = 3 ∨ i = 4 ∨ i = 5 ∨ i = 6 ∨ i = 7 ∨ i = 8 ∨ i = 9 ∨ i = 10 ∨ i = 11 ∨ i = 12 ∨ i = 13 ∨ i = 14 ∨ i = 15 ∨ i = 16 ∨ i = 17 ∨ i = 18 ∨ i = 19 ∨ i = 20 ∨ i = 21 ∨ i = 22 ∨ i = 23 ∨ i = 24 ∨ i = 25 := by omega
          rcases this with rfl | rfl | rfl | rfl | rfl | rfl | rfl | rfl | rfl | rfl | rfl | rfl | rfl | rfl | rfl | rfl | rfl | rfl | rfl | rfl | rfl | rfl | rfl | rfl | rfl | rfl
          · rfl
          · rfl
          · rfl
          · rfl
          · rfl
          · rfl
          · rfl
          · rfl
          · rfl
          · rfl
          · rfl
          · rfl
          · rfl
          · rfl
          · rfl
          · rfl
          · rfl
          · rfl
          · rfl
          · rfl
          · rfl
          · rfl
          · rfl
          · rfl
          · rfl
          · rfl
        case hgv =>
          intro g hg v w h
          have : g = 6 ∨ g = 10 ∨ g = 16 := by simpa using hg
          rcases this with rfl | rfl | rfl
          · obtain rfl : v = .bool false := h; rfl
          · obtain rfl : v = undef := h; rfl
          · obtain rfl : v = .bool false := h; rfl
        case hstep =>
          intro i o hi ho a u k hk hik hs ht
          have e7 : a.tmps.getD 7 undef = .pointer (some ⟨s, 0, none⟩) := hs 7 (of_decide_eq_true (by kernel_rfl))
          have e8 : a.tmps.getD 8 undef = .pointer (some ⟨t, 0, none⟩) := hs 8 (of_decide_eq_true (by kernel_rfl))
          have e10 : a.tmps.getD 10 undef = .pointer (some ⟨wr.heap.size, 0, none⟩) := hs 10 (of_decide_eq_true (by kernel_rfl))
          have e4 : a.tmps.getD 4 undef = .pointer (some ⟨w.heap.size, 0, none⟩) := hs 4 (of_decide_eq_true (by kernel_rfl))
          have F4 := HBW.out.only hk.only (fun h => h)
          have d0 := hk.row.cellv 0 rfl
          have d2 := hk.row.cellv 2 rfl
          have c1 := F4.cellv 1 rfl
          have : i = 0 ∨ i = 1 ∨ i = 2 ∨ i = 3 ∨ i = 4 ∨ i = 5 ∨ i = 6 ∨ i = 7 ∨ i = 8 ∨ i = 9 ∨ i = 10 ∨ i = 11 ∨ i = 12 ∨ i = 13 ∨ i = 14 ∨ i = 15 ∨ i = 16 ∨ i = 17 ∨ i = 18 ∨ i = 19 ∨ i = 20 ∨ i = 21 ∨ i = 22 ∨ i = 23 ∨ i = 24 ∨ i = 25 := by omega
          rcases this with rfl | rfl | rfl | rfl | rfl | rfl | rfl | rfl | rfl | rfl | rfl | rfl | rfl | rfl | rfl | rfl | rfl | rfl | rfl | rfl | rfl | rfl | rfl | rfl | rfl | rfl
          · obtain rfl := Option.some.inj (ho : some _ = some o)
            rw [if_pos (by decide)]
            exact left2_value (.pointer (some ⟨wr.heap.size, 1, none⟩)) (by simp [go_sem, e10]) rfl rfl hk
          · obtain rfl := Option.some.inj (ho : some _ = some o)
            rw [if_pos (by decide)]
            have s0 : a.tmps.getD 26 undef = .pointer (some ⟨wr.heap.size, 1, none⟩) := ht 0 (by omega) (by kernel_rfl)
            exact left2_value (.pointer (some ⟨wr.heap.size, 2, none⟩)) (by simp [go_sem, s0]) rfl rfl hk
          · obtain rfl := Option.some.inj (ho : some _ = some o)
            rw [if_pos (by decide)]
            have s1 : a.tmps.getD 27 undef = .pointer (some ⟨wr.heap.size, 2, none⟩) := ht 1 (by omega) (by kernel_rfl)
            exact left2_value (.int .i64 x.st) (by simp [go_sem, s1, d2]) rfl rfl hk
          · obtain rfl := Option.some.inj (ho : some _ = some o)
            rw [if_pos (by decide)]
            exact left2_value (.pointer (some ⟨w.heap.size, 1, none⟩)) (by simp [go_sem, e4]) rfl rfl hk
          · obtain rfl := Option.some.inj (ho : some _ = some o)
            rw [if_pos (by decide)]
            have s3 : a.tmps.getD 29 undef = .pointer (some ⟨w.heap.size, 1, none⟩) := ht 3 (by omega) (by kernel_rfl)
            exact left2_value (.int .i64 st) (by simp [go_sem, s3, c1]) rfl rfl hk
          · obtain rfl := Option.some.inj (ho : some _ = some o)
            rw [if_pos (by decide)]
            have s2 : a.tmps.getD 28 undef = .int .i64 x.st := ht 2 (by omega) (by kernel_rfl)
            have s4 : a.tmps.getD 30 undef = .int .i64 st := ht 4 (by omega) (by kernel_rfl)
            exact left2_value (.bool false) (by simp [go_sem, s2, s4, q1]) rfl rfl hk
          · obtain rfl := Option.some.inj (ho : some _ = some o)
            rw [if_pos (by decide)]
            have s5 : a.tmps.getD 31 undef = .bool false := ht 5 (by omega) (by kernel_rfl)
            exact left2_value (.bool false) (by simp [go_sem, s5]) rfl rfl hk
          · obtain rfl := Option.some.inj (ho : some _ = some o)
            rw [if_neg (by decide)]
            exact rfl
          · obtain rfl := Option.some.inj (ho : some _ = some o)
            rw [if_neg (by decide)]
            exact rfl
          · obtain rfl := Option.some.inj (ho : some _ = some o)
            rw [if_neg (by decide)]
            exact rfl
          · obtain rfl := Option.some.inj (ho : some _ = some o)
            rw [if_neg (by decide)]
            exact rfl
          · obtain rfl := Option.some.inj (ho : some _ = some o)
            rw [if_neg (by decide)]
            exact rfl
          · obtain rfl := Option.some.inj (ho : some _ = some o)
            rw [if_neg (by decide)]
            exact rfl
          · obtain rfl := Option.some.inj (ho : some _ = some o)
            rw [if_neg (by decide)]
            exact rfl
          · obtain rfl := Option.some.inj (ho : some _ = some o)
            rw [if_neg (by decide)]
            exact rfl
          · obtain rfl := Option.some.inj (ho : some _ = some o)
            rw [if_pos (by decide)]
            have s6 : a.tmps.getD 32 undef = .bool false := ht 6 (by omega) (by kernel_rfl)
            have s14 : a.tmps.getD 40 undef = undef := ht 14 (by omega) (by kernel_rfl)
            exact left2_value (.bool false) (by simp [go_sem, s6, s14]) rfl rfl hk
          · obtain rfl := Option.some.inj (ho : some _ = some o)
            rw [if_pos (by decide)]
            have s10 : a.tmps.getD 36 undef = undef := ht 10 (by omega) (by kernel_rfl)
            have s15 : a.tmps.getD 41 undef = .bool false := ht 15 (by omega) (by kernel_rfl)
            exact left2_value (.bool false) (by simp [go_sem, s15]) rfl rfl hk
          · obtain rfl := Option.some.inj (ho : some _ = some o)
            rw [if_neg (by decide)]
            exact rfl
          · obtain rfl := Option.some.inj (ho : some _ = some o)
            rw [if_neg (by decide)]
            exact rfl
          · obtain rfl := Option.some.inj (ho : some _ = some o)
            rw [if_neg (by decide)]
            exact rfl
          · obtain rfl := Option.some.inj (ho : some _ = some o)
            rw [if_neg (by decide)]
            exact rfl
          · obtain rfl := Option.some.inj (ho : some _ = some o)
            rw [if_neg (by decide)]
            exact rfl
          · obtain rfl := Option.some.inj (ho : some _ = some o)
            rw [if_neg (by decide)]
            exact rfl
          · obtain rfl := Option.some.inj (ho : some _ = some o)
            rw [if_neg (by decide)]
            exact rfl
          · obtain rfl := Option.some.inj (ho : some _ = some o)
            rw [if_neg (by decide)]
            exact rfl
          · obtain rfl := Option.some.inj (ho : some _ = some o)
            rw [if_pos (by decide)]
            have s16 : a.tmps.getD 42 undef = .bool false := ht 16 (by omega) (by kernel_rfl)
            have s24 : a.tmps.getD 50 undef = undef := ht 24 (by omega) (by kernel_rfl)
            exact left2_value (.bool false) (by simp [go_sem, s16, s24]) rfl rfl hk
        case hend =>
          intro V' u k hk hkt hV'
          have v0 : V' 0 = .pointer (some ⟨wr.heap.size, 1, none⟩) := hV' 0 (by omega)
          have v1 : V' 1 = .pointer (some ⟨wr.heap.size, 2, none⟩) := hV' 1 (by omega)
          have v2 : V' 2 = .int .i64 x.st := hV' 2 (by omega)
          have v3 : V' 3 = .pointer (some ⟨w.heap.size, 1, none⟩) := hV' 3 (by omega)
          have v4 : V' 4 = .int .i64 st := hV' 4 (by omega)
          have v5 : V' 5 = .bool false := hV' 5 (by omega)
          have v6 : V' 6 = .bool false := hV' 6 (by omega)
          have v7 : V' 7 = undef := hV' 7 (by omega)
          have v8 : V' 8 = undef := hV' 8 (by omega)
          have v9 : V' 9 = undef := hV' 9 (by omega)
          have v10 : V' 10 = undef := hV' 10 (by omega)
          have v11 : V' 11 = undef := hV' 11 (by omega)
          have v12 : V' 12 = undef := hV' 12 (by omega)
          have v13 : V' 13 = undef := hV' 13 (by omega)
          have v14 : V' 14 = undef := hV' 14 (by omega)
          have v15 : V' 15 = .bool false := hV' 15 (by omega)
          have v16 : V' 16 = .bool false := hV' 16 (by omega)
          have v17 : V' 17 = undef := hV' 17 (by omega)
          have v18 : V' 18 = undef := hV' 18 (by omega)
          have v19 : V' 19 = undef := hV' 19 (by omega)
          have v20 : V' 20 = undef := hV' 20 (by omega)
          have v21 : V' 21 = undef := hV' 21 (by omega)
          have v22 : V' 22 = undef := hV' 22 (by omega)
          have v23 : V' 23 = undef := hV' 23 (by omega)
          have v24 : V' 24 = undef := hV' 24 (by omega)
          have v25 : V' 25 = .bool false := hV' 25 (by omega)
          change wpList _ _ _ _ (Act.put (Act.put (Act.put (Act.put (Act.put (Act.put (Act.put (Act.put (Act.put (Act.put (Act.put (Act.put (Act.put (Act.put (Act.put (Act.put (Act.put (Act.put (Act.put (Act.put (Act.put (Act.put (Act.put (Act.put (Act.put (Act.put _ (some 26) (V' 0)) (some 27) (V' 1)) (some 28) (V' 2)) (some 29) (V' 3)) (some 30) (V' 4)) (some 31) (V' 5)) (some 32) (V' 6)) (some 33) (V' 7)) (some 34) (V' 8)) (some 35) (V' 9)) (some 36) (V' 10)) (some 37) (V' 11)) (some 38) (V' 12)) (some 39) (V' 13)) (some 40) (V' 14)) (some 41) (V' 15)) (some 42) (V' 16)) (some 43) (V' 17)) (some 44) (V' 18)) (some 45) (V' 19)) (some 46) (V' 20)) (some 47) (V' 21)) (some 48) (V' 22)) (some 49) (V' 23)) (some 50) (V' 24)) (some 51) (V' 25)) _
          rw [v0, v1, v2, v3, v4, v5, v6, v7, v8, v9, v10, v11, v12, v13, v14, v15, v16, v17, v18, v19, v20, v21, v22, v23, v24, v25]
          simp only [Act.put, List.setIfInBounds_toArray, List.set_cons_zero, List.set_cons_succ]
          simp only [List.drop_succ_cons, List.drop_zero]
          clear hV' v0 v1 v2 v3 v4 v5 v6 v7 v8 v9 v10 v11 v12 v13 v14 v15 v16 v17 v18 v19 v20 v21 v22 v23 v24 v25
          have HU := Lib.hid (HEND.out u hk)
          clear hk hkt
          go_wp2_with fail
          exact ⟨HU.out, by simp [intOf]; omega⟩
      · have HLT := Lib.hid (of_decide_eq_true q1)
        cases q2 : (x.kind == 1)
        · cases q3 : (x.kind == 3)
          · go_upto_region 8 with (fail)
            refine wp_region_head2 26 53 [6, 10, 16] (fun g => match g with | 6 => some true | 10 => some false | 16 => some false | _ => none) (fun _ => none) NoneOf (fun _ => QG wr s t T1' T2' (afterR (fillR vs) key ⟨st, bs, dead⟩) (fillR vs) (nv + 1) wr.heap.size (stepC x.kind x.key x.st (.slice Ab x.bs.length cb) x.dead x.tt)) (EarT x st Ab cb s t wr.heap.size w.heap.size (afterR (fillR vs) key ⟨st, bs, dead⟩) (fillR vs) true false false false) rfl (by kernel_rfl) (by kernel_rfl) ?hskip ?hgv (EarT_keep _ _ _ _ _ _ _ _ _ _ _ _ _ _) (HG0.out.keep ((Only.refl _ _).drew)) ?hstep ?hend
            case hskip =>
              intro i o hi ho hw k
              have : i = 0 ∨ i = 1 ∨ i = 2 ∨ i = 3 ∨ i = 4 ∨ i = 5 ∨ i = 6 ∨ i = 7 ∨ i = 8 ∨ i = 9 ∨ i = 10 ∨ i = 11 ∨ i = 12 ∨ i = 13 ∨ i = 14 ∨ i = 15 ∨ i = 16 ∨ i = 17 ∨ i = 18 ∨ i = 19 ∨ i = 20 ∨ i = 21 ∨ i = 22 ∨ i = 23 ∨ i = 24 ∨ i = 25 := by omega
              rcases this with rfl | rfl | rfl | rfl | rfl | rfl | rfl | rfl | rfl | rfl | rfl | rfl | rfl | rfl | rfl | rfl | rfl | rfl | rfl | rfl | rfl | rfl | rfl | rfl | rfl | rfl
              · rfl
              · rfl
              · rfl
              · rfl
              · rfl
              · rfl
              · rfl
              · rfl
              · rfl
              · rfl
              · rfl
              · rfl
              · rfl
              · rfl
              · rfl
              · rfl
              · rfl
              · rfl
              · rfl
              · rfl
              · rfl
              · rfl
              · rfl
              · rfl
              · rfl
              · rfl
            case hgv =>
              intro g hg v w h
              have : g = 6 ∨ g = 10 ∨ g = 16 := by simpa using hg
              rcases this with rfl | rfl | rfl
              · obtain rfl : v = .bool true := h; rfl
              · obtain rfl : v = .bool false := h; rfl
              · obtain rfl : v = .bool false := h; rfl
            case hstep =>
              intro i o hi ho a u k hk hik hs ht
              have e7 : a.tmps.getD 7 undef = .pointer (some ⟨s, 0, none⟩) := hs 7 (of_decide_eq_true (by kernel_rfl))
              have e8 : a.tmps.getD 8 undef = .pointer (some ⟨t, 0, none⟩) := hs 8 (of_decide_eq_true (by kernel_rfl))
              have e10 : a.tmps.getD 10 undef = .pointer (some ⟨wr.heap.size, 0, none⟩) := hs 10 (of_decide_eq_true (by kernel_rfl))
              have e4 : a.tmps.getD 4 undef = .pointer (some ⟨w.heap.size, 0, none⟩) := hs 4 (of_decide_eq_true (by kernel_rfl))
              have F4 := HBW.out.only hk.only (fun h => h)
              have d0 := hk.row.cellv 0 rfl
              have d2 := hk.row.cellv 2 rfl
              have c1 := F4.cellv 1 rfl
              have : i = 0 ∨ i = 1 ∨ i = 2 ∨ i = 3 ∨ i = 4 ∨ i = 5 ∨ i = 6 ∨ i = 7 ∨ i = 8 ∨ i = 9 ∨ i = 10 ∨ i = 11 ∨ i = 12 ∨ i = 13 ∨ i = 14 ∨ i = 15 ∨ i = 16 ∨ i = 17 ∨ i = 18 ∨ i = 19 ∨ i = 20 ∨ i = 21 ∨ i = 22 ∨ i = 23 ∨ i = 24 ∨ i = 25 := by omega
              rcases this with rfl | rfl | rfl | rfl | rfl | rfl | rfl | rfl | rfl | rfl | rfl | rfl | rfl | rfl | rfl | rfl | rfl | rfl | rfl | rfl | rfl | rfl | rfl | rfl | rfl | rfl
              · obtain rfl := Option.some.inj (ho : some _ = some o)
                rw [if_pos (by decide)]
                exact left2_value (.pointer (some ⟨wr.heap.size, 1, none⟩)) (by simp [go_sem, e10]) rfl rfl hk
              · obtain rfl := Option.some.inj (ho : some _ = some o)
                rw [if_pos (by decide)]
                have s0 : a.tmps.getD 26 undef = .pointer (some ⟨wr.heap.size, 1, none⟩) := ht 0 (by omega) (by kernel_rfl)
                exact left2_value (.pointer (some ⟨wr.heap.size, 2, none⟩)) (by simp [go_sem, s0]) rfl rfl hk
              · obtain rfl := Option.some.inj (ho : some _ = some o)
                rw [if_pos (by decide)]
                have s1 : a.tmps.getD 27 undef = .pointer (some ⟨wr.heap.size, 2, none⟩) := ht 1 (by omega) (by kernel_rfl)
                exact left2_value (.int .i64 x.st) (by simp [go_sem, s1, d2]) rfl rfl hk
              · obtain rfl := Option.some.inj (ho : some _ = some o)
                rw [if_pos (by decide)]
                exact left2_value (.pointer (some ⟨w.heap.size, 1, none⟩)) (by simp [go_sem, e4]) rfl rfl hk
              · obtain rfl := Option.some.inj (ho : some _ = some o)
                rw [if_pos (by decide)]
                have s3 : a.tmps.getD 29 undef = .pointer (some ⟨w.heap.size, 1, none⟩) := ht 3 (by omega) (by kernel_rfl)
                exact left2_value (.int .i64 st) (by simp [go_sem, s3, c1]) rfl rfl hk
              · obtain rfl := Option.some.inj (ho : some _ = some o)
                rw [if_pos (by decide)]
                have s2 : a.tmps.getD 28 undef = .int .i64 x.st := ht 2 (by omega) (by kernel_rfl)
                have s4 : a.tmps.getD 30 undef = .int .i64 st := ht 4 (by omega) (by kernel_rfl)
                exact left2_value (.bool true) (by simp [go_sem, s2, s4, q1]) rfl rfl hk
              · obtain rfl := Option.some.inj (ho : some _ = some o)
                rw [if_pos (by decide)]
                have s5 : a.tmps.getD 31 undef = .bool true := ht 5 (by omega) (by kernel_rfl)
                exact left2_value (.bool true) (by simp [go_sem, s5]) rfl rfl hk
              · obtain rfl := Option.some.inj (ho : some _ = some o)
                rw [if_pos (by decide)]
                exact left2_value (.pointer (some ⟨wr.heap.size, 0, none⟩)) (by simp [go_sem, e10]) rfl rfl hk
              · obtain rfl := Option.some.inj (ho : some _ = some o)
                rw [if_pos (by decide)]
                have s7 : a.tmps.getD 33 undef = .pointer (some ⟨wr.heap.size, 0, none⟩) := ht 7 (by omega) (by kernel_rfl)
                exact left2_value (.int .i64 x.kind) (by simp [go_sem, s7, d0]) rfl rfl hk
              · obtain rfl := Option.some.inj (ho : some _ = some o)
                rw [if_pos (by decide)]
                have s8 : a.tmps.getD 34 undef = .int .i64 x.kind := ht 8 (by omega) (by kernel_rfl)
                exact left2_value (.bool false) (by simp [go_sem, s8, q2]) rfl rfl hk
              · obtain rfl := Option.some.inj (ho : some _ = some o)
                rw [if_pos (by decide)]
                have s6 : a.tmps.getD 32 undef = .bool true := ht 6 (by omega) (by kernel_rfl)
                have s9 : a.tmps.getD 35 undef = .bool false := ht 9 (by omega) (by kernel_rfl)
                exact left2_value (.bool false) (by simp [go_sem, s9]) rfl rfl hk
              · obtain rfl := Option.some.inj (ho : some _ = some o)
                rw [if_pos (by decide)]
                exact left2_value (.pointer (some ⟨wr.heap.size, 0, none⟩)) (by simp [go_sem, e10]) rfl rfl hk
              · obtain rfl := Option.some.inj (ho : some _ = some o)
                rw [if_pos (by decide)]
                have s11 : a.tmps.getD 37 undef = .pointer (some ⟨wr.heap.size, 0, none⟩) := ht 11 (by omega) (by kernel_rfl)
                exact left2_value (.int .i64 x.kind) (by simp [go_sem, s11, d0]) rfl rfl hk
              · obtain rfl := Option.some.inj (ho : some _ = some o)
                rw [if_pos (by decide)]
                have s12 : a.tmps.getD 38 undef = .int .i64 x.kind := ht 12 (by omega) (by kernel_rfl)
                exact left2_value (.bool false) (by simp [go_sem, s12, q3]) rfl rfl hk
              · obtain rfl := Option.some.inj (ho : some _ = some o)
                rw [if_pos (by decide)]
                have s10 : a.tmps.getD 36 undef = .bool false := ht 10 (by omega) (by kernel_rfl)
                have s13 : a.tmps.getD 39 undef = .bool false := ht 13 (by omega) (by kernel_rfl)
                exact left2_value (.bool false) (by simp [go_sem, s10, s13]) rfl rfl hk
              · obtain rfl := Option.some.inj (ho : some _ = some o)
                rw [if_pos (by decide)]
                have s6 : a.tmps.getD 32 undef = .bool true := ht 6 (by omega) (by kernel_rfl)
                have s14 : a.tmps.getD 40 undef = .bool false := ht 14 (by omega) (by kernel_rfl)
                exact left2_value (.bool false) (by simp [go_sem, s6, s14]) rfl rfl hk
              · obtain rfl := Option.some.inj (ho : some _ = some o)
                rw [if_pos (by decide)]
                have s10 : a.tmps.getD 36 undef = .bool false := ht 10 (by omega) (by kernel_rfl)
                have s15 : a.tmps.getD 41 undef = .bool false := ht 15 (by omega) (by kernel_rfl)
                exact left2_value (.bool false) (by simp [go_sem, s15]) rfl rfl hk
              · obtain rfl := Option.some.inj (ho : some _ = some o)
                rw [if_neg (by decide)]
                exact rfl
              · obtain rfl := Option.some.inj (ho : some _ = some o)
                rw [if_neg (by decide)]
                exact rfl
              · obtain rfl := Option.some.inj (ho : some _ = some o)
                rw [if_neg (by decide)]
                exact rfl
              · obtain rfl := Option.some.inj (ho : some _ = some o)
                rw [if_neg (by decide)]
                exact rfl
              · obtain rfl := Option.some.inj (ho : some _ = some o)
                rw [if_neg (by decide)]
                exact rfl
              · obtain rfl := Option.some.inj (ho : some _ = some o)
                rw [if_neg (by decide)]
                exact rfl
              · obtain rfl := Option.some.inj (ho : some _ = some o)
                rw [if_neg (by decide)]
                exact rfl
              · obtain rfl := Option.some.inj (ho : some _ = some o)
                rw [if_neg (by decide)]
                exact rfl
              · obtain rfl := Option.some.inj (ho : some _ = some o)
                rw [if_pos (by decide)]
                have s16 : a.tmps.getD 42 undef = .bool false := ht 16 (by omega) (by kernel_rfl)
                have s24 : a.tmps.getD 50 undef = undef := ht 24 (by omega) (by kernel_rfl)
                exact left2_value (.bool false) (by simp [go_sem, s16, s24]) rfl rfl hk
            case hend =>
              intro V' u k hk hkt hV'
              have v0 : V' 0 = .pointer (some ⟨wr.heap.size, 1, none⟩) := hV' 0 (by omega)
              have v1 : V' 1 = .pointer (some ⟨wr.heap.size, 2, none⟩) := hV' 1 (by omega)
              have v2 : V' 2 = .int .i64 x.st := hV' 2 (by omega)
              have v3 : V' 3 = .pointer (some ⟨w.heap.size, 1, none⟩) := hV' 3 (by omega)
              have v4 : V' 4 = .int .i64 st := hV' 4 (by omega)
              have v5 : V' 5 = .bool true := hV' 5 (by omega)
              have v6 : V' 6 = .bool true := hV' 6 (by omega)
              have v7 : V' 7 = .pointer (some ⟨wr.heap.size, 0, none⟩) := hV' 7 (by omega)
              have v8 : V' 8 = .int .i64 x.kind := hV' 8 (by omega)
              have v9 : V' 9 = .bool false := hV' 9 (by omega)
              have v10 : V' 10 = .bool false := hV' 10 (by omega)
              have v11 : V' 11 = .pointer (some ⟨wr.heap.size, 0, none⟩) := hV' 11 (by omega)
              have v12 : V' 12 = .int .i64 x.kind := hV' 12 (by omega)
              have v13 : V' 13 = .bool false := hV' 13 (by omega)
              have v14 : V' 14 = .bool false := hV' 14 (by omega)
              have v15 : V' 15 = .bool false := hV' 15 (by omega)
              have v16 : V' 16 = .bool false := hV' 16 (by omega)
              have v17 : V' 17 = undef := hV' 17 (by omega)
              have v18 : V' 18 = undef := hV' 18 (by omega)
              have v19 : V' 19 = undef := hV' 19 (by omega)
              have v20 : V' 20 = undef := hV' 20 (by omega)
              have v21 : V' 21 = undef := hV' 21 (by omega)
              have v22 : V' 22 = undef := hV' 22 (by omega)
              have v23 : V' 23 = undef := hV' 23 (by omega)
              have v24 : V' 24 = undef := hV' 24 (by omega)
              have v25 : V' 25 = .bool false := hV' 25 (by omega)
              change wpList _ _ _ _ (Act.put (Act.put (Act.put (Act.put (Act.put (Act.put (Act.put (Act.put (Act.put (Act.put (Act.put (Act.put (Act.put (Act.put (Act.put (Act.put (Act.put (Act.put (Act.put (Act.put (Act.put (Act.put (Act.put (Act.put (Act.put (Act.put _ (some 26) (V' 0)) (some 27) (V' 1)) (some 28) (V' 2)) (some 29) (V' 3)) (some 30) (V' 4)) (some 31) (V' 5)) (some 32) (V' 6)) (some 33) (V' 7)) (some 34) (V' 8)) (some 35) (V' 9)) (some 36) (V' 10)) (some 37) (V' 11)) (some 38) (V' 12)) (some 39) (V' 13)) (some 40) (V' 14)) (some 41) (V' 15)) (some 42) (V' 16)) (some 43) (V' 17)) (some 44) (V' 18)) (some 45) (V' 19)) (some 46) (V' 20)) (some 47) (V' 21)) (some 48) (V' 22)) (some 49) (V' 23)) (some 50) (V' 24)) (some 51) (V' 25)) _
              rw [v0, v1, v2, v3, v4, v5, v6, v7, v8, v9, v10, v11, v12, v13, v14, v15, v16, v17, v18, v19, v20, v21, v22, v23, v24, v25]
              simp only [Act.put, List.setIfInBounds_toArray, List.set_cons_zero, List.set_cons_succ]
              simp only [List.drop_succ_cons, List.drop_zero]
              clear hV' v0 v1 v2 v3 v4 v5 v6 v7 v8 v9 v10 v11 v12 v13 v14 v15 v16 v17 v18 v19 v20 v21 v22 v23 v24 v25
              have HU := Lib.hid (HEND.out u hk)
              clear hk hkt
              go_wp2_with fail
              exact ⟨HU.out, by simp [intOf]; omega⟩
          · have hkd : x.kind = 1 ∨ x.kind = 3 := .inr (eq_of_beq q3)
            have HAN := Lib.hid (earlier_ans (R := fillR vs) (key := key) (v := ⟨st, bs, dead⟩) HLT.out hkd)
            have HKD := Lib.hid hkd
            clear hkd
            go_upto_region 8 with (fail)
            refine wp_region_head2 26 53 [6, 10, 16] (fun g => match g with | 6 => some true | 10 => some false | 16 => some true | _ => none) (fun _ => none) NoneOf (fun _ => QG wr s t T1' T2' (afterR (fillR vs) key ⟨st, bs, dead⟩) (fillR vs) (nv + 1) wr.heap.size (stepC x.kind x.key x.st (.slice Ab x.bs.length cb) x.dead x.tt)) (EarT x st Ab cb s t wr.heap.size w.heap.size (afterR (fillR vs) key ⟨st, bs, dead⟩) (fillR vs) true false true true) rfl (by kernel_rfl) (by kernel_rfl) ?hskip ?hgv (EarT_keep _ _ _ _ _ _ _ _ _ _ _ _ _ _) (HG0.out.keep ((Only.refl _ _).drew)) ?hstep ?hend
            case hskip =>
              intro i o hi ho hw k
              have : i = 0 ∨ i = 1 ∨ i = 2 ∨ i = 3 ∨ i = 4 ∨ i = 5 ∨ i = 6 ∨ i = 7 ∨ i = 8 ∨ i = 9 ∨ i = 10 ∨ i = 11 ∨ i = 12 ∨ i = 13 ∨ i = 14 ∨ i = 15 ∨ i = 16 ∨ i = 17 ∨ i = 18 ∨ i = 19 ∨ i = 20 ∨ i = 21 ∨ i = 22 ∨ i = 23 ∨ i = 24 ∨ i = 25 := by omega
              rcases this with rfl | rfl | rfl | rfl | rfl | rfl | rfl | rfl | rfl | rfl | rfl | rfl | rfl | rfl | rfl | rfl | rfl | rfl | rfl | rfl | rfl | rfl | rfl | rfl | rfl | rfl
              · rfl
              · rfl
              · rfl
              · rfl
              · rfl
              · rfl
              · rfl
              · rfl
              · rfl
              · rfl
              · rfl
              · rfl
              · rfl
              · rfl
              · rfl
              · rfl
              · rfl
              · rfl
              · rfl
              · rfl
              · rfl
              · rfl
              · rfl
              · rfl
              · rfl
              · rfl
            case hgv =>
              intro g hg v w h
              have : g = 6 ∨ g = 10 ∨ g = 16 := by simpa using hg
              rcases this with rfl | rfl | rfl
              · obtain rfl : v = .bool true := h; rfl
              · obtain rfl : v = .bool false := h; rfl
              · obtain rfl : v = .bool true := h; rfl
            case hstep =>
              intro i o hi ho a u k hk hik hs ht
              have e7 : a.tmps.getD 7 undef = .pointer (some ⟨s, 0, none⟩) := hs 7 (of_decide_eq_true (by kernel_rfl))
              have e8 : a.tmps.getD 8 undef = .pointer (some ⟨t, 0, none⟩) := hs 8 (of_decide_eq_true (by kernel_rfl))
              have e10 : a.tmps.getD 10 undef = .pointer (some ⟨wr.heap.size, 0, none⟩) := hs 10 (of_decide_eq_true (by kernel_rfl))
              have e4 : a.tmps.getD 4 undef = .pointer (some ⟨w.heap.size, 0, none⟩) := hs 4 (of_decide_eq_true (by kernel_rfl))
              have F4 := HBW.out.only hk.only (fun h => h)
              have d0 := hk.row.cellv 0 rfl
              have d2 := hk.row.cellv 2 rfl
              have c1 := F4.cellv 1 rfl
              have : i = 0 ∨ i = 1 ∨ i = 2 ∨ i = 3 ∨ i = 4 ∨ i = 5 ∨ i = 6 ∨ i = 7 ∨ i = 8 ∨ i = 9 ∨ i = 10 ∨ i = 11 ∨ i = 12 ∨ i = 13 ∨ i = 14 ∨ i = 15 ∨ i = 16 ∨ i = 17 ∨ i = 18 ∨ i = 19 ∨ i = 20 ∨ i = 21 ∨ i = 22 ∨ i = 23 ∨ i = 24 ∨ i = 25 := by omega
              rcases this with rfl | rfl | rfl | rfl | rfl | rfl | rfl | rfl | rfl | rfl | rfl | rfl | rfl | rfl | rfl | rfl | rfl | rfl | rfl | rfl | rfl | rfl | rfl | rfl | rfl | rfl
              · obtain rfl := Option.some.inj (ho : some _ = some o)
                rw [if_pos (by decide)]
                exact left2_value (.pointer (some ⟨wr.heap.size, 1, none⟩)) (by simp [go_sem, e10]) rfl rfl hk
              · obtain rfl := Option.some.inj (ho : some _ = some o)
                rw [if_pos (by decide)]
                have s0 : a.tmps.getD 26 undef = .pointer (some ⟨wr.heap.size, 1, none⟩) := ht 0 (by omega) (by kernel_rfl)
                exact left2_value (.pointer (some ⟨wr.heap.size, 2, none⟩)) (by simp [go_sem, s0]) rfl rfl hk
              · obtain rfl := Option.some.inj (ho : some _ = some o)
                rw [if_pos (by decide)]
                have s1 : a.tmps.getD 27 undef = .pointer (some ⟨wr.heap.size, 2, none⟩) := ht 1 (by omega) (by kernel_rfl)
                exact left2_value (.int .i64 x.st) (by simp [go_sem, s1, d2]) rfl rfl hk
              · obtain rfl := Option.some.inj (ho : some _ = some o)
                rw [if_pos (by decide)]
                exact left2_value (.pointer (some ⟨w.heap.size, 1, none⟩)) (by simp [go_sem, e4]) rfl rfl hk
              · obtain rfl := Option.some.inj (ho : some _ = some o)
                rw [if_pos (by decide)]
                have s3 : a.tmps.getD 29 undef = .pointer (some ⟨w.heap.size, 1, none⟩) := ht 3 (by omega) (by kernel_rfl)
                exact left2_value (.int .i64 st) (by simp [go_sem, s3, c1]) rfl rfl hk
              · obtain rfl := Option.some.inj (ho : some _ = some o)
                rw [if_pos (by decide)]
                have s2 : a.tmps.getD 28 undef = .int .i64 x.st := ht 2 (by omega) (by kernel_rfl)
                have s4 : a.tmps.getD 30 undef = .int .i64 st := ht 4 (by omega) (by kernel_rfl)
                exact left2_value (.bool true) (by simp [go_sem, s2, s4, q1]) rfl rfl hk
              · obtain rfl := Option.some.inj (ho : some _ = some o)
                rw [if_pos (by decide)]
                have s5 : a.tmps.getD 31 undef = .bool true := ht 5 (by omega) (by kernel_rfl)
                exact left2_value (.bool true) (by simp [go_sem, s5]) rfl rfl hk
              · obtain rfl := Option.some.inj (ho : some _ = some o)
                rw [if_pos (by decide)]
                exact left2_value (.pointer (some ⟨wr.heap.size, 0, none⟩)) (by simp [go_sem, e10]) rfl rfl hk
              · obtain rfl := Option.some.inj (ho : some _ = some o)
                rw [if_pos (by decide)]
                have s7 : a.tmps.getD 33 undef = .pointer (some ⟨wr.heap.size, 0, none⟩) := ht 7 (by omega) (by kernel_rfl)
                exact left2_value (.int .i64 x.kind) (by simp [go_sem, s7, d0]) rfl rfl hk
              · obtain rfl := Option.some.inj (ho : some _ = some o)
                rw [if_pos (by decide)]
                have s8 : a.tmps.getD 34 undef = .int .i64 x.kind := ht 8 (by omega) (by kernel_rfl)
                exact left2_value (.bool false) (by simp [go_sem, s8, q2]) rfl rfl hk
              · obtain rfl := Option.some.inj (ho : some _ = some o)
                rw [if_pos (by decide)]
                have s6 : a.tmps.getD 32 undef = .bool true := ht 6 (by omega) (by kernel_rfl)
                have s9 : a.tmps.getD 35 undef = .bool false := ht 9 (by omega) (by kernel_rfl)
                exact left2_value (.bool false) (by simp [go_sem, s9]) rfl rfl hk
              · obtain rfl := Option.some.inj (ho : some _ = some o)
                rw [if_pos (by decide)]
                exact left2_value (.pointer (some ⟨wr.heap.size, 0, none⟩)) (by simp [go_sem, e10]) rfl rfl hk
              · obtain rfl := Option.some.inj (ho : some _ = some o)
                rw [if_pos (by decide)]
                have s11 : a.tmps.getD 37 undef = .pointer (some ⟨wr.heap.size, 0, none⟩) := ht 11 (by omega) (by kernel_rfl)
                exact left2_value (.int .i64 x.kind) (by simp [go_sem, s11, d0]) rfl rfl hk
              · obtain rfl := Option.some.inj (ho : some _ = some o)
                rw [if_pos (by decide)]
                have s12 : a.tmps.getD 38 undef = .int .i64 x.kind := ht 12 (by omega) (by kernel_rfl)
                exact left2_value (.bool true) (by simp [go_sem, s12, q3]) rfl rfl hk
              · obtain rfl := Option.some.inj (ho : some _ = some o)
                rw [if_pos (by decide)]
                have s10 : a.tmps.getD 36 undef = .bool false := ht 10 (by omega) (by kernel_rfl)
                have s13 : a.tmps.getD 39 undef = .bool true := ht 13 (by omega) (by kernel_rfl)
                exact left2_value (.bool true) (by simp [go_sem, s10, s13]) rfl rfl hk
              · obtain rfl := Option.some.inj (ho : some _ = some o)
                rw [if_pos (by decide)]
                have s6 : a.tmps.getD 32 undef = .bool true := ht 6 (by omega) (by kernel_rfl)
                have s14 : a.tmps.getD 40 undef = .bool true := ht 14 (by omega) (by kernel_rfl)
                exact left2_value (.bool true) (by simp [go_sem, s6, s14]) rfl rfl hk
              · obtain rfl := Option.some.inj (ho : some _ = some o)
                rw [if_pos (by decide)]
                have s10 : a.tmps.getD 36 undef = .bool false := ht 10 (by omega) (by kernel_rfl)
                have s15 : a.tmps.getD 41 undef = .bool true := ht 15 (by omega) (by kernel_rfl)
                exact left2_value (.bool true) (by simp [go_sem, s15]) rfl rfl hk
              · obtain rfl := Option.some.inj (ho : some _ = some o)
                rw [if_pos (by decide)]
                exact left2_value (.pointer (some ⟨s, 0, none⟩)) (by simp [go_sem, e7]) rfl rfl hk
              · obtain rfl := Option.some.inj (ho : some _ = some o)
                rw [if_pos (by decide)]
                exact left2_load 29 (.tmp 10) wr.heap.size 29 _ _ rfl e10 hk.row Try.underlying29 rfl info29 rfl rfl hk
              · obtain rfl := Option.some.inj (ho : some _ = some o)
                rw [if_pos (by decide)]
                have s16 : a.tmps.getD 42 undef = .bool true := ht 16 (by omega) (by kernel_rfl)
                have s17 : a.tmps.getD 43 undef = .pointer (some ⟨s, 0, none⟩) := ht 17 (by omega) (by kernel_rfl)
                have s17c : a.tmps.getD 43 undef = .pointer (some ⟨s, 0, none⟩) := ht 17 (by omega) (by kernel_rfl)
                have s18c : a.tmps.getD 44 undef = .agg (stepC x.kind x.key x.st (.slice Ab x.bs.length cb) x.dead x.tt) := ht 18 (by omega) (by kernel_rfl)
                exact left2_calls 17 #[.pointer (some ⟨s, 0, none⟩), .agg (stepC x.kind x.key x.st (.slice Ab x.bs.length cb) x.dead x.tt)] (by simp [go_sem, s17c, s18c]) (quiet_tell hk.one x Ab cb (by unfold NMAX; omega) HKD.out hks (HBX.out.keep hk.only)) rfl (fun w' ho => hk.keep ho)
              · obtain rfl := Option.some.inj (ho : some _ = some o)
                rw [if_pos (by decide)]
                exact left2_value (.pointer (some ⟨t, 0, none⟩)) (by simp [go_sem, e8]) rfl rfl hk
              · obtain rfl := Option.some.inj (ho : some _ = some o)
                rw [if_pos (by decide)]
                exact left2_load 29 (.tmp 10) wr.heap.size 29 _ _ rfl e10 hk.row Try.underlying29 rfl info29 rfl rfl hk
              · obtain rfl := Option.some.inj (ho : some _ = some o)
                rw [if_pos (by decide)]
                have s20 : a.tmps.getD 46 undef = .pointer (some ⟨t, 0, none⟩) := ht 20 (by omega) (by kernel_rfl)
                have s20c : a.tmps.getD 46 undef = .pointer (some ⟨t, 0, none⟩) := ht 20 (by omega) (by kernel_rfl)
                have s21c : a.tmps.getD 47 undef = .agg (stepC x.kind x.key x.st (.slice Ab x.bs.length cb) x.dead x.tt) := ht 21 (by omega) (by kernel_rfl)
                exact left2_calls 17 #[.pointer (some ⟨t, 0, none⟩), .agg (stepC x.kind x.key x.st (.slice Ab x.bs.length cb) x.dead x.tt)] (by simp [go_sem, s20c, s21c]) (quiet_tell hk.two x Ab cb (by unfold NMAX; omega) HKD.out hks (HBX.out.keep hk.only)) rfl (fun w' ho => hk.keep ho)
              · obtain rfl := Option.some.inj (ho : some _ = some o)
                rw [if_pos (by decide)]
                obtain ⟨cs0, s19c, hs0⟩ : TellV 0 (ansR (afterR (fillR vs) key ⟨st, bs, dead⟩) x) (a.tmps.getD 45 undef) u := ht 19 (by omega) (by kernel_rfl)
                obtain ⟨cs1, s22c, hs1⟩ : TellV 0 (ansR (fillR vs) x) (a.tmps.getD 48 undef) u := ht 22 (by omega) (by kernel_rfl)
                exact left2_calls 16 #[.agg cs0, .agg cs1] (by simp [go_sem, s19c, s22c]) ((alike_same u cs0 cs1 _ HF.out hs0.at (by rw [HAN.out]; exact hs1.at)).mono (fun e w' ⟨he, ho⟩ => ⟨_, he, rfl, ho⟩)) rfl (fun w' ho => hk.keep ho)
              · obtain rfl := Option.some.inj (ho : some _ = some o)
                rw [if_pos (by decide)]
                have s23c : a.tmps.getD 49 undef = .bool true := ht 23 (by omega) (by kernel_rfl)
                exact left2_value (.bool false) (by simp [go_sem, s23c]) rfl rfl hk
              · obtain rfl := Option.some.inj (ho : some _ = some o)
                rw [if_pos (by decide)]
                have s16 : a.tmps.getD 42 undef = .bool true := ht 16 (by omega) (by kernel_rfl)
                have s24c : a.tmps.getD 50 undef = .bool false := ht 24 (by omega) (by kernel_rfl)
                have s16c : a.tmps.getD 42 undef = .bool true := ht 16 (by omega) (by kernel_rfl)
                exact left2_value (.bool false) (by simp [go_sem, s24c, s16c]) rfl rfl hk
            case hend =>
              intro V' u k hk hkt hV'
              have v0 : V' 0 = .pointer (some ⟨wr.heap.size, 1, none⟩) := hV' 0 (by omega)
              have v1 : V' 1 = .pointer (some ⟨wr.heap.size, 2, none⟩) := hV' 1 (by omega)
              have v2 : V' 2 = .int .i64 x.st := hV' 2 (by omega)
              have v3 : V' 3 = .pointer (some ⟨w.heap.size, 1, none⟩) := hV' 3 (by omega)
              have v4 : V' 4 = .int .i64 st := hV' 4 (by omega)
              have v5 : V' 5 = .bool true := hV' 5 (by omega)
              have v6 : V' 6 = .bool true := hV' 6 (by omega)
              have v7 : V' 7 = .pointer (some ⟨wr.heap.size, 0, none⟩) := hV' 7 (by omega)
              have v8 : V' 8 = .int .i64 x.kind := hV' 8 (by omega)
              have v9 : V' 9 = .bool false := hV' 9 (by omega)
              have v10 : V' 10 = .bool false := hV' 10 (by omega)
              have v11 : V' 11 = .pointer (some ⟨wr.heap.size, 0, none⟩) := hV' 11 (by omega)
              have v12 : V' 12 = .int .i64 x.kind := hV' 12 (by omega)
              have v13 : V' 13 = .bool true := hV' 13 (by omega)
              have v14 : V' 14 = .bool true := hV' 14 (by omega)
              have v15 : V' 15 = .bool true := hV' 15 (by omega)
              have v16 : V' 16 = .bool true := hV' 16 (by omega)
              have v17 : V' 17 = .pointer (some ⟨s, 0, none⟩) := hV' 17 (by omega)
              have v18 : V' 18 = .agg (stepC x.kind x.key x.st (.slice Ab x.bs.length cb) x.dead x.tt) := hV' 18 (by omega)
              obtain ⟨cs19, v19, _⟩ : TellV 0 (ansR (afterR (fillR vs) key ⟨st, bs, dead⟩) x) (V' 19) u := hV' 19 (by omega)
              have v20 : V' 20 = .pointer (some ⟨t, 0, none⟩) := hV' 20 (by omega)
              have v21 : V' 21 = .agg (stepC x.kind x.key x.st (.slice Ab x.bs.length cb) x.dead x.tt) := hV' 21 (by omega)
              obtain ⟨cs22, v22, _⟩ : TellV 0 (ansR (fillR vs) x) (V' 22) u := hV' 22 (by omega)
              have v23 : V' 23 = .bool true := hV' 23 (by omega)
              have v24 : V' 24 = .bool false := hV' 24 (by omega)
              have v25 : V' 25 = .bool false := hV' 25 (by omega)
              change wpList _ _ _ _ (Act.put (Act.put (Act.put (Act.put (Act.put (Act.put (Act.put (Act.put (Act.put (Act.put (Act.put (Act.put (Act.put (Act.put (Act.put (Act.put (Act.put (Act.put (Act.put (Act.put (Act.put (Act.put (Act.put (Act.put (Act.put (Act.put _ (some 26) (V' 0)) (some 27) (V' 1)) (some 28) (V' 2)) (some 29) (V' 3)) (some 30) (V' 4)) (some 31) (V' 5)) (some 32) (V' 6)) (some 33) (V' 7)) (some 34) (V' 8)) (some 35) (V' 9)) (some 36) (V' 10)) (some 37) (V' 11)) (some 38) (V' 12)) (some 39) (V' 13)) (some 40) (V' 14)) (some 41) (V' 15)) (some 42) (V' 16)) (some 43) (V' 17)) (some 44) (V' 18)) (some 45) (V' 19)) (some 46) (V' 20)) (some 47) (V' 21)) (some 48) (V' 22)) (some 49) (V' 23)) (some 50) (V' 24)) (some 51) (V' 25)) _
              rw [v0, v1, v2, v3, v4, v5, v6, v7, v8, v9, v10, v11, v12, v13, v14, v15, v16, v17, v18, v19, v20, v21, v22, v23, v24, v25]
              simp only [Act.put, List.setIfInBounds_toArray, List.set_cons_zero, List.set_cons_succ]
              simp only [List.drop_succ_cons, List.drop_zero]
              clear hV' v0 v1 v2 v3 v4 v5 v6 v7 v8 v9 v10 v11 v12 v13 v14 v15 v16 v17 v18 v19 v20 v21 v22 v23 v24 v25
              have HU := Lib.hid (HEND.out u hk)
              clear hk hkt
              go_wp2_with fail
              exact ⟨HU.out, by simp [intOf]; omega⟩
        · have hkd : x.kind = 1 ∨ x.kind = 3 := .inl (eq_of_beq q2)
          have HAN := Lib.hid (earlier_ans (R := fillR vs) (key := key) (v := ⟨st, bs, dead⟩) HLT.out hkd)
          have HKD := Lib.hid hkd
          clear hkd
          go_upto_region 8 with (fail)
          refine wp_region_head2 26 53 [6, 10, 16] (fun g => match g with | 6 => some true | 10 => some true | 16 => some true | _ => none) (fun _ => none) NoneOf (fun _ => QG wr s t T1' T2' (afterR (fillR vs) key ⟨st, bs, dead⟩) (fillR vs) (nv + 1) wr.heap.size (stepC x.kind x.key x.st (.slice Ab x.bs.length cb) x.dead x.tt)) (EarT x st Ab cb s t wr.heap.size w.heap.size (afterR (fillR vs) key ⟨st, bs, dead⟩) (fillR vs) true true false true) rfl (by kernel_rfl) (by kernel_rfl) ?hskip ?hgv (EarT_keep _ _ _ _ _ _ _ _ _ _ _ _ _ _) (HG0.out.keep ((Only.refl _ _).drew)) ?hstep ?hend
          case hskip =>
            intro i o hi ho hw k
            have : i = 0 ∨ i = 1 ∨ i = 2 ∨ i = 3 ∨ i = 4 ∨ i = 5 ∨ i = 6 ∨ i = 7 ∨ i = 8 ∨ i = 9 ∨ i = 10 ∨ i = 11 ∨ i = 12 ∨ i = 13 ∨ i = 14 ∨ i = 15 ∨ i = 16 ∨ i = 17 ∨ i = 18 ∨ i = 19 ∨ i = 20 ∨ i = 21 ∨ i = 22 ∨ i = 23 ∨ i = 24 ∨ i = 25 := by omega
            rcases this with rfl | rfl | rfl | rfl | rfl | rfl | rfl | rfl | rfl | rfl | rfl | rfl | rfl | rfl | rfl | rfl | rfl | rfl | rfl | rfl | rfl | rfl | rfl | rfl | rfl | rfl
            · rfl
            · rfl
            · rfl
            · rfl
            · rfl
            · rfl
            · rfl
            · rfl
            · rfl
            · rfl
            · rfl
            · rfl
            · rfl
            · rfl
            · rfl
            · rfl
            · rfl
            · rfl
            · rfl
            · rfl
            · rfl
            · rfl
            · rfl
            · rfl
            · rfl
            · rfl
          case hgv =>
            intro g hg v w h
            have : g = 6 ∨ g = 10 ∨ g = 16 := by simpa using hg
            rcases this with rfl | rfl | rfl
            · obtain rfl : v = .bool true := h; rfl
            · obtain rfl : v = .bool true := h; rfl
            · obtain rfl : v = .bool true := h; rfl
          case hstep =>
            intro i o hi ho a u k hk hik hs ht
            have e7 : a.tmps.getD 7 undef = .pointer (some ⟨s, 0, none⟩) := hs 7 (of_decide_eq_true (by kernel_rfl))
            have e8 : a.tmps.getD 8 undef = .pointer (some ⟨t, 0, none⟩) := hs 8 (of_decide_eq_true (by kernel_rfl))
            have e10 : a.tmps.getD 10 undef = .pointer (some ⟨wr.heap.size, 0, none⟩) := hs 10 (of_decide_eq_true (by kernel_rfl))
            have e4 : a.tmps.getD 4 undef = .pointer (some ⟨w.heap.size, 0, none⟩) := hs 4 (of_decide_eq_true (by kernel_rfl))
            have F4 := HBW.out.only hk.only (fun h => h)
            have d0 := hk.row.cellv 0 rfl
            have d2 := hk.row.cellv 2 rfl
            have c1 := F4.cellv 1 rfl
            have : i = 0 ∨ i = 1 ∨ i = 2 ∨ i = 3 ∨ i = 4 ∨ i = 5 ∨ i = 6 ∨ i = 7 ∨ i = 8 ∨ i = 9 ∨ i = 10 ∨ i = 11 ∨ i = 12 ∨ i = 13 ∨ i = 14 ∨ i = 15 ∨ i = 16 ∨ i = 17 ∨ i = 18 ∨ i = 19 ∨ i = 20 ∨ i = 21 ∨ i = 22 ∨ i = 23 ∨ i = 24 ∨ i = 25 := by omega
            rcases this with rfl | rfl | rfl | rfl | rfl | rfl | rfl | rfl | rfl | rfl | rfl | rfl | rfl | rfl | rfl | rfl | rfl | rfl | rfl | rfl | rfl | rfl | rfl | rfl | rfl | rfl
            · obtain rfl := Option.some.inj (ho : some _ = some o)
              rw [if_pos (by decide)]
              exact left2_value (.pointer (some ⟨wr.heap.size, 1, none⟩)) (by simp [go_sem, e10]) rfl rfl hk
            · obtain rfl := Option.some.inj (ho : some _ = some o)
              rw [if_pos (by decide)]
              have s0 : a.tmps.getD 26 undef = .pointer (some ⟨wr.heap.size, 1, none⟩) := ht 0 (by omega) (by kernel_rfl)
              exact left2_value (.pointer (some ⟨wr.heap.size, 2, none⟩)) (by simp [go_sem, s0]) rfl rfl hk
            · obtain rfl := Option.some.inj (ho : some _ = some o)
              rw [if_pos (by decide)]
              have s1 : a.tmps.getD 27 undef = .pointer (some ⟨wr.heap.size, 2, none⟩) := ht 1 (by omega) (by kernel_rfl)
              exact left2_value (.int .i64 x.st) (by simp [go_sem, s1, d2]) rfl rfl hk
            · obtain rfl := Option.some.inj (ho : some _ = some o)
              rw [if_pos (by decide)]
              exact left2_value (.pointer (some ⟨w.heap.size, 1, none⟩)) (by simp [go_sem, e4]) rfl rfl hk
            · obtain rfl := Option.some.inj (ho : some _ = some o)
              rw [if_pos (by decide)]
              have s3 : a.tmps.getD 29 undef = .pointer (some ⟨w.heap.size, 1, none⟩) := ht 3 (by omega) (by kernel_rfl)
              exact left2_value (.int .i64 st) (by simp [go_sem, s3, c1]) rfl rfl hk
            · obtain rfl := Option.some.inj (ho : some _ = some o)
              rw [if_pos (by decide)]
              have s2 : a.tmps.getD 28 undef = .int .i64 x.st := ht 2 (by omega) (by kernel_rfl)
              have s4 : a.tmps.getD 30 undef = .int .i64 st := ht 4 (by omega) (by kernel_rfl)
              exact left2_value (.bool true) (by simp [go_sem, s2, s4, q1]) rfl rfl hk
            · obtain rfl := Option.some.inj (ho : some _ = some o)
              rw [if_pos (by decide)]
              have s5 : a.tmps.getD 31 undef = .bool true := ht 5 (by omega) (by kernel_rfl)
              exact left2_value (.bool true) (by simp [go_sem, s5]) rfl rfl hk
            · obtain rfl := Option.some.inj (ho : some _ = some o)
              rw [if_pos (by decide)]
              exact left2_value (.pointer (some ⟨wr.heap.size, 0, none⟩)) (by simp [go_sem, e10]) rfl rfl hk
            · obtain rfl := Option.some.inj (ho : some _ = some o)
              rw [if_pos (by decide)]
              have s7 : a.tmps.getD 33 undef = .pointer (some ⟨wr.heap.size, 0, none⟩) := ht 7 (by omega) (by kernel_rfl)
              exact left2_value (.int .i64 x.kind) (by simp [go_sem, s7, d0]) rfl rfl hk
            · obtain rfl := Option.some.inj (ho : some _ = some o)
              rw [if_pos (by decide)]
              have s8 : a.tmps.getD 34 undef = .int .i64 x.kind := ht 8 (by omega) (by kernel_rfl)
              exact left2_value (.bool true) (by simp [go_sem, s8, q2]) rfl rfl hk
            · obtain rfl := Option.some.inj (ho : some _ = some o)
              rw [if_pos (by decide)]
              have s6 : a.tmps.getD 32 undef = .bool true := ht 6 (by omega) (by kernel_rfl)
              have s9 : a.tmps.getD 35 undef = .bool true := ht 9 (by omega) (by kernel_rfl)
              exact left2_value (.bool true) (by simp [go_sem, s9]) rfl rfl hk
            · obtain rfl := Option.some.inj (ho : some _ = some o)
              rw [if_neg (by decide)]
              exact rfl
            · obtain rfl := Option.some.inj (ho : some _ = some o)
              rw [if_neg (by decide)]
              exact rfl
            · obtain rfl := Option.some.inj (ho : some _ = some o)
              rw [if_neg (by decide)]
              exact rfl
            · obtain rfl := Option.some.inj (ho : some _ = some o)
              rw [if_pos (by decide)]
              have s10 : a.tmps.getD 36 undef = .bool true := ht 10 (by omega) (by kernel_rfl)
              have s13 : a.tmps.getD 39 undef = undef := ht 13 (by omega) (by kernel_rfl)
              exact left2_value (.bool true) (by simp [go_sem, s10, s13]) rfl rfl hk
            · obtain rfl := Option.some.inj (ho : some _ = some o)
              rw [if_pos (by decide)]
              have s6 : a.tmps.getD 32 undef = .bool true := ht 6 (by omega) (by kernel_rfl)
              have s14 : a.tmps.getD 40 undef = .bool true := ht 14 (by omega) (by kernel_rfl)
              exact left2_value (.bool true) (by simp [go_sem, s6, s14]) rfl rfl hk
            · obtain rfl := Option.some.inj (ho : some _ = some o)
              rw [if_pos (by decide)]
              have s10 : a.tmps.getD 36 undef = .bool true := ht 10 (by omega) (by kernel_rfl)
              have s15 : a.tmps.getD 41 undef = .bool true := ht 15 (by omega) (by kernel_rfl)
              exact left2_value (.bool true) (by simp [go_sem, s15]) rfl rfl hk
            · obtain rfl := Option.some.inj (ho : some _ = some o)
              rw [if_pos (by decide)]
              exact left2_value (.pointer (some ⟨s, 0, none⟩)) (by simp [go_sem, e7]) rfl rfl hk
            · obtain rfl := Option.some.inj (ho : some _ = some o)
              rw [if_pos (by decide)]
              exact left2_load 29 (.tmp 10) wr.heap.size 29 _ _ rfl e10 hk.row Try.underlying29 rfl info29 rfl rfl hk
            · obtain rfl := Option.some.inj (ho : some _ = some o)
              rw [if_pos (by decide)]
              have s16 : a.tmps.getD 42 undef = .bool true := ht 16 (by omega) (by kernel_rfl)
              have s17 : a.tmps.getD 43 undef = .pointer (some ⟨s, 0, none⟩) := ht 17 (by omega) (by kernel_rfl)
              have s17c : a.tmps.getD 43 undef = .pointer (some ⟨s, 0, none⟩) := ht 17 (by omega) (by kernel_rfl)
              have s18c : a.tmps.getD 44 undef = .agg (stepC x.kind x.key x.st (.slice Ab x.bs.length cb) x.dead x.tt) := ht 18 (by omega) (by kernel_rfl)
              exact left2_calls 17 #[.pointer (some ⟨s, 0, none⟩), .agg (stepC x.kind x.key x.st (.slice Ab x.bs.length cb) x.dead x.tt)] (by simp [go_sem, s17c, s18c]) (quiet_tell hk.one x Ab cb (by unfold NMAX; omega) HKD.out hks (HBX.out.keep hk.only)) rfl (fun w' ho => hk.keep ho)
            · obtain rfl := Option.some.inj (ho : some _ = some o)
              rw [if_pos (by decide)]
              exact left2_value (.pointer (some ⟨t, 0, none⟩)) (by simp [go_sem, e8]) rfl rfl hk
            · obtain rfl := Option.some.inj (ho : some _ = some o)
              rw [if_pos (by decide)]
              exact left2_load 29 (.tmp 10) wr.heap.size 29 _ _ rfl e10 hk.row Try.underlying29 rfl info29 rfl rfl hk
            · obtain rfl := Option.some.inj (ho : some _ = some o)
              rw [if_pos (by decide)]
              have s20 : a.tmps.getD 46 undef = .pointer (some ⟨t, 0, none⟩) := ht 20 (by omega) (by kernel_rfl)
              have s20c : a.tmps.getD 46 undef = .pointer (some ⟨t, 0, none⟩) := ht 20 (by omega) (by kernel_rfl)
              have s21c : a.tmps.getD 47 undef = .agg (stepC x.kind x.key x.st (.slice Ab x.bs.length cb) x.dead x.tt) := ht 21 (by omega) (by kernel_rfl)
              exact left2_calls 17 #[.pointer (some ⟨t, 0, none⟩), .agg (stepC x.kind x.key x.st (.slice Ab x.bs.length cb) x.dead x.tt)] (by simp [go_sem, s20c, s21c]) (quiet_tell hk.two x Ab cb (by unfold NMAX; omega) HKD.out hks (HBX.out.keep hk.only)) rfl (fun w' ho => hk.keep ho)
            · obtain rfl := Option.some.inj (ho : some _ = some o)
              rw [if_pos (by decide)]
              obtain ⟨cs0, s19c, hs0⟩ : TellV 0 (ansR (afterR (fillR vs) key ⟨st, bs, dead⟩) x) (a.tmps.getD 45 undef) u := ht 19 (by omega) (by kernel_rfl)
              obtain ⟨cs1, s22c, hs1⟩ : TellV 0 (ansR (fillR vs) x) (a.tmps.getD 48 undef) u := ht 22 (by omega) (by kernel_rfl)
              exact left2_calls 16 #[.agg cs0, .agg cs1] (by simp [go_sem, s19c, s22c]) ((alike_same u cs0 cs1 _ HF.out hs0.at (by rw [HAN.out]; exact hs1.at)).mono (fun e w' ⟨he, ho⟩ => ⟨_, he, rfl, ho⟩)) rfl (fun w' ho => hk.keep ho)
            · obtain rfl := Option.some.inj (ho : some _ = some o)
              rw [if_pos (by decide)]
              have s23c : a.tmps.getD 49 undef = .bool true := ht 23 (by omega) (by kernel_rfl)
              exact left2_value (.bool false) (by simp [go_sem, s23c]) rfl rfl hk
            · obtain rfl := Option.some.inj (ho : some _ = some o)
              rw [if_pos (by decide)]
              have s16 : a.tmps.getD 42 undef = .bool true := ht 16 (by omega) (by kernel_rfl)
              have s24c : a.tmps.getD 50 undef = .bool false := ht 24 (by omega) (by kernel_rfl)
              have s16c : a.tmps.getD 42 undef = .bool true := ht 16 (by omega) (by kernel_rfl)
              exact left2_value (.bool false) (by simp [go_sem, s24c, s16c]) rfl rfl hk
          case hend =>
            intro V' u k hk hkt hV'
            have v0 : V' 0 = .pointer (some ⟨wr.heap.size, 1, none⟩) := hV' 0 (by omega)
            have v1 : V' 1 = .pointer (some ⟨wr.heap.size, 2, none⟩) := hV' 1 (by omega)
            have v2 : V' 2 = .int .i64 x.st := hV' 2 (by omega)
            have v3 : V' 3 = .pointer (some ⟨w.heap.size, 1, none⟩) := hV' 3 (by omega)
            have v4 : V' 4 = .int .i64 st := hV' 4 (by omega)
            have v5 : V' 5 = .bool true := hV' 5 (by omega)
            have v6 : V' 6 = .bool true := hV' 6 (by omega)
            have v7 : V' 7 = .pointer (some ⟨wr.heap.size, 0, none⟩) := hV' 7 (by omega)
            have v8 : V' 8 = .int .i64 x.kind := hV' 8 (by omega)
            have v9 : V' 9 = .bool true := hV' 9 (by omega)
            have v10 : V' 10 = .bool true := hV' 10 (by omega)
            have v11 : V' 11 = undef := hV' 11 (by omega)
            have v12 : V' 12 = undef := hV' 12 (by omega)
            have v13 : V' 13 = undef := hV' 13 (by omega)
            have v14 : V' 14 = .bool true := hV' 14 (by omega)
            have v15 : V' 15 = .bool true := hV' 15 (by omega)
            have v16 : V' 16 = .bool true := hV' 16 (by omega)
            have v17 : V' 17 = .pointer (some ⟨s, 0, none⟩) := hV' 17 (by omega)
            have v18 : V' 18 = .agg (stepC x.kind x.key x.st (.slice Ab x.bs.length cb) x.dead x.tt) := hV' 18 (by omega)
            obtain ⟨cs19, v19, _⟩ : TellV 0 (ansR (afterR (fillR vs) key ⟨st, bs, dead⟩) x) (V' 19) u := hV' 19 (by omega)
            have v20 : V' 20 = .pointer (some ⟨t, 0, none⟩) := hV' 20 (by omega)
            have v21 : V' 21 = .agg (stepC x.kind x.key x.st (.slice Ab x.bs.length cb) x.dead x.tt) := hV' 21 (by omega)
            obtain ⟨cs22, v22, _⟩ : TellV 0 (ansR (fillR vs) x) (V' 22) u := hV' 22 (by omega)
            have v23 : V' 23 = .bool true := hV' 23 (by omega)
            have v24 : V' 24 = .bool false := hV' 24 (by omega)
            have v25 : V' 25 = .bool false := hV' 25 (by omega)
            change wpList _ _ _ _ (Act.put (Act.put (Act.put (Act.put (Act.put (Act.put (Act.put (Act.put (Act.put (Act.put (Act.put (Act.put (Act.put (Act.put (Act.put (Act.put (Act.put (Act.put (Act.put (Act.put (Act.put (Act.put (Act.put (Act.put (Act.put (Act.put _ (some 26) (V' 0)) (some 27) (V' 1)) (some 28) (V' 2)) (some 29) (V' 3)) (some 30) (V' 4)) (some 31) (V' 5)) (some 32) (V' 6)) (some 33) (V' 7)) (some 34) (V' 8)) (some 35) (V' 9)) (some 36) (V' 10)) (some 37) (V' 11)) (some 38) (V' 12)) (some 39) (V' 13)) (some 40) (V' 14)) (some 41) (V' 15)) (some 42) (V' 16)) (some 43) (V' 17)) (some 44) (V' 18)) (some 45) (V' 19)) (some 46) (V' 20)) (some 47) (V' 21)) (some 48) (V' 22)) (some 49) (V' 23)) (some 50) (V' 24)) (some 51) (V' 25)) _
            rw [v0, v1, v2, v3, v4, v5, v6, v7, v8, v9, v10, v11, v12, v13, v14, v15, v16, v17, v18, v19, v20, v21, v22, v23, v24, v25]
            simp only [Act.put, List.setIfInBounds_toArray, List.set_cons_zero, List.set_cons_succ]
            simp only [List.drop_succ_cons, List.drop_zero]
            clear hV' v0 v1 v2 v3 v4 v5 v6 v7 v8 v9 v10 v11 v12 v13 v14 v15 v16 v17 v18 v19 v20 v21 v22 v23 v24 v25
            have HU := Lib.hid (HEND.out u hk)
            clear hk hkt
            go_wp2_with fail
            exact ⟨HU.out, by simp [intOf]; omega⟩
    · obtain rfl : i = n := by omega
      have HOF := Lib.hid (HO4.out.trans HO.out)
      go_wp2_with fail
      go_ret
      exact ⟨rfl, HOF.out⟩

end Go.Proofs.Ytnonnencdhogiaa

/-
  Layer 14's laws: a version that comes in, opened.
-/
namespace Go.Proofs.Ytnonnencdhogiaa
open Go.ChangeShapes Go.WideShapes Go.ChangeAt Go.RowKit Go.Deep

theorem open_ver {H : Type} {enc : TypeId × Value → H} {w : World} {held : Bool} {v : Value} {d : DataW H} {p : List MemPlace} (hv : ∃ cs, v = .agg cs ∧ cs.size = Try.prog.cellsOf 27) (h : DataW.Trod enc Try.prog w 0 (fun _ => true) held 27 v d p) :
    ∃ (key : ByteArray) (st : Int) (A : Option Addr) (cap : Nat) (bs : List UInt8) (dead : Bool), v = .agg (verC key st (.slice A bs.length cap) dead) ∧ key.size ≤ maxLen ∧ BytesAt w A bs := by
  obtain ⟨cs, rfl, hsz⟩ := hv
  obtain ⟨l⟩ := cs
  obtain ⟨fuel, hf⟩ := h
  obtain ⟨key, st, A, cap, bs, dead, rfl, hk, hb⟩ := ver_cells (cs := l) (by simpa [Value.cells] using hf)
  exact ⟨key, st, A, cap, bs, dead, rfl, hk, hb⟩

end Go.Proofs.Ytnonnencdhogiaa

/-
  Layer 14's law StoreVacuum, plain: what a Vacuum leaves.
-/
namespace Go.Proofs.Ytnonnencdhogiaa

theorem takeWhile_drop {α : Type} (p : α → Bool) : ∀ (k : Nat) (xs : List α), k ≤ (xs.takeWhile p).length → (xs.drop k).takeWhile p = (xs.takeWhile p).drop k
  | 0, _, _ => rfl
  | k + 1, [], _ => by simp
  | k + 1, x :: xs, h => by
    rw [List.takeWhile_cons] at h ⊢
    split at h
    · rename_i hx
      rw [if_pos hx, List.drop_succ_cons, List.drop_succ_cons]
      exact takeWhile_drop p k xs (by simpa using h)
    · simp at h
theorem takeWhile_len {α : Type} (p q : α → Bool) (hpq : ∀ x, p x = true → q x = true) : ∀ (xs : List α), (xs.takeWhile p).length ≤ (xs.takeWhile q).length
  | [] => by simp
  | x :: xs => by
    have ih := takeWhile_len p q hpq xs
    rw [List.takeWhile_cons, List.takeWhile_cons]
    split
    · rename_i hx
      rw [if_pos (hpq x hx)]
      simpa using ih
    · simp
theorem takeWhile_all {α : Type} (p : α → Bool) : ∀ (xs : List α), (∀ x ∈ xs, p x = true) → xs.takeWhile p = xs
  | [], _ => rfl
  | x :: xs, h => by
    rw [List.takeWhile_cons, if_pos (h x (by simp)), takeWhile_all p xs fun y hy => h y (by simp [hy])]
theorem takeWhile_snoc {α : Type} (p : α → Bool) (y : α) (hy : p y = false) : ∀ (xs : List α), (xs ++ [y]).takeWhile p = xs.takeWhile p
  | [] => by simp [hy]
  | x :: xs => by
    rw [List.cons_append, List.takeWhile_cons, List.takeWhile_cons, takeWhile_snoc p y hy xs]

theorem kept_few (xs : List Ver) {hz h2 : Int} (h : h2 ≤ hz) : ((keptV xs hz).takeWhile fun x => decide (x.st ≤ h2)).length ≤ 1 := by
  have h1 := takeWhile_len (fun x : Ver => decide (x.st ≤ h2)) (fun x : Ver => decide (x.st ≤ hz)) (fun x hx => by simp only [decide_eq_true_eq] at hx ⊢; omega) (keptV xs hz)
  have h3 : ((keptV xs hz).takeWhile fun x => decide (x.st ≤ hz)).length ≤ 1 := by
    unfold keptV
    rw [takeWhile_drop _ _ _ (by omega), List.length_drop]
    omega
  omega
theorem kept_again (xs : List Ver) {hz h2 : Int} (h : h2 ≤ hz) : keptV (keptV xs hz) h2 = keptV xs hz := by
  have := kept_few xs h
  change (keptV xs hz).drop (((keptV xs hz).takeWhile fun x => decide (x.st ≤ h2)).length - 1) = _
  rw [show (((keptV xs hz).takeWhile fun x => decide (x.st ≤ h2)).length - 1) = 0 by omega]
  rfl
theorem kept_newest (xs : List Ver) {hz st : Int} (h : hz ≤ st) : newest (keptV xs hz) st = newest xs st := by
  have h1 := takeWhile_len (fun x : Ver => decide (x.st ≤ hz)) (fun x : Ver => decide (x.st ≤ st)) (fun x hx => by simp only [decide_eq_true_eq] at hx ⊢; omega) xs
  unfold newest keptV
  rw [takeWhile_drop _ _ _ (by omega), List.getLast?_drop]
  split
  · rename_i hl
    have : (xs.takeWhile fun x => decide (x.st ≤ st)).length = 0 := by omega
    rw [List.eq_nil_of_length_eq_zero this]
    rfl
  · rfl
theorem kept_snoc {xs : List Ver} {x : Ver} (hz : Int) (h : ∀ y ∈ xs, y.st < x.st) : keptV (xs ++ [x]) hz = if x.st ≤ hz then [x] else keptV xs hz ++ [x] := by
  unfold keptV
  split
  · rename_i hx
    rw [takeWhile_all _ (xs ++ [x]) fun y hy => by
      rcases List.mem_append.1 hy with hy | hy
      · have := h y hy; simp; omega
      · obtain rfl : y = x := by simpa using hy
        simpa using hx]
    simp
  · rename_i hx
    rw [takeWhile_snoc _ _ (by simpa using hx)]
    have := (List.takeWhile_prefix (l := xs) fun x : Ver => decide (x.st ≤ hz)).length_le
    rw [List.drop_append_of_le_length (by omega)]

theorem vac_again {R : List KV} (h : GoodR R) {hz h2 : Int} (hh : h2 ≤ hz) : vacR (vacR R hz) h2 = vacR R hz := by
  have hg := gone_count (h.vac hz) h2
  have h0 : sumN (keysR (vacR R hz)) (fun k => ((verR (vacR R hz) (keyB k)).takeWhile fun x => decide (x.st ≤ h2)).length - 1) = 0 := by
    rw [sumN_congr (g := fun _ => 0) fun k _ => by
      rw [verR_vac h]
      have := kept_few (verR R (keyB k)) hh
      omega]
    unfold sumN
    generalize keysR (vacR R hz) = ks
    induction ks with
    | nil => rfl
    | cons k ks ih => simpa using ih
  exact (List.filter_sublist (l := vacR R hz)).eq_of_length (by change (vacR (vacR R hz) h2).length = _; omega)

/-- two stores that a Vacuum at hz makes the same -/
def VacSame (hz : Int) (R1 R2 : List KV) : Prop := ∀ key, keptV (verR R1 key) hz = keptV (verR R2 key) hz

theorem VacSame.vac {R : List KV} (h : GoodR R) (hz : Int) : VacSame hz (vacR R hz) R := fun key => by
  rw [verR_vac h]
  exact kept_again _ (Int.le_refl _)
section
variable {hz : Int} {R1 R2 : List KV} (h : VacSame hz R1 R2)
include h
theorem VacSame.last (key : ByteArray) : (verR R1 key).getLast? = (verR R2 key).getLast? := by rw [← kept_last hz, h key, kept_last]
theorem VacSame.keys : keysR R1 = keysR R2 :=
  sorted_unique _ _ (keysR_sorted _) (keysR_sorted _) fun k => by
    rw [keysR_mem, keysR_mem, ← verR_ne, ← verR_ne]
    have := h.last (keyB k)
    constructor
    · intro h1 h2
      rw [h2] at this
      exact h1 (List.getLast?_eq_none_iff.1 this)
    · intro h1 h2
      rw [h2] at this
      exact h1 (List.getLast?_eq_none_iff.1 this.symm)
theorem VacSame.live : liveR R1 = liveR R2 := by
  unfold liveR
  rw [h.keys]
  exact sumZ_congr fun k _ => by unfold wgt; rw [h.last]
theorem VacSame.code (key : ByteArray) (x : Ver) : codeR R1 key x = codeR R2 key x := by unfold codeR applyC; rw [h.last]
theorem VacSame.found (key : ByteArray) {st : Int} (hs : hz ≤ st) : Go.Proofs.Ytnonnencdhogiaa.found (verR R1 key) st = Go.Proofs.Ytnonnencdhogiaa.found (verR R2 key) st := by
  unfold Go.Proofs.Ytnonnencdhogiaa.found
  rw [← kept_newest _ hs, h key, kept_newest _ hs]
theorem VacSame.scan (fr tt : ByteArray) {st : Int} (hs : hz ≤ st) : scanR R1 fr tt st = scanR R2 fr tt st := by
  have : scanKey (verR R1) fr tt st = scanKey (verR R2) fr tt st := by
    funext k
    unfold scanKey
    rw [h.found ⟨k.toArray⟩ hs]
  unfold scanR
  rw [h.keys, this]
end
theorem code_above {R : List KV} (hg : GoodR R) {key : ByteArray} {x : Ver} (h : codeR R key x = 0) : ∀ y ∈ verR R key, y.st < x.st := by
  unfold codeR applyC at h
  split at h
  · omega
  · intro y hy
    rcases List.eq_nil_or_concat (verR R key) with e | ⟨ys, b, e⟩
    · rw [e] at hy; cases hy
    · rw [List.concat_eq_append] at e
      have hr := hg.rise key
      rw [e] at h hr hy
      simp only [List.getLast?_append, List.getLast?_singleton, Option.some_or] at h
      have hb : b.st < x.st := by
        split at h
        · cases h
        · omega
      rcases List.mem_append.1 hy with hy | hy
      · have := (List.pairwise_append.1 hr).2.2 y hy b (by simp)
        omega
      · obtain rfl : y = b := by simpa using hy
        exact hb
theorem VacSame.after {hz : Int} {R1 R2 : List KV} (h : VacSame hz R1 R2) (h1 : GoodR R1) (h2 : GoodR R2) (key : ByteArray) (x : Ver) : VacSame hz (afterR R1 key x) (afterR R2 key x) := by
  unfold afterR
  rw [h.code]
  split
  · rename_i hc
    intro k
    rw [verR_append, verR_append, verR_one]
    split
    · rename_i hk
      subst hk
      rw [kept_snoc hz (code_above h1 (by rw [h.code]; exact hc)), kept_snoc hz (code_above h2 hc), h key]
    · rw [List.append_nil, List.append_nil]; exact h k
  · exact h
/-- what is asked behind a Vacuum -/
def VacAsk (hz : Int) (x : Stp) : Prop := x.kind = 2 ∨ x.kind = 5 ∨ x.kind = 0 ∨ (hz ≤ x.st ∧ (x.kind = 1 ∨ x.kind = 3))
theorem VacSame.ans {hz : Int} {R1 R2 : List KV} (h : VacSame hz R1 R2) {x : Stp} (hx : VacAsk hz x) : ansR R1 x = ansR R2 x := by
  unfold ansR
  rcases hx with e | e | e | ⟨hs, e | e⟩ <;> simp only [e]
  · simp [h.last]
  · simp [h.live]
  · simp [h.code]
  · simp [h.found _ hs]
  · simp [h.scan _ _ hs]
theorem VacSame.step {hz : Int} {R1 R2 : List KV} (h : VacSame hz R1 R2) (h1 : GoodR R1) (h2 : GoodR R2) {x : Stp} (hx : VacAsk hz x) : VacSame hz (stepR R1 x) (stepR R2 x) := by
  unfold stepR
  rcases hx with e | e | e | ⟨hs, e | e⟩ <;> simp only [e]
  · simpa using h
  · simpa using h
  · simpa using h.after h1 h2 _ _
  · simpa using h
  · simpa using h

end Go.Proofs.Ytnonnencdhogiaa

/-
  Layer 14's law StoreVacuum walked.
-/
namespace Go.Proofs.Ytnonnencdhogiaa
open Go.RowKit

theorem two_len {w0 w : World} {s t : Nat} {R1 R2 : List KV} {N : Nat} (h : TwoSt w0 s t R1 R2 N w) (hN : N ≤ NMAX) :
    Calls Try.prog 19 #[.pointer (some ⟨s, 0, none⟩)] w fun e w' => e = .returned (.tuple #[.int .i64 ((keysR R1).length : Nat), .int .i64 (R1.length : Nat)]) ∧ TwoSt w0 s t R1 R2 N w' ∧ Only NoneOf w w' := by
  obtain ⟨T1, T2, h1, h2, h3, h4, h5⟩ := h
  exact (lenR w s N T1 T2 R1 h1 hN).mono fun _ _ ⟨he, ho⟩ => ⟨he, TwoSt.keep ⟨T1, T2, h1, h2, h3, h4, h5⟩ ho, ho⟩
theorem two_vac0 {w0 w : World} {s t : Nat} {R R2 : List KV} {N : Nat} {hz h2 : Int} (h : TwoSt w0 s t (vacR R hz) R2 N w) (hg : GoodR R) (hh : h2 ≤ hz) (hN : N ≤ NMAX) :
    Calls Try.prog 20 #[.pointer (some ⟨s, 0, none⟩), .int .i64 h2] w fun e w' => e = .returned (.int .i64 0) ∧ TwoSt w0 s t (vacR R hz) R2 N w' := by
  have := two_vacuum h (Only.refl _ _) hN h2
  rw [vac_again hg hh, Nat.sub_self] at this
  exact this.mono fun _ _ ⟨he, h, _⟩ => ⟨he, h⟩

/-- the loop over what is asked -/
def VaRel (w0 : World) (s t : Nat) (hz : Int) (N n : Nat) (v : Value) (wr : World) : Prop := ∃ (i : Nat) (R1 R2 : List KV), v = .int .i64 i ∧ i ≤ n ∧ TwoSt w0 s t R1 R2 (N + i) wr ∧ VacSame hz R1 R2

set_option maxRecDepth 100000 in
set_option maxHeartbeats 16000000 in
theorem vacuum_walk (A : Option Addr) (cap : Nat) (vs : List KV) (hz : Int) (A3 : Option Addr) (cap3 : Nat) (xs : List Stp) (w : World)
    (hV : VersAt w A vs) (hX : StepsAt w A3 xs) (hfew : vs.length + xs.length ≤ 2513169434843) :
    Calls Try.prog 5 #[.slice A vs.length cap, .int .i64 hz, .slice A3 xs.length cap3] w (Ans (.bool true) w) := by
  have HV := Lib.hid hV
  have HX := Lib.hid hX
  obtain ⟨n, hn⟩ : ∃ n, xs.length = n := ⟨_, rfl⟩
  have HN := Lib.hid hn
  rw [hn] at hfew ⊢
  obtain ⟨nv, hnv⟩ : ∃ nv, vs.length = nv := ⟨_, rfl⟩
  have HNV := Lib.hid hnv
  rw [hnv] at hfew ⊢
  clear hV hX hn hnv
  have HFX := fun u => Lib.hid (fixed_is u)
  obtain ⟨h2, hh2, qh⟩ : ∃ h2, h2 ≤ hz ∧ min hz (wrap64 (hz - 1)) = h2 := ⟨_, Int.min_le_left _ _, rfl⟩
  go_enter Try.func5, Try.ntmps5
  go_wp2_with fail
  refine (HFX _).out.mono ?_; rintro e w1 ⟨rfl, ho1⟩
  have HO1 := Lib.hid ho1
  have HF1 := filled_is w1 A cap vs NoneOf (HV.out.keep HO1.out) (by rw [HNV.out]; omega) (fun _ h => h.elim)
  rw [HNV.out] at HF1
  replace HF1 := Lib.hid HF1
  clear ho1
  go_wp2_with fail
  refine HF1.out.mono ?_; rintro e w2 ⟨s, T1, rfl, h1, ho2, ht1⟩
  have HF2 := filled_is w2 A cap vs T1 (HV.out.keep (HO1.out.trans ho2)) (by rw [HNV.out]; omega) (fun k hk => h1.lt hk)
  rw [HNV.out] at HF2
  replace HF2 := Lib.hid HF2
  have H1 := Lib.hid h1
  have HO2 := Lib.hid ho2
  have HT1 := Lib.hid ht1
  clear h1 ho2 ht1 HF1
  go_wp2_with fail
  refine HF2.out.mono ?_; rintro e w3 ⟨t, T2, rfl, h2', ho3, ht2⟩
  have HTW := Lib.hid (show TwoSt w1 s t (fillR vs) (fillR vs) nv w3 from by
    rw [← HNV.out]
    exact ⟨T1, T2, H1.out.other ho3 (fun _ h => h.elim) (fun k hk => ⟨h2'.lt hk, .inr (ht2 k hk)⟩), h2', HO2.out.trans ho3, HT1.out, fun k hk => Nat.le_trans HO2.out.size (ht2 k hk)⟩)
  have hlen : (fillR vs).length ≤ nv := by
    obtain ⟨_, _, h1, _⟩ := HTW.out
    exact h1.len
  have hgood := Lib.hid HTW.out.good.1
  obtain ⟨R, hR⟩ : ∃ R, fillR vs = R := ⟨_, rfl⟩
  rw [hR] at HTW hlen hgood
  have hle : (vacR R hz).length ≤ R.length := List.length_filter_le _ _
  have HL1 := two_len HTW.out (by unfold NMAX; omega)
  obtain ⟨b, hb⟩ : ∃ b, (vacR R hz).length = b := ⟨_, rfl⟩
  obtain ⟨d, hd⟩ : ∃ d, R.length = b + d := ⟨R.length - b, by omega⟩
  rw [hd] at HL1
  have HB := Lib.hid hb
  have HD := Lib.hid hd
  replace HL1 := Lib.hid HL1
  rw [hb] at hle
  rw [hd] at hlen hle
  clear h2' ho3 ht2 HF2 H1 HT1 HO2 hR hb hd HTW
  go_wp2_with fail
  refine HL1.out.mono ?_; rintro e w4 ⟨rfl, hs4, _⟩
  have HV1 := two_vacuum hs4 (Only.refl _ _) (by unfold NMAX; omega) hz
  rw [HB.out, HD.out, Nat.add_sub_cancel_left] at HV1
  replace HV1 := Lib.hid HV1
  clear hs4 HL1
  go_wp2_with fail
  refine HV1.out.mono ?_; rintro e w5 ⟨rfl, hs5, _⟩
  have HL2 := two_len hs5 (by unfold NMAX; omega)
  rw [HB.out] at HL2
  replace HL2 := Lib.hid HL2
  clear hs5 HV1
  go_wp2_with fail
  refine HL2.out.mono ?_; rintro e w6 ⟨rfl, hs6, _⟩
  have HV2 := Lib.hid (two_vac0 hs6 hgood.out (Int.le_refl hz) (by unfold NMAX; omega))
  clear hs6 HL2
  have qn : decide ((d : Int) < 0) = false := decide_eq_false (by omega)
  have qd : (b : Int) + (d : Int) - (b : Int) = (d : Int) := by omega
  go_wp2_with fail
  refine HV2.out.mono ?_; rintro e w7 ⟨rfl, hs7⟩
  have HV3 := Lib.hid (two_vac0 hs7 hgood.out hh2 (by unfold NMAX; omega))
  clear hs7 HV2
  go_wp2_with fail
  refine HV3.out.mono ?_; rintro e w8 ⟨rfl, hs8⟩
  have HS8 := Lib.hid hs8
  clear hs8 HV3
  go_wp2_with fail
  go_loopw [65] (fun v wr => VaRel w1 s t hz nv n v wr) (fun v _ => n - (intOf v).toNat)
  case atStart => exact ⟨0, vacR R hz, R, rfl, by omega, HS8.out, VacSame.vac hgood.out hz⟩
  case round =>
    obtain ⟨i, R1, R2, rfl, hi, htw, hsame⟩ := hrel
    have HTW := Lib.hid htw
    have HSM := Lib.hid hsame
    have HO := Lib.hid (show Only NoneOf w wr from by
      obtain ⟨_, _, _, _, h, _⟩ := htw
      exact HO1.out.trans h)
    clear htw hsame
    by_cases hlt : i < n
    · have hx : xs[i]? = some (xs[i]'(by rw [HN.out]; exact hlt)) := List.getElem?_eq_getElem _
      generalize xs[i]'(by rw [HN.out]; exact hlt) = x at hx
      obtain ⟨g, off, Ab, cb, rfl, hg, d0, d1, d2, d3, d4, d5, hbx, hks⟩ := (HX.out.keep HO.out) i x hx
      have HBY0 := Lib.hid (show BytesAt w1 Ab x.bs from by
        obtain ⟨g2, off2, Ab2, cb2, hA2, hg2, e0, e1, e2, e3, e4, e5, hby2, _⟩ := (HX.out.keep HO1.out) i x hx
        injection hA2 with hA2
        injection hA2 with h1 h2 _
        subst h1; subst h2
        obtain ⟨_, _, _, _, hO, _⟩ := HTW.out
        have := (hO.cell (p := ⟨g, off + i * 6 + 3, none⟩) hg2 (fun h => h)).trans e3
        rw [d3] at this
        injection this with this
        injection this with h1 _ _
        rw [h1]
        exact hby2)
      have hal : Only NoneOf wr (wr.alloc (.cells (stepC x.kind x.key x.st (.slice Ab x.bs.length cb) x.dead x.tt) 29)) := (Only.refl _ _).alloc _
      have HTA := Lib.hid (HTW.out.keep hal)
      have hlt' : nv + i < NMAX := by unfold NMAX; omega
      have fin : ∀ u R1' R2', TwoSt w1 s t R1' R2' (nv + i + 1) u → VacSame hz R1' R2' → VaRel w1 s t hz nv n (.int .i64 ((i : Int) + 1)) u := fun u R1' R2' h1 h2 =>
        ⟨i + 1, R1', R2', by rw [show ((i + 1 : Nat) : Int) = (i : Int) + 1 by omega], by omega, by rw [← Nat.add_assoc]; exact h1, h2⟩
      have FIN := Lib.hid fin
      clear fin hbx hx hal
      cases q6 : (x.kind == 6)
      · cases q2 : (x.kind == 2)
        · cases q5 : (x.kind == 5)
          · cases q0 : (x.kind == 0)
            · cases qg : decide (hz ≤ x.st)
              · go_wp2_with fail
                exact ⟨FIN.out _ _ _ (HTA.out.more (by omega)) HSM.out, by simp [intOf]; omega⟩
              · have HGE := Lib.hid (of_decide_eq_true qg)
                cases q1 : (x.kind == 1)
                · cases q3 : (x.kind == 3)
                  · go_wp2_with fail
                    exact ⟨FIN.out _ _ _ (HTA.out.more (by omega)) HSM.out, by simp [intOf]; omega⟩
                  · have HASK := Lib.hid (show VacAsk hz x from .inr (.inr (.inr ⟨HGE.out, .inr (eq_of_beq q3)⟩)))
                    obtain ⟨T1, T2, h1, h2w, h3, h4, h5⟩ := HTW.out
                    have hal : Only NoneOf wr (wr.alloc (.cells (stepC x.kind x.key x.st (.slice Ab x.bs.length cb) x.dead x.tt) 29)) := (Only.refl _ _).alloc _
                    have HG0 := Lib.hid (show TwoG w1 s t T1 T2 R1 R2 x (nv + i) (nv + i) wr.heap.size (stepC x.kind x.key x.st (.slice Ab x.bs.length cb) x.dead x.tt) 0 (wr.alloc (.cells (stepC x.kind x.key x.st (.slice Ab x.bs.length cb) x.dead x.tt) 29)) from
                      ⟨h1.keep hal, h2w.keep hal, h3.trans hal, Blk.new _ _ _⟩)
                    have HT1 := Lib.hid h4
                    have HT2 := Lib.hid h5
                    have HBY := Lib.hid (show BytesAt w1 Ab x.bs from HBY0.out)
                    have hb1 : ¬ T1 wr.heap.size := fun h => by have := h1.lt h; omega
                    have hb2 : ¬ T2 wr.heap.size := fun h => by have := h2w.lt h; omega
                    have hlow : ∀ k, T1 k ∨ T2 k → k < wr.heap.size := fun k hk => hk.elim (fun h => h1.lt h) (fun h => h2w.lt h)
                    have HF := Lib.hid (ansR_fit h1 (by omega) x)
                    have HAN := Lib.hid (HSM.out.ans HASK.out)
                    have HSTEP := Lib.hid (HSM.out.step HTW.out.good.1 HTW.out.good.2 HASK.out)
                    clear h1 h2w h3 h4 h5 hal
                    go_upto_region 18 with (fail)
                    refine wp_region_head2 6 124 [] (fun _ => none) (fun i => match i with | 2 => some 0 | 5 => some 1 | _ => none) (fun k => T1 k ∨ T2 k) (TwoG w1 s t T1 T2 R1 R2 x (nv + i) (nv + i) wr.heap.size (stepC x.kind x.key x.st (.slice Ab x.bs.length cb) x.dead x.tt)) (TwoT x Ab cb s t R1 R2 wr.heap.size) rfl (by kernel_rfl) (by kernel_rfl) ?hskip ?hgv (TwoT_keep _ _ _ _ _ _ _ _ hlow) HG0.out.drew ?hstep ?hend
                    case hskip =>
                      intro i o hi ho hw k
                      have : i = 0 ∨ i = 1 ∨ i = 2 ∨ i = 3 ∨ i = 4 ∨ i = 5 := by omega
                      rcases this with rfl | rfl | rfl | rfl | rfl | rfl
                      · rfl
                      · rfl
                      · obtain rfl := Option.some.inj (ho : some _ = some o); exact absurd (show true = false from hw) (by decide)
                      · rfl
                      · rfl
                      · obtain rfl := Option.some.inj (ho : some _ = some o); exact absurd (show true = false from hw) (by decide)
                    case hgv =>
                      intro g hg v w h
                      cases hg
                    case hstep =>
                      intro i o hi ho a u k hk hik hs ht
                      have e7 : a.tmps.getD 7 undef = .pointer (some ⟨s, 0, none⟩) := hs 7 (of_decide_eq_true (by kernel_rfl))
                      have e8 : a.tmps.getD 8 undef = .pointer (some ⟨t, 0, none⟩) := hs 8 (of_decide_eq_true (by kernel_rfl))
                      have e15 : a.tmps.getD 15 undef = .pointer (some ⟨wr.heap.size, 0, none⟩) := hs 15 (of_decide_eq_true (by kernel_rfl))
                      have : i = 0 ∨ i = 1 ∨ i = 2 ∨ i = 3 ∨ i = 4 ∨ i = 5 := by omega
                      rcases this with rfl | rfl | rfl | rfl | rfl | rfl
                      · obtain rfl := Option.some.inj (ho : some _ = some o)
                        rw [if_pos (by decide)]
                        exact left2_value (.pointer (some ⟨s, 0, none⟩)) (by simp [go_sem, e7]) rfl rfl hk
                      · obtain rfl := Option.some.inj (ho : some _ = some o)
                        rw [if_pos (by decide)]
                        exact left2_load 29 (.tmp 15) wr.heap.size 29 _ _ rfl e15 hk.row Try.underlying29 rfl info29 rfl rfl hk
                      · obtain rfl := Option.some.inj (ho : some _ = some o)
                        rw [if_pos (by decide)]
                        have s0 : a.tmps.getD 115 undef = .pointer (some ⟨s, 0, none⟩) := ht 0 (by omega) (by kernel_rfl)
                        have s0c : a.tmps.getD 115 undef = .pointer (some ⟨s, 0, none⟩) := ht 0 (by omega) (by kernel_rfl)
                        have s1c : a.tmps.getD 116 undef = .agg (stepC x.kind x.key x.st (.slice Ab x.bs.length cb) x.dead x.tt) := ht 1 (by omega) (by kernel_rfl)
                        obtain rfl : k = 0 := by
                          rcases hik with h | h
                          · cases h
                          · injection h with h; exact h.symm
                        refine left2_turns 17 #[.pointer (some ⟨s, 0, none⟩), .agg (stepC x.kind x.key x.st (.slice Ab x.bs.length cb) x.dead x.tt)] (by simp [go_sem, s0c, s1c]) ?_ rfl
                        exact two_first hk Ab cb (by omega) hks HBY.out HT1.out hb1 (Nat.le_of_lt hk.row.lt)
                      · obtain rfl := Option.some.inj (ho : some _ = some o)
                        rw [if_pos (by decide)]
                        exact left2_value (.pointer (some ⟨t, 0, none⟩)) (by simp [go_sem, e8]) rfl rfl hk
                      · obtain rfl := Option.some.inj (ho : some _ = some o)
                        rw [if_pos (by decide)]
                        exact left2_load 29 (.tmp 15) wr.heap.size 29 _ _ rfl e15 hk.row Try.underlying29 rfl info29 rfl rfl hk
                      · obtain rfl := Option.some.inj (ho : some _ = some o)
                        rw [if_pos (by decide)]
                        have s3 : a.tmps.getD 118 undef = .pointer (some ⟨t, 0, none⟩) := ht 3 (by omega) (by kernel_rfl)
                        have s3c : a.tmps.getD 118 undef = .pointer (some ⟨t, 0, none⟩) := ht 3 (by omega) (by kernel_rfl)
                        have s4c : a.tmps.getD 119 undef = .agg (stepC x.kind x.key x.st (.slice Ab x.bs.length cb) x.dead x.tt) := ht 4 (by omega) (by kernel_rfl)
                        obtain rfl : k = 1 := by
                          rcases hik with h | h
                          · cases h
                          · injection h with h; exact h.symm
                        refine left2_turns 17 #[.pointer (some ⟨t, 0, none⟩), .agg (stepC x.kind x.key x.st (.slice Ab x.bs.length cb) x.dead x.tt)] (by simp [go_sem, s3c, s4c]) ?_ rfl
                        exact two_second hk Ab cb (by omega) hks HBY.out HT2.out hb2 (Nat.le_of_lt hk.row.lt)
                    case hend =>
                      intro V' u k hk hkt hV'
                      have v0 : V' 0 = .pointer (some ⟨s, 0, none⟩) := hV' 0 (by omega)
                      have v1 : V' 1 = .agg (stepC x.kind x.key x.st (.slice Ab x.bs.length cb) x.dead x.tt) := hV' 1 (by omega)
                      obtain ⟨cs0, v2, hcs0⟩ : TellV wr.heap.size (ansR R1 x) (V' 2) u := hV' 2 (by omega)
                      have v3 : V' 3 = .pointer (some ⟨t, 0, none⟩) := hV' 3 (by omega)
                      have v4 : V' 4 = .agg (stepC x.kind x.key x.st (.slice Ab x.bs.length cb) x.dead x.tt) := hV' 4 (by omega)
                      obtain ⟨cs1, v5, hcs1⟩ : TellV wr.heap.size (ansR R2 x) (V' 5) u := hV' 5 (by omega)
                      have hk0 : 0 < k := hkt 2 0 (by omega) rfl
                      have hk1 : 1 < k := hkt 5 1 (by omega) rfl
                      change wpList _ _ _ _ (Act.put (Act.put (Act.put (Act.put (Act.put (Act.put _ (some 115) (V' 0)) (some 116) (V' 1)) (some 117) (V' 2)) (some 118) (V' 3)) (some 119) (V' 4)) (some 120) (V' 5)) _
                      rw [v0, v1, v2, v3, v4, v5]
                      simp only [Act.put, List.setIfInBounds_toArray, List.set_cons_zero, List.set_cons_succ]
                      simp only [List.drop_succ_cons, List.drop_zero]
                      clear hV' v0 v1 v2 v3 v4 v5
                      have hend := hk.end hk1
                      have HAL := Lib.hid (alike_same u cs0 cs1 (ansR R1 x) HF.out hcs0.at (by rw [HAN.out]; exact hcs1.at))
                      have HEND := Lib.hid hend
                      clear hk hkt hk0 hk1 hend hcs0 hcs1
                      go_wp2_with fail
                      refine HAL.out.mono ?_; rintro e u2 ⟨rfl, ho2⟩
                      have HO2 := Lib.hid ho2
                      clear ho2
                      go_wp2_with fail
                      obtain ⟨T1', T2', h1, h2, h3, h4, h5⟩ := HEND.out
                      exact ⟨FIN.out _ _ _ (TwoSt.keep ⟨T1', T2', h1, h2, h3, h4, h5⟩ HO2.out) HSTEP.out, by simp [intOf]; omega⟩
                · have HASK := Lib.hid (show VacAsk hz x from .inr (.inr (.inr ⟨HGE.out, .inl (eq_of_beq q1)⟩)))
                  obtain ⟨T1, T2, h1, h2w, h3, h4, h5⟩ := HTW.out
                  have hal : Only NoneOf wr (wr.alloc (.cells (stepC x.kind x.key x.st (.slice Ab x.bs.length cb) x.dead x.tt) 29)) := (Only.refl _ _).alloc _
                  have HG0 := Lib.hid (show TwoG w1 s t T1 T2 R1 R2 x (nv + i) (nv + i) wr.heap.size (stepC x.kind x.key x.st (.slice Ab x.bs.length cb) x.dead x.tt) 0 (wr.alloc (.cells (stepC x.kind x.key x.st (.slice Ab x.bs.length cb) x.dead x.tt) 29)) from
                    ⟨h1.keep hal, h2w.keep hal, h3.trans hal, Blk.new _ _ _⟩)
                  have HT1 := Lib.hid h4
                  have HT2 := Lib.hid h5
                  have HBY := Lib.hid (show BytesAt w1 Ab x.bs from HBY0.out)
                  have hb1 : ¬ T1 wr.heap.size := fun h => by have := h1.lt h; omega
                  have hb2 : ¬ T2 wr.heap.size := fun h => by have := h2w.lt h; omega
                  have hlow : ∀ k, T1 k ∨ T2 k → k < wr.heap.size := fun k hk => hk.elim (fun h => h1.lt h) (fun h => h2w.lt h)
                  have HF := Lib.hid (ansR_fit h1 (by omega) x)
                  have HAN := Lib.hid (HSM.out.ans HASK.out)
                  have HSTEP := Lib.hid (HSM.out.step HTW.out.good.1 HTW.out.good.2 HASK.out)
                  clear h1 h2w h3 h4 h5 hal
                  go_upto_region 18 with (fail)
                  refine wp_region_head2 6 124 [] (fun _ => none) (fun i => match i with | 2 => some 0 | 5 => some 1 | _ => none) (fun k => T1 k ∨ T2 k) (TwoG w1 s t T1 T2 R1 R2 x (nv + i) (nv + i) wr.heap.size (stepC x.kind x.key x.st (.slice Ab x.bs.length cb) x.dead x.tt)) (TwoT x Ab cb s t R1 R2 wr.heap.size) rfl (by kernel_rfl) (by kernel_rfl) ?hskip ?hgv (TwoT_keep _ _ _ _ _ _ _ _ hlow) HG0.out.drew ?hstep ?hend
                  case hskip =>
                    intro i o hi ho hw k
                    have : i = 0 ∨ i = 1 ∨ i = 2 ∨ i = 3 ∨ i = 4 ∨ i = 5 := by omega
                    rcases this with rfl | rfl | rfl | rfl | rfl | rfl
                    · rfl
                    · rfl
                    · obtain rfl := Option.some.inj (ho : some _ = some o); exact absurd (show true = false from hw) (by decide)
                    · rfl
                    · rfl
                    · obtain rfl := Option.some.inj (ho : some _ = some o); exact absurd (show true = false from hw) (by decide)
                  case hgv =>
                    intro g hg v w h
                    cases hg
                  case hstep =>
                    intro i o hi ho a u k hk hik hs ht
                    have e7 : a.tmps.getD 7 undef = .pointer (some ⟨s, 0, none⟩) := hs 7 (of_decide_eq_true (by kernel_rfl))
                    have e8 : a.tmps.getD 8 undef = .pointer (some ⟨t, 0, none⟩) := hs 8 (of_decide_eq_true (by kernel_rfl))
                    have e15 : a.tmps.getD 15 undef = .pointer (some ⟨wr.heap.size, 0, none⟩) := hs 15 (of_decide_eq_true (by kernel_rfl))
                    have : i = 0 ∨ i = 1 ∨ i = 2 ∨ i = 3 ∨ i = 4 ∨ i = 5 := by omega
                    rcases this with rfl | rfl | rfl | rfl | rfl | rfl
                    · obtain rfl := Option.some.inj (ho : some _ = some o)
                      rw [if_pos (by decide)]
                      exact left2_value (.pointer (some ⟨s, 0, none⟩)) (by simp [go_sem, e7]) rfl rfl hk
                    · obtain rfl := Option.some.inj (ho : some _ = some o)
                      rw [if_pos (by decide)]
                      exact left2_load 29 (.tmp 15) wr.heap.size 29 _ _ rfl e15 hk.row Try.underlying29 rfl info29 rfl rfl hk
                    · obtain rfl := Option.some.inj (ho : some _ = some o)
                      rw [if_pos (by decide)]
                      have s0 : a.tmps.getD 115 undef = .pointer (some ⟨s, 0, none⟩) := ht 0 (by omega) (by kernel_rfl)
                      have s0c : a.tmps.getD 115 undef = .pointer (some ⟨s, 0, none⟩) := ht 0 (by omega) (by kernel_rfl)
                      have s1c : a.tmps.getD 116 undef = .agg (stepC x.kind x.key x.st (.slice Ab x.bs.length cb) x.dead x.tt) := ht 1 (by omega) (by kernel_rfl)
                      obtain rfl : k = 0 := by
                        rcases hik with h | h
                        · cases h
                        · injection h with h; exact h.symm
                      refine left2_turns 17 #[.pointer (some ⟨s, 0, none⟩), .agg (stepC x.kind x.key x.st (.slice Ab x.bs.length cb) x.dead x.tt)] (by simp [go_sem, s0c, s1c]) ?_ rfl
                      exact two_first hk Ab cb (by omega) hks HBY.out HT1.out hb1 (Nat.le_of_lt hk.row.lt)
                    · obtain rfl := Option.some.inj (ho : some _ = some o)
                      rw [if_pos (by decide)]
                      exact left2_value (.pointer (some ⟨t, 0, none⟩)) (by simp [go_sem, e8]) rfl rfl hk
                    · obtain rfl := Option.some.inj (ho : some _ = some o)
                      rw [if_pos (by decide)]
                      exact left2_load 29 (.tmp 15) wr.heap.size 29 _ _ rfl e15 hk.row Try.underlying29 rfl info29 rfl rfl hk
                    · obtain rfl := Option.some.inj (ho : some _ = some o)
                      rw [if_pos (by decide)]
                      have s3 : a.tmps.getD 118 undef = .pointer (some ⟨t, 0, none⟩) := ht 3 (by omega) (by kernel_rfl)
                      have s3c : a.tmps.getD 118 undef = .pointer (some ⟨t, 0, none⟩) := ht 3 (by omega) (by kernel_rfl)
                      have s4c : a.tmps.getD 119 undef = .agg (stepC x.kind x.key x.st (.slice Ab x.bs.length cb) x.dead x.tt) := ht 4 (by omega) (by kernel_rfl)
                      obtain rfl : k = 1 := by
                        rcases hik with h | h
                        · cases h
                        · injection h with h; exact h.symm
                      refine left2_turns 17 #[.pointer (some ⟨t, 0, none⟩), .agg (stepC x.kind x.key x.st (.slice Ab x.bs.length cb) x.dead x.tt)] (by simp [go_sem, s3c, s4c]) ?_ rfl
                      exact two_second hk Ab cb (by omega) hks HBY.out HT2.out hb2 (Nat.le_of_lt hk.row.lt)
                  case hend =>
                    intro V' u k hk hkt hV'
                    have v0 : V' 0 = .pointer (some ⟨s, 0, none⟩) := hV' 0 (by omega)
                    have v1 : V' 1 = .agg (stepC x.kind x.key x.st (.slice Ab x.bs.length cb) x.dead x.tt) := hV' 1 (by omega)
                    obtain ⟨cs0, v2, hcs0⟩ : TellV wr.heap.size (ansR R1 x) (V' 2) u := hV' 2 (by omega)
                    have v3 : V' 3 = .pointer (some ⟨t, 0, none⟩) := hV' 3 (by omega)
                    have v4 : V' 4 = .agg (stepC x.kind x.key x.st (.slice Ab x.bs.length cb) x.dead x.tt) := hV' 4 (by omega)
                    obtain ⟨cs1, v5, hcs1⟩ : TellV wr.heap.size (ansR R2 x) (V' 5) u := hV' 5 (by omega)
                    have hk0 : 0 < k := hkt 2 0 (by omega) rfl
                    have hk1 : 1 < k := hkt 5 1 (by omega) rfl
                    change wpList _ _ _ _ (Act.put (Act.put (Act.put (Act.put (Act.put (Act.put _ (some 115) (V' 0)) (some 116) (V' 1)) (some 117) (V' 2)) (some 118) (V' 3)) (some 119) (V' 4)) (some 120) (V' 5)) _
                    rw [v0, v1, v2, v3, v4, v5]
                    simp only [Act.put, List.setIfInBounds_toArray, List.set_cons_zero, List.set_cons_succ]
                    simp only [List.drop_succ_cons, List.drop_zero]
                    clear hV' v0 v1 v2 v3 v4 v5
                    have hend := hk.end hk1
                    have HAL := Lib.hid (alike_same u cs0 cs1 (ansR R1 x) HF.out hcs0.at (by rw [HAN.out]; exact hcs1.at))
                    have HEND := Lib.hid hend
                    clear hk hkt hk0 hk1 hend hcs0 hcs1
                    go_wp2_with fail
                    refine HAL.out.mono ?_; rintro e u2 ⟨rfl, ho2⟩
                    have HO2 := Lib.hid ho2
                    clear ho2
                    go_wp2_with fail
                    obtain ⟨T1', T2', h1, h2, h3, h4, h5⟩ := HEND.out
                    exact ⟨FIN.out _ _ _ (TwoSt.keep ⟨T1', T2', h1, h2, h3, h4, h5⟩ HO2.out) HSTEP.out, by simp [intOf]; omega⟩
            · have HASK := Lib.hid (show VacAsk hz x from .inr (.inr (.inl (eq_of_beq q0))))
              obtain ⟨T1, T2, h1, h2w, h3, h4, h5⟩ := HTW.out
              have hal : Only NoneOf wr (wr.alloc (.cells (stepC x.kind x.key x.st (.slice Ab x.bs.length cb) x.dead x.tt) 29)) := (Only.refl _ _).alloc _
              have HG0 := Lib.hid (show TwoG w1 s t T1 T2 R1 R2 x (nv + i) (nv + i) wr.heap.size (stepC x.kind x.key x.st (.slice Ab x.bs.length cb) x.dead x.tt) 0 (wr.alloc (.cells (stepC x.kind x.key x.st (.slice Ab x.bs.length cb) x.dead x.tt) 29)) from
                ⟨h1.keep hal, h2w.keep hal, h3.trans hal, Blk.new _ _ _⟩)
              have HT1 := Lib.hid h4
              have HT2 := Lib.hid h5
              have HBY := Lib.hid (show BytesAt w1 Ab x.bs from HBY0.out)
              have hb1 : ¬ T1 wr.heap.size := fun h => by have := h1.lt h; omega
              have hb2 : ¬ T2 wr.heap.size := fun h => by have := h2w.lt h; omega
              have hlow : ∀ k, T1 k ∨ T2 k → k < wr.heap.size := fun k hk => hk.elim (fun h => h1.lt h) (fun h => h2w.lt h)
              have HF := Lib.hid (ansR_fit h1 (by omega) x)
              have HAN := Lib.hid (HSM.out.ans HASK.out)
              have HSTEP := Lib.hid (HSM.out.step HTW.out.good.1 HTW.out.good.2 HASK.out)
              clear h1 h2w h3 h4 h5 hal
              go_upto_region 18 with (fail)
              refine wp_region_head2 6 124 [] (fun _ => none) (fun i => match i with | 2 => some 0 | 5 => some 1 | _ => none) (fun k => T1 k ∨ T2 k) (TwoG w1 s t T1 T2 R1 R2 x (nv + i) (nv + i) wr.heap.size (stepC x.kind x.key x.st (.slice Ab x.bs.length cb) x.dead x.tt)) (TwoT x Ab cb s t R1 R2 wr.heap.size) rfl (by kernel_rfl) (by kernel_rfl) ?hskip ?hgv (TwoT_keep _ _ _ _ _ _ _ _ hlow) HG0.out.drew ?hstep ?hend
              case hskip =>
                intro i o hi ho hw k
                have : i = 0 ∨ i = 1 ∨ i = 2 ∨ i = 3 ∨ i = 4 ∨ i = 5 := by omega
                rcases this with rfl | rfl | rfl | rfl | rfl | rfl
                · rfl
                · rfl
                · obtain rfl := Option.some.inj (ho : some _ = some o); exact absurd (show true = false from hw) (by decide)
                · rfl
                · rfl
                · obtain rfl := Option.some.inj (ho : some _ = some o); exact absurd (show true = false from hw) (by decide)
              case hgv =>
                intro g hg v w h
                cases hg
              case hstep =>
                intro i o hi ho a u k hk hik hs ht
                have e7 : a.tmps.getD 7 undef = .pointer (some ⟨s, 0, none⟩) := hs 7 (of_decide_eq_true (by kernel_rfl))
                have e8 : a.tmps.getD 8 undef = .pointer (some ⟨t, 0, none⟩) := hs 8 (of_decide_eq_true (by kernel_rfl))
                have e15 : a.tmps.getD 15 undef = .pointer (some ⟨wr.heap.size, 0, none⟩) := hs 15 (of_decide_eq_true (by kernel_rfl))
                have : i = 0 ∨ i = 1 ∨ i = 2 ∨ i = 3 ∨ i = 4 ∨ i = 5 := by omega
                rcases this with rfl | rfl | rfl | rfl | rfl | rfl
                · obtain rfl := Option.some.inj (ho : some _ = some o)
                  rw [if_pos (by decide)]
                  exact left2_value (.pointer (some ⟨s, 0, none⟩)) (by simp [go_sem, e7]) rfl rfl hk
                · obtain rfl := Option.some.inj (ho : some _ = some o)
                  rw [if_pos (by decide)]
                  exact left2_load 29 (.tmp 15) wr.heap.size 29 _ _ rfl e15 hk.row Try.underlying29 rfl info29 rfl rfl hk
                · obtain rfl := Option.some.inj (ho : some _ = some o)
                  rw [if_pos (by decide)]
                  have s0 : a.tmps.getD 115 undef = .pointer (some ⟨s, 0, none⟩) := ht 0 (by omega) (by kernel_rfl)
                  have s0c : a.tmps.getD 115 undef = .pointer (some ⟨s, 0, none⟩) := ht 0 (by omega) (by kernel_rfl)
                  have s1c : a.tmps.getD 116 undef = .agg (stepC x.kind x.key x.st (.slice Ab x.bs.length cb) x.dead x.tt) := ht 1 (by omega) (by kernel_rfl)
                  obtain rfl : k = 0 := by
                    rcases hik with h | h
                    · cases h
                    · injection h with h; exact h.symm
                  refine left2_turns 17 #[.pointer (some ⟨s, 0, none⟩), .agg (stepC x.kind x.key x.st (.slice Ab x.bs.length cb) x.dead x.tt)] (by simp [go_sem, s0c, s1c]) ?_ rfl
                  exact two_first hk Ab cb (by omega) hks HBY.out HT1.out hb1 (Nat.le_of_lt hk.row.lt)
                · obtain rfl := Option.some.inj (ho : some _ = some o)
                  rw [if_pos (by decide)]
                  exact left2_value (.pointer (some ⟨t, 0, none⟩)) (by simp [go_sem, e8]) rfl rfl hk
                · obtain rfl := Option.some.inj (ho : some _ = some o)
                  rw [if_pos (by decide)]
                  exact left2_load 29 (.tmp 15) wr.heap.size 29 _ _ rfl e15 hk.row Try.underlying29 rfl info29 rfl rfl hk
                · obtain rfl := Option.some.inj (ho : some _ = some o)
                  rw [if_pos (by decide)]
                  have s3 : a.tmps.getD 118 undef = .pointer (some ⟨t, 0, none⟩) := ht 3 (by omega) (by kernel_rfl)
                  have s3c : a.tmps.getD 118 undef = .pointer (some ⟨t, 0, none⟩) := ht 3 (by omega) (by kernel_rfl)
                  have s4c : a.tmps.getD 119 undef = .agg (stepC x.kind x.key x.st (.slice Ab x.bs.length cb) x.dead x.tt) := ht 4 (by omega) (by kernel_rfl)
                  obtain rfl : k = 1 := by
                    rcases hik with h | h
                    · cases h
                    · injection h with h; exact h.symm
                  refine left2_turns 17 #[.pointer (some ⟨t, 0, none⟩), .agg (stepC x.kind x.key x.st (.slice Ab x.bs.length cb) x.dead x.tt)] (by simp [go_sem, s3c, s4c]) ?_ rfl
                  exact two_second hk Ab cb (by omega) hks HBY.out HT2.out hb2 (Nat.le_of_lt hk.row.lt)
              case hend =>
                intro V' u k hk hkt hV'
                have v0 : V' 0 = .pointer (some ⟨s, 0, none⟩) := hV' 0 (by omega)
                have v1 : V' 1 = .agg (stepC x.kind x.key x.st (.slice Ab x.bs.length cb) x.dead x.tt) := hV' 1 (by omega)
                obtain ⟨cs0, v2, hcs0⟩ : TellV wr.heap.size (ansR R1 x) (V' 2) u := hV' 2 (by omega)
                have v3 : V' 3 = .pointer (some ⟨t, 0, none⟩) := hV' 3 (by omega)
                have v4 : V' 4 = .agg (stepC x.kind x.key x.st (.slice Ab x.bs.length cb) x.dead x.tt) := hV' 4 (by omega)
                obtain ⟨cs1, v5, hcs1⟩ : TellV wr.heap.size (ansR R2 x) (V' 5) u := hV' 5 (by omega)
                have hk0 : 0 < k := hkt 2 0 (by omega) rfl
                have hk1 : 1 < k := hkt 5 1 (by omega) rfl
                change wpList _ _ _ _ (Act.put (Act.put (Act.put (Act.put (Act.put (Act.put _ (some 115) (V' 0)) (some 116) (V' 1)) (some 117) (V' 2)) (some 118) (V' 3)) (some 119) (V' 4)) (some 120) (V' 5)) _
                rw [v0, v1, v2, v3, v4, v5]
                simp only [Act.put, List.setIfInBounds_toArray, List.set_cons_zero, List.set_cons_succ]
                simp only [List.drop_succ_cons, List.drop_zero]
                clear hV' v0 v1 v2 v3 v4 v5
                have hend := hk.end hk1
                have HAL := Lib.hid (alike_same u cs0 cs1 (ansR R1 x) HF.out hcs0.at (by rw [HAN.out]; exact hcs1.at))
                have HEND := Lib.hid hend
                clear hk hkt hk0 hk1 hend hcs0 hcs1
                go_wp2_with fail
                refine HAL.out.mono ?_; rintro e u2 ⟨rfl, ho2⟩
                have HO2 := Lib.hid ho2
                clear ho2
                go_wp2_with fail
                obtain ⟨T1', T2', h1, h2, h3, h4, h5⟩ := HEND.out
                exact ⟨FIN.out _ _ _ (TwoSt.keep ⟨T1', T2', h1, h2, h3, h4, h5⟩ HO2.out) HSTEP.out, by simp [intOf]; omega⟩
          · have HASK := Lib.hid (show VacAsk hz x from .inr (.inl (eq_of_beq q5)))
            obtain ⟨T1, T2, h1, h2w, h3, h4, h5⟩ := HTW.out
            have hal : Only NoneOf wr (wr.alloc (.cells (stepC x.kind x.key x.st (.slice Ab x.bs.length cb) x.dead x.tt) 29)) := (Only.refl _ _).alloc _
            have HG0 := Lib.hid (show TwoG w1 s t T1 T2 R1 R2 x (nv + i) (nv + i) wr.heap.size (stepC x.kind x.key x.st (.slice Ab x.bs.length cb) x.dead x.tt) 0 (wr.alloc (.cells (stepC x.kind x.key x.st (.slice Ab x.bs.length cb) x.dead x.tt) 29)) from
              ⟨h1.keep hal, h2w.keep hal, h3.trans hal, Blk.new _ _ _⟩)
            have HT1 := Lib.hid h4
            have HT2 := Lib.hid h5
            have HBY := Lib.hid (show BytesAt w1 Ab x.bs from HBY0.out)
            have hb1 : ¬ T1 wr.heap.size := fun h => by have := h1.lt h; omega
            have hb2 : ¬ T2 wr.heap.size := fun h => by have := h2w.lt h; omega
            have hlow : ∀ k, T1 k ∨ T2 k → k < wr.heap.size := fun k hk => hk.elim (fun h => h1.lt h) (fun h => h2w.lt h)
            have HF := Lib.hid (ansR_fit h1 (by omega) x)
            have HAN := Lib.hid (HSM.out.ans HASK.out)
            have HSTEP := Lib.hid (HSM.out.step HTW.out.good.1 HTW.out.good.2 HASK.out)
            clear h1 h2w h3 h4 h5 hal
            go_upto_region 18 with (fail)
            refine wp_region_head2 6 124 [] (fun _ => none) (fun i => match i with | 2 => some 0 | 5 => some 1 | _ => none) (fun k => T1 k ∨ T2 k) (TwoG w1 s t T1 T2 R1 R2 x (nv + i) (nv + i) wr.heap.size (stepC x.kind x.key x.st (.slice Ab x.bs.length cb) x.dead x.tt)) (TwoT x Ab cb s t R1 R2 wr.heap.size) rfl (by kernel_rfl) (by kernel_rfl) ?hskip ?hgv (TwoT_keep _ _ _ _ _ _ _ _ hlow) HG0.out.drew ?hstep ?hend
            case hskip =>
              intro i o hi ho hw k
              have : i = 0 ∨ i = 1 ∨ i = 2 ∨ i = 3 ∨ i = 4 ∨ i = 5 := by omega
              rcases this with rfl | rfl | rfl | rfl | rfl | rfl
              · rfl
              · rfl
              · obtain rfl := Option.some.inj (ho : some _ = some o); exact absurd (show true = false from hw) (by decide)
              · rfl
              · rfl
              · obtain rfl := Option.some.inj (ho : some _ = some o); exact absurd (show true = false from hw) (by decide)
            case hgv =>
              intro g hg v w h
              cases hg
            case hstep =>
              intro i o hi ho a u k hk hik hs ht
              have e7 : a.tmps.getD 7 undef = .pointer (some ⟨s, 0, none⟩) := hs 7 (of_decide_eq_true (by kernel_rfl))
              have e8 : a.tmps.getD 8 undef = .pointer (some ⟨t, 0, none⟩) := hs 8 (of_decide_eq_true (by kernel_rfl))
              have e15 : a.tmps.getD 15 undef = .pointer (some ⟨wr.heap.size, 0, none⟩) := hs 15 (of_decide_eq_true (by kernel_rfl))
              have : i = 0 ∨ i = 1 ∨ i = 2 ∨ i = 3 ∨ i = 4 ∨ i = 5 := by omega
              rcases this with rfl | rfl | rfl | rfl | rfl | rfl
              · obtain rfl := Option.some.inj (ho : some _ = some o)
                rw [if_pos (by decide)]
                exact left2_value (.pointer (some ⟨s, 0, none⟩)) (by simp [go_sem, e7]) rfl rfl hk
              · obtain rfl := Option.some.inj (ho : some _ = some o)
                rw [if_pos (by decide)]
                exact left2_load 29 (.tmp 15) wr.heap.size 29 _ _ rfl e15 hk.row Try.underlying29 rfl info29 rfl rfl hk
              · obtain rfl := Option.some.inj (ho : some _ = some o)
                rw [if_pos (by decide)]
                have s0 : a.tmps.getD 115 undef = .pointer (some ⟨s, 0, none⟩) := ht 0 (by omega) (by kernel_rfl)
                have s0c : a.tmps.getD 115 undef = .pointer (some ⟨s, 0, none⟩) := ht 0 (by omega) (by kernel_rfl)
                have s1c : a.tmps.getD 116 undef = .agg (stepC x.kind x.key x.st (.slice Ab x.bs.length cb) x.dead x.tt) := ht 1 (by omega) (by kernel_rfl)
                obtain rfl : k = 0 := by
                  rcases hik with h | h
                  · cases h
                  · injection h with h; exact h.symm
                refine left2_turns 17 #[.pointer (some ⟨s, 0, none⟩), .agg (stepC x.kind x.key x.st (.slice Ab x.bs.length cb) x.dead x.tt)] (by simp [go_sem, s0c, s1c]) ?_ rfl
                exact two_first hk Ab cb (by omega) hks HBY.out HT1.out hb1 (Nat.le_of_lt hk.row.lt)
              · obtain rfl := Option.some.inj (ho : some _ = some o)
                rw [if_pos (by decide)]
                exact left2_value (.pointer (some ⟨t, 0, none⟩)) (by simp [go_sem, e8]) rfl rfl hk
              · obtain rfl := Option.some.inj (ho : some _ = some o)
                rw [if_pos (by decide)]
                exact left2_load 29 (.tmp 15) wr.heap.size 29 _ _ rfl e15 hk.row Try.underlying29 rfl info29 rfl rfl hk
              · obtain rfl := Option.some.inj (ho : some _ = some o)
                rw [if_pos (by decide)]
                have s3 : a.tmps.getD 118 undef = .pointer (some ⟨t, 0, none⟩) := ht 3 (by omega) (by kernel_rfl)
                have s3c : a.tmps.getD 118 undef = .pointer (some ⟨t, 0, none⟩) := ht 3 (by omega) (by kernel_rfl)
                have s4c : a.tmps.getD 119 undef = .agg (stepC x.kind x.key x.st (.slice Ab x.bs.length cb) x.dead x.tt) := ht 4 (by omega) (by kernel_rfl)
                obtain rfl : k = 1 := by
                  rcases hik with h | h
                  · cases h
                  · injection h with h; exact h.symm
                refine left2_turns 17 #[.pointer (some ⟨t, 0, none⟩), .agg (stepC x.kind x.key x.st (.slice Ab x.bs.length cb) x.dead x.tt)] (by simp [go_sem, s3c, s4c]) ?_ rfl
                exact two_second hk Ab cb (by omega) hks HBY.out HT2.out hb2 (Nat.le_of_lt hk.row.lt)
            case hend =>
              intro V' u k hk hkt hV'
              have v0 : V' 0 = .pointer (some ⟨s, 0, none⟩) := hV' 0 (by omega)
              have v1 : V' 1 = .agg (stepC x.kind x.key x.st (.slice Ab x.bs.length cb) x.dead x.tt) := hV' 1 (by omega)
              obtain ⟨cs0, v2, hcs0⟩ : TellV wr.heap.size (ansR R1 x) (V' 2) u := hV' 2 (by omega)
              have v3 : V' 3 = .pointer (some ⟨t, 0, none⟩) := hV' 3 (by omega)
              have v4 : V' 4 = .agg (stepC x.kind x.key x.st (.slice Ab x.bs.length cb) x.dead x.tt) := hV' 4 (by omega)
              obtain ⟨cs1, v5, hcs1⟩ : TellV wr.heap.size (ansR R2 x) (V' 5) u := hV' 5 (by omega)
              have hk0 : 0 < k := hkt 2 0 (by omega) rfl
              have hk1 : 1 < k := hkt 5 1 (by omega) rfl
              change wpList _ _ _ _ (Act.put (Act.put (Act.put (Act.put (Act.put (Act.put _ (some 115) (V' 0)) (some 116) (V' 1)) (some 117) (V' 2)) (some 118) (V' 3)) (some 119) (V' 4)) (some 120) (V' 5)) _
              rw [v0, v1, v2, v3, v4, v5]
              simp only [Act.put, List.setIfInBounds_toArray, List.set_cons_zero, List.set_cons_succ]
              simp only [List.drop_succ_cons, List.drop_zero]
              clear hV' v0 v1 v2 v3 v4 v5
              have hend := hk.end hk1
              have HAL := Lib.hid (alike_same u cs0 cs1 (ansR R1 x) HF.out hcs0.at (by rw [HAN.out]; exact hcs1.at))
              have HEND := Lib.hid hend
              clear hk hkt hk0 hk1 hend hcs0 hcs1
              go_wp2_with fail
              refine HAL.out.mono ?_; rintro e u2 ⟨rfl, ho2⟩
              have HO2 := Lib.hid ho2
              clear ho2
              go_wp2_with fail
              obtain ⟨T1', T2', h1, h2, h3, h4, h5⟩ := HEND.out
              exact ⟨FIN.out _ _ _ (TwoSt.keep ⟨T1', T2', h1, h2, h3, h4, h5⟩ HO2.out) HSTEP.out, by simp [intOf]; omega⟩
        · have HASK := Lib.hid (show VacAsk hz x from .inl (eq_of_beq q2))
          obtain ⟨T1, T2, h1, h2w, h3, h4, h5⟩ := HTW.out
          have hal : Only NoneOf wr (wr.alloc (.cells (stepC x.kind x.key x.st (.slice Ab x.bs.length cb) x.dead x.tt) 29)) := (Only.refl _ _).alloc _
          have HG0 := Lib.hid (show TwoG w1 s t T1 T2 R1 R2 x (nv + i) (nv + i) wr.heap.size (stepC x.kind x.key x.st (.slice Ab x.bs.length cb) x.dead x.tt) 0 (wr.alloc (.cells (stepC x.kind x.key x.st (.slice Ab x.bs.length cb) x.dead x.tt) 29)) from
            ⟨h1.keep hal, h2w.keep hal, h3.trans hal, Blk.new _ _ _⟩)
          have HT1 := Lib.hid h4
          have HT2 := Lib.hid h5
          have HBY := Lib.hid (show BytesAt w1 Ab x.bs from HBY0.out)
          have hb1 : ¬ T1 wr.heap.size := fun h => by have := h1.lt h; omega
          have hb2 : ¬ T2 wr.heap.size := fun h => by have := h2w.lt h; omega
          have hlow : ∀ k, T1 k ∨ T2 k → k < wr.heap.size := fun k hk => hk.elim (fun h => h1.lt h) (fun h => h2w.lt h)
          have HF := Lib.hid (ansR_fit h1 (by omega) x)
          have HAN := Lib.hid (HSM.out.ans HASK.out)
          have HSTEP := Lib.hid (HSM.out.step HTW.out.good.1 HTW.out.good.2 HASK.out)
          clear h1 h2w h3 h4 h5 hal
          go_upto_region 18 with (fail)
          refine wp_region_head2 6 124 [] (fun _ => none) (fun i => match i with | 2 => some 0 | 5 => some 1 | _ => none) (fun k => T1 k ∨ T2 k) (TwoG w1 s t T1 T2 R1 R2 x (nv + i) (nv + i) wr.heap.size (stepC x.kind x.key x.st (.slice Ab x.bs.length cb) x.dead x.tt)) (TwoT x Ab cb s t R1 R2 wr.heap.size) rfl (by kernel_rfl) (by kernel_rfl) ?hskip ?hgv (TwoT_keep _ _ _ _ _ _ _ _ hlow) HG0.out.drew ?hstep ?hend
          case hskip =>
            intro i o hi ho hw k
            have : i = 0 ∨ i = 1 ∨ i = 2 ∨ i = 3 ∨ i = 4 ∨ i = 5 := by omega
            rcases this with rfl | rfl | rfl | rfl | rfl | rfl
            · rfl
            · rfl
            · obtain rfl := Option.some.inj (ho : some _ = some o); exact absurd (show true = false from hw) (by decide)
            · rfl
            · rfl
            · obtain rfl := Option.some.inj (ho : some _ = some o); exact absurd (show true = false from hw) (by decide)
          case hgv =>
            intro g hg v w h
            cases hg
          case hstep =>
            intro i o hi ho a u k hk hik hs ht
            have e7 : a.tmps.getD 7 undef = .pointer (some ⟨s, 0, none⟩) := hs 7 (of_decide_eq_true (by kernel_rfl))
            have e8 : a.tmps.getD 8 undef = .pointer (some ⟨t, 0, none⟩) := hs 8 (of_decide_eq_true (by kernel_rfl))
            have e15 : a.tmps.getD 15 undef = .pointer (some ⟨wr.heap.size, 0, none⟩) := hs 15 (of_decide_eq_true (by kernel_rfl))
            have : i = 0 ∨ i = 1 ∨ i = 2 ∨ i = 3 ∨ i = 4 ∨ i = 5 := by omega
            rcases this with rfl | rfl | rfl | rfl | rfl | rfl
            · obtain rfl := Option.some.inj (ho : some _ = some o)
              rw [if_pos (by decide)]
              exact left2_value (.pointer (some ⟨s, 0, none⟩)) (by simp [go_sem, e7]) rfl rfl hk
            · obtain rfl := Option.some.inj (ho : some _ = some o)
              rw [if_pos (by decide)]
              exact left2_load 29 (.tmp 15) wr.heap.size 29 _ _ rfl e15 hk.row Try.underlying29 rfl info29 rfl rfl hk
            · obtain rfl := Option.some.inj (ho : some _ = some o)
              rw [if_pos (by decide)]
              have s0 : a.tmps.getD 115 undef = .pointer (some ⟨s, 0, none⟩) := ht 0 (by omega) (by kernel_rfl)
              have s0c : a.tmps.getD 115 undef = .pointer (some ⟨s, 0, none⟩) := ht 0 (by omega) (by kernel_rfl)
              have s1c : a.tmps.getD 116 undef = .agg (stepC x.kind x.key x.st (.slice Ab x.bs.length cb) x.dead x.tt) := ht 1 (by omega) (by kernel_rfl)
              obtain rfl : k = 0 := by
                rcases hik with h | h
                · cases h
                · injection h with h; exact h.symm
              refine left2_turns 17 #[.pointer (some ⟨s, 0, none⟩), .agg (stepC x.kind x.key x.st (.slice Ab x.bs.length cb) x.dead x.tt)] (by simp [go_sem, s0c, s1c]) ?_ rfl
              exact two_first hk Ab cb (by omega) hks HBY.out HT1.out hb1 (Nat.le_of_lt hk.row.lt)
            · obtain rfl := Option.some.inj (ho : some _ = some o)
              rw [if_pos (by decide)]
              exact left2_value (.pointer (some ⟨t, 0, none⟩)) (by simp [go_sem, e8]) rfl rfl hk
            · obtain rfl := Option.some.inj (ho : some _ = some o)
              rw [if_pos (by decide)]
              exact left2_load 29 (.tmp 15) wr.heap.size 29 _ _ rfl e15 hk.row Try.underlying29 rfl info29 rfl rfl hk
            · obtain rfl := Option.some.inj (ho : some _ = some o)
              rw [if_pos (by decide)]
              have s3 : a.tmps.getD 118 undef = .pointer (some ⟨t, 0, none⟩) := ht 3 (by omega) (by kernel_rfl)
              have s3c : a.tmps.getD 118 undef = .pointer (some ⟨t, 0, none⟩) := ht 3 (by omega) (by kernel_rfl)
              have s4c : a.tmps.getD 119 undef = .agg (stepC x.kind x.key x.st (.slice Ab x.bs.length cb) x.dead x.tt) := ht 4 (by omega) (by kernel_rfl)
              obtain rfl : k = 1 := by
                rcases hik with h | h
                · cases h
                · injection h with h; exact h.symm
              refine left2_turns 17 #[.pointer (some ⟨t, 0, none⟩), .agg (stepC x.kind x.key x.st (.slice Ab x.bs.length cb) x.dead x.tt)] (by simp [go_sem, s3c, s4c]) ?_ rfl
              exact two_second hk Ab cb (by omega) hks HBY.out HT2.out hb2 (Nat.le_of_lt hk.row.lt)
          case hend =>
            intro V' u k hk hkt hV'
            have v0 : V' 0 = .pointer (some ⟨s, 0, none⟩) := hV' 0 (by omega)
            have v1 : V' 1 = .agg (stepC x.kind x.key x.st (.slice Ab x.bs.length cb) x.dead x.tt) := hV' 1 (by omega)
            obtain ⟨cs0, v2, hcs0⟩ : TellV wr.heap.size (ansR R1 x) (V' 2) u := hV' 2 (by omega)
            have v3 : V' 3 = .pointer (some ⟨t, 0, none⟩) := hV' 3 (by omega)
            have v4 : V' 4 = .agg (stepC x.kind x.key x.st (.slice Ab x.bs.length cb) x.dead x.tt) := hV' 4 (by omega)
            obtain ⟨cs1, v5, hcs1⟩ : TellV wr.heap.size (ansR R2 x) (V' 5) u := hV' 5 (by omega)
            have hk0 : 0 < k := hkt 2 0 (by omega) rfl
            have hk1 : 1 < k := hkt 5 1 (by omega) rfl
            change wpList _ _ _ _ (Act.put (Act.put (Act.put (Act.put (Act.put (Act.put _ (some 115) (V' 0)) (some 116) (V' 1)) (some 117) (V' 2)) (some 118) (V' 3)) (some 119) (V' 4)) (some 120) (V' 5)) _
            rw [v0, v1, v2, v3, v4, v5]
            simp only [Act.put, List.setIfInBounds_toArray, List.set_cons_zero, List.set_cons_succ]
            simp only [List.drop_succ_cons, List.drop_zero]
            clear hV' v0 v1 v2 v3 v4 v5
            have hend := hk.end hk1
            have HAL := Lib.hid (alike_same u cs0 cs1 (ansR R1 x) HF.out hcs0.at (by rw [HAN.out]; exact hcs1.at))
            have HEND := Lib.hid hend
            clear hk hkt hk0 hk1 hend hcs0 hcs1
            go_wp2_with fail
            refine HAL.out.mono ?_; rintro e u2 ⟨rfl, ho2⟩
            have HO2 := Lib.hid ho2
            clear ho2
            go_wp2_with fail
            obtain ⟨T1', T2', h1, h2, h3, h4, h5⟩ := HEND.out
            exact ⟨FIN.out _ _ _ (TwoSt.keep ⟨T1', T2', h1, h2, h3, h4, h5⟩ HO2.out) HSTEP.out, by simp [intOf]; omega⟩
      · have hk6 : x.kind = 6 := eq_of_beq q6
        have q2 : (x.kind == 2) = false := by rw [hk6]; rfl
        have q5 : (x.kind == 5) = false := by rw [hk6]; rfl
        have q0 : (x.kind == 0) = false := by rw [hk6]; rfl
        have q1 : (x.kind == 1) = false := by rw [hk6]; rfl
        have q3 : (x.kind == 3) = false := by rw [hk6]; rfl
        clear hk6
        have HL1 := two_len HTA.out (by unfold NMAX; omega)
        obtain ⟨m, hm⟩ : ∃ m, (keysR R1).length = m := ⟨_, rfl⟩
        rw [hm] at HL1
        have hm2 : (keysR R2).length = m := by rw [← HSM.out.keys]; exact hm
        have HM2 := Lib.hid hm2
        replace HL1 := Lib.hid HL1
        have HROW := Lib.hid (Blk.new wr 29 (stepC x.kind x.key x.st (.slice Ab x.bs.length cb) x.dead x.tt))
        clear hm hm2
        go_wp2_with fail
        refine HL1.out.mono ?_; rintro e u1 ⟨rfl, hs1, hou1⟩
        have HL2 := two_len hs1.swap (by unfold NMAX; omega)
        rw [HM2.out] at HL2
        replace HL2 := Lib.hid HL2
        have HROW1 := Lib.hid (HROW.out.only hou1 (fun h => h))
        clear hs1 hou1 HL1
        go_wp2_with fail
        refine HL2.out.mono ?_; rintro e u2 ⟨rfl, hs2, hou2⟩
        have HS2 := Lib.hid hs2.swap
        have hrow := HROW1.out.only hou2 (fun h => h)
        have c0 := hrow.cellv 0 rfl
        have c2 := hrow.cellv 2 rfl
        clear hs2 hou2 HL2 hrow
        cases qg : decide (hz ≤ x.st)
        · go_wp2_with fail
          exact ⟨FIN.out _ _ _ (HS2.out.more (by omega)) HSM.out, by simp [intOf]; omega⟩
        · go_wp2_with fail
          exact ⟨FIN.out _ _ _ (HS2.out.more (by omega)) HSM.out, by simp [intOf]; omega⟩
    · obtain rfl : i = n := by omega
      go_wp2_with fail
      go_ret
      exact ⟨rfl, HO.out⟩

end Go.Proofs.Ytnonnencdhogiaa

/-
  Layer 14's laws: what comes in where the whole is of a small bulk.
-/
namespace Go.Proofs.Ytnonnencdhogiaa
open Go.ChangeShapes Go.WideShapes Go.ChangeAt Go.RowKit Go.Deep

theorem bulk_one {H : Type} (d : DataW H) : 1 ≤ Rows.uptoBulk d := by
  cases d with
  | lit l => cases l <;> simp [Rows.uptoBulk]
  | nil => simp [Rows.uptoBulk]
  | ptr d => simp [Rows.uptoBulk]
  | slice elems spare => simp [Rows.uptoBulk]
  | agg parts => simp [Rows.uptoBulk]
  | iface t d => simp [Rows.uptoBulk]
  | map entries => simp [Rows.uptoBulk]
  | held h => simp [Rows.uptoBulk]
theorem bulk_part {H : Type} {d : DataW H} {l : List (DataW H)} (h : d ∈ l) : Rows.uptoBulk d ≤ Rows.uptoBulkAll l := by
  induction l with
  | nil => cases h
  | cons x r ih =>
    simp only [Rows.uptoBulkAll]
    cases List.mem_cons.1 h with
    | inl e => subst e; omega
    | inr e => have := ih e; omega
theorem bulk_length {H : Type} (l : List (DataW H)) : l.length ≤ Rows.uptoBulkAll l := by
  induction l with
  | nil => simp [Rows.uptoBulkAll]
  | cons x r ih => have := bulk_one x; simp only [Rows.uptoBulkAll, List.length_cons]; omega
theorem bulk_slice {H : Type} (D S : List (DataW H)) : Rows.uptoBulk (.slice D S) = Rows.uptoBulkAll D + Rows.uptoBulkAll S + 1 := by simp only [Rows.uptoBulk]
theorem bulk_string {H : Type} (t : ByteArray) : Rows.uptoBulk (DataW.lit (H := H) (.string t.data.toList)) = t.size + 1 := by
  simp [Rows.uptoBulk]
theorem bulk_of {H : Type} {l : List (DataW H)} (hk : Rows.uptoSmall H l = true) : Rows.uptoBulkAll l ≤ 1048576 := by
  unfold Rows.uptoSmall at hk
  exact of_decide_eq_true hk

theorem bulk_arg {H : Type} {l : List (DataW H)} {d : DataW H} (hk : Rows.uptoSmall H l = true) (j : Nat) (h : l[j]? = some d) : Rows.uptoBulk d ≤ 1048576 :=
  Nat.le_trans (bulk_part (List.mem_of_getElem? h)) (bulk_of hk)

theorem few_of {H : Type} {l : List (DataW H)} {d : DataW H} {A : Option Addr} {n cap : Nat} (j : Nat) (hk : Rows.uptoSmall H l = true) (hj : l[j]? = some d)
    (hd : A = none ∧ n = 0 ∧ cap = 0 ∨ ∃ D S, d = .slice D S ∧ D.length = n ∧ D.length + S.length = cap) : n ≤ 1048576 := by
  rcases hd with ⟨_, h0, _⟩ | ⟨D, S, rfl, hD, _⟩
  · omega
  · have h1 := bulk_arg hk j hj
    rw [bulk_slice] at h1
    have := bulk_length D
    omega

end Go.Proofs.Ytnonnencdhogiaa

/-
  Layer 14's law StoreBack, plain: stores of the same versions; Load.
-/
namespace Go.Proofs.Ytnonnencdhogiaa
open Go.RowKit

/-- the same versions of each key -/
def SameR (R1 R2 : List KV) : Prop := ∀ key, verR R1 key = verR R2 key
section
variable {R1 R2 : List KV} (h : SameR R1 R2)
include h
theorem SameR.keys : keysR R1 = keysR R2 :=
  sorted_unique _ _ (keysR_sorted _) (keysR_sorted _) fun k => by rw [keysR_mem, keysR_mem, ← verR_ne, ← verR_ne, h]
theorem SameR.live : liveR R1 = liveR R2 := by
  unfold liveR
  rw [h.keys]
  exact sumZ_congr fun k _ => by rw [h]
theorem SameR.len : R1.length = R2.length := by
  rw [← sumN_len R1 (keysR R1) (sorted_nodup (keysR_sorted _)) keysR_all, ← sumN_len R2 (keysR R2) (sorted_nodup (keysR_sorted _)) keysR_all, h.keys]
  exact sumN_congr fun k _ => by rw [h]
theorem SameR.code (key : ByteArray) (x : Ver) : codeR R1 key x = codeR R2 key x := by unfold codeR; rw [h]
theorem SameR.scan (fr tt : ByteArray) (st : Int) : scanR R1 fr tt st = scanR R2 fr tt st := by
  have : verR R1 = verR R2 := funext h
  unfold scanR
  rw [h.keys, this]
theorem SameR.vers : versR R1 = versR R2 := by
  have : verR R1 = verR R2 := funext h
  unfold versR
  rw [h.keys, this]
theorem SameR.after (key : ByteArray) (x : Ver) : SameR (afterR R1 key x) (afterR R2 key x) := by
  unfold afterR
  rw [h.code]
  split
  · intro k
    rw [verR_append, verR_append, h]
  · exact h
theorem SameR.vac (h1 : GoodR R1) (h2 : GoodR R2) (hz : Int) : SameR (vacR R1 hz) (vacR R2 hz) := fun k => by rw [verR_vac h1, verR_vac h2, h]
theorem SameR.ans (h1 : GoodR R1) (h2 : GoodR R2) (x : Stp) : ansR R1 x = ansR R2 x := by
  unfold ansR
  rw [h.code, h x.key, h.scan, h.len, (h.vac h1 h2 x.st).len, h.live, h.keys, h.vers]
theorem SameR.step (h1 : GoodR R1) (h2 : GoodR R2) (x : Stp) : SameR (stepR R1 x) (stepR R2 x) := by
  unfold stepR
  split
  · exact h.after _ _
  · split
    · exact h.vac h1 h2 _
    · exact h
end
theorem SameR.versR (R : List KV) : SameR R (Go.Proofs.Ytnonnencdhogiaa.versR R) := fun key => by
  change _ = ((Go.Proofs.Ytnonnencdhogiaa.versR R).filter fun p => decide (p.1 = key)).map (·.2)
  rw [versR_filter, List.map_map]
  exact (List.map_id _).symm

/-- A version that says 'gone' has no bytes. -/
theorem fillR_dead (xs : List KV) : ∀ p ∈ fillR xs, p.2.dead = true → p.2.bs = [] := by
  have : ∀ (xs R : List KV), (∀ p ∈ R, p.2.dead = true → p.2.bs = []) → ∀ p ∈ xs.foldl (fun R x => afterR R x.1 x.2) R, p.2.dead = true → p.2.bs = [] := by
    intro xs
    induction xs with
    | nil => exact fun R h => h
    | cons x xs ih =>
      intro R h
      refine ih _ (show ∀ p ∈ afterR R x.1 x.2, p.2.dead = true → p.2.bs = [] from ?_)
      unfold afterR
      split
      · rename_i hc
        intro p hp hd
        rcases List.mem_append.1 hp with hp | hp
        · exact h p hp hd
        · obtain rfl : p = (x.1, x.2) := by simpa using hp
          unfold codeR applyC at hc
          split at hc
          · contradiction
          · rename_i hm
            have hm : mayI x.1.size x.2.bs.length x.2.st x.2.dead = 0 := by simpa using hm
            exact List.eq_nil_of_length_eq_zero ((may_ok hm).2.2.2.1 hd)
      · exact h
  exact this xs [] (fun _ h => by cases h)

theorem may_of {key : ByteArray} {n : Nat} {st : Int} {dead : Bool} (h1 : 1 ≤ key.size ∧ key.size ≤ 255) (h2 : n ≤ 4096) (h3 : dead = true → n = 0) (h4 : 0 ≤ st ∧ st ≤ 4611686018427387904) : mayI key.size n st dead = 0 := by
  unfold mayI
  rw [if_neg (by omega), if_neg (by rintro (h | ⟨h, h'⟩); omega; have := h3 h; omega), if_neg (by omega)]
theorem vers_code {R : List KV} (hg : GoodR R) (hd : ∀ p ∈ R, p.2.dead = true → p.2.bs = []) {i : Nat} {x : KV} (hx : (versR R)[i]? = some x) : codeR ((versR R).take i) x.1 x.2 = 0 := by
  have hm := versR_mem (List.mem_of_getElem? hx)
  unfold codeR applyC
  rw [may_of (hg.key _ hm) (hg.bs _ hm) (fun h => by rw [hd _ hm h]; rfl) (hg.st _ hm), if_neg (by simp)]
  have hs : versR R = (versR R).take i ++ x :: (versR R).drop (i + 1) := by
    obtain ⟨hil, e⟩ := List.getElem?_eq_some_iff.1 hx
    rw [← e, List.getElem_cons_drop, List.take_append_drop]
  have hr := hg.rise x.1
  rw [SameR.versR R x.1, hs, verR_append] at hr
  have h2 := (List.pairwise_append.1 hr).2.2
  split
  · rfl
  · rename_i y hy
    have := h2 y (List.mem_of_getLast? hy) x.2 (verR_mem.2 (by simp))
    rw [if_neg (by omega)]
theorem fill_ok {xs : List KV} (hok : ∀ i x, xs[i]? = some x → codeR (xs.take i) x.1 x.2 = 0) : ∀ i, i ≤ xs.length → fillR (xs.take i) = xs.take i
  | 0, _ => by simp [fillR]
  | i + 1, h => by
    have hx : xs[i]? = some (xs[i]'(by omega)) := List.getElem?_eq_getElem _
    rw [fillR_take hx, fill_ok hok i (by omega)]
    unfold afterR
    rw [if_pos (hok i _ hx), List.take_add_one, hx]
    rfl
theorem versAt_list {w : World} {A : Option Addr} {cap : Nat} {xs : List KV} (h : ListAt 4 VerE w (.slice A xs.length cap) xs) (hk : ∀ x ∈ xs, x.1.size ≤ maxLen) : VersAt w A xs := fun i x hx => by
  obtain ⟨A', cap', hv, h⟩ := h
  injection hv with h1 _ _
  subst h1
  obtain ⟨g, off, cs, hA, hg, hc, hl, Ab, c, rfl, hb⟩ := h i x hx
  exact ⟨g, off, Ab, c, hA, hg, hc 0 _ rfl, hc 1 _ rfl, hc 2 _ rfl, hc 3 _ rfl, hb, hk x (List.mem_of_getElem? hx)⟩

set_option maxRecDepth 100000 in
set_option maxHeartbeats 4000000 in
theorem load_ok (w : World) (A : Option Addr) (cap : Nat) (xs : List KV) (U : Nat → Prop) (hA : VersAt w A xs) (hfew : xs.length ≤ 2513169434843) (hU : ∀ k, U k → k < w.heap.size) (hok : ∀ i x, xs[i]? = some x → codeR (xs.take i) x.1 x.2 = 0) :
    Calls Try.prog 36 #[.slice A xs.length cap] w fun e w' => ∃ s T, e = .returned (.tuple #[.pointer (some ⟨s, 0, none⟩), .int .i64 0]) ∧ StoR w' s T U xs xs.length ∧ Only NoneOf w w' ∧ ∀ k, T k → w.heap.size ≤ k := by
  have HA := Lib.hid hA
  have HOK := Lib.hid hok
  obtain ⟨n, hn⟩ : ∃ n, xs.length = n := ⟨_, rfl⟩
  have HN := Lib.hid hn
  have HNW := Lib.hid (newR w U hU)
  rw [hn] at hfew ⊢
  clear hA hn hok
  go_enter Try.func36, Try.ntmps36
  go_wp2_with fail
  refine HNW.out.mono ?_; rintro e w1 ⟨rfl, T1, h1, ho1, ht1⟩
  have H1 := Lib.hid h1
  have HO1 := Lib.hid ho1
  have HT1 := Lib.hid ht1
  clear h1 ho1 ht1
  go_wp2_with fail
  go_loopw [11] (fun v wr => ∃ (i : Nat) (T : Nat → Prop), v = .int .i64 i ∧ i ≤ n ∧ StoR wr (w.heap.size + 1) T U (xs.take i) i ∧ Only NoneOf w wr ∧ ∀ k, T k → w.heap.size ≤ k) (fun v _ => n - (intOf v).toNat)
  case atStart => exact ⟨0, T1, rfl, by omega, H1.out, HO1.out, HT1.out⟩
  case round =>
    obtain ⟨i, T, rfl, hi, h, hO, hT⟩ := hrel
    have HO := Lib.hid hO
    have HS := Lib.hid h
    have HT := Lib.hid hT
    clear hO h hT
    by_cases hlt : i < n
    · have hx : xs[i]? = some (xs[i]'(by rw [HN.out]; exact hlt)) := List.getElem?_eq_getElem _
      generalize xs[i]'(by rw [HN.out]; exact hlt) = x at hx
      obtain ⟨g, off, Ab, cb, rfl, hg, d0, d1, d2, d3, hby, hks⟩ := (HA.out.keep HO.out) i x hx
      have hcode := HOK.out i x hx
      have hafter : afterR (xs.take i) x.1 x.2 = xs.take (i + 1) := by
        unfold afterR
        rw [if_pos hcode, List.take_add_one, hx]
        rfl
      have HTK := Lib.hid hafter
      have HCO := Lib.hid hcode
      clear hafter hcode
      obtain ⟨key, st, bs, dead⟩ := x
      simp only at d0 d1 d2 d3 hby hks
      obtain ⟨nn, hnn⟩ : ∃ nn, bs.length = nn := ⟨_, rfl⟩
      rw [hnn] at d2
      have HAP := applyR _ _ _ _ _ _ (HS.out.keep ((Only.refl NoneOf wr).alloc (.cells (verC key st (.slice Ab nn cb) dead) 27))) (by unfold NMAX; omega) key st Ab nn cb dead bs hnn (hby.keep ((Only.refl _ _).alloc _))
      rw [HCO.out, HTK.out] at HAP
      replace HAP := Lib.hid HAP
      have HOA := Lib.hid (HO.out.alloc (.cells (verC key st (.slice Ab nn cb) dead) 27))
      have hwr := HO.out.size
      clear hby hx
      go_wp2_with fail
      refine HAP.out.mono ?_; rintro e w2 ⟨rfl, T2, h2, ho2, ht2⟩
      have H2 := Lib.hid h2
      have HO2 := Lib.hid (HOA.out.step ho2 (fun k hk hh => by have := HT.out k hh; omega))
      have HT2 := Lib.hid (show ∀ k, T2 k → w.heap.size ≤ k from fun k hk => by
        rcases ht2 k hk with h | h
        · exact HT.out k h
        · simp at h; omega)
      clear h2 ho2 ht2
      go_wp2_with fail
      exact ⟨⟨i + 1, T2, by rw [show ((i + 1 : Nat) : Int) = (i : Int) + 1 by omega], by omega, H2.out, HO2.out, HT2.out⟩, by simp [intOf]; omega⟩
    · obtain rfl : i = n := by omega
      have e1 : xs.take i = xs := by rw [← HN.out, List.take_length]
      have H3 := HS.out
      rw [e1] at H3
      have HS3 := Lib.hid H3
      clear H3 e1
      go_wp2_with fail
      go_ret2
      exact ⟨_, T, rfl, HS3.out, HO.out, HT.out⟩

end Go.Proofs.Ytnonnencdhogiaa

/-
  Layer 14's law StoreBack walked.
-/
namespace Go.Proofs.Ytnonnencdhogiaa
open Go.RowKit

/-- the loop over the script -/
def BkRel (w0 : World) (s t : Nat) (N n : Nat) (v : Value) (wr : World) : Prop := ∃ (i : Nat) (R1 R2 : List KV), v = .int .i64 i ∧ i ≤ n ∧ TwoSt w0 s t R1 R2 (N + i) wr ∧ SameR R1 R2

set_option maxRecDepth 100000 in
set_option maxHeartbeats 8000000 in
theorem back_walk (A : Option Addr) (cap : Nat) (vs : List KV) (A3 : Option Addr) (cap3 : Nat) (xs : List Stp) (w : World)
    (hV : VersAt w A vs) (hX : StepsAt w A3 xs) (hfew : vs.length + xs.length ≤ 2513169434843) :
    Calls Try.prog 12 #[.slice A vs.length cap, .slice A3 xs.length cap3] w (Ans (.bool true) w) := by
  have HV := Lib.hid hV
  have HX := Lib.hid hX
  obtain ⟨n, hn⟩ : ∃ n, xs.length = n := ⟨_, rfl⟩
  have HN := Lib.hid hn
  rw [hn] at hfew ⊢
  obtain ⟨nv, hnv⟩ : ∃ nv, vs.length = nv := ⟨_, rfl⟩
  have HNV := Lib.hid hnv
  rw [hnv] at hfew ⊢
  clear hV hX hn hnv
  have HFX := fun u => Lib.hid (fixed_is u)
  go_enter Try.func12, Try.ntmps12
  go_wp2_with fail
  refine (HFX _).out.mono ?_; rintro e w1 ⟨rfl, ho1⟩
  have HO1 := Lib.hid ho1
  have HF1 := filled_is w1 A cap vs NoneOf (HV.out.keep HO1.out) (by rw [HNV.out]; omega) (fun _ h => h.elim)
  rw [HNV.out] at HF1
  replace HF1 := Lib.hid HF1
  have HDD := Lib.hid (fillR_dead vs)
  clear ho1
  go_wp2_with fail
  refine HF1.out.mono ?_; rintro e w2 ⟨s, T1, rfl, h1, ho2, ht1⟩
  obtain ⟨R, hR⟩ : ∃ R, fillR vs = R := ⟨_, rfl⟩
  rw [hR] at h1 HDD
  rw [HNV.out] at h1
  have H1 := Lib.hid h1
  have HO2 := Lib.hid ho2
  have HT1 := Lib.hid ht1
  have HVS := Lib.hid (versionsR w2 s nv T1 NoneOf R h1 (by unfold NMAX; omega))
  clear h1 ho2 ht1 HF1 hR
  go_wp2_with fail
  refine HVS.out.mono ?_; rintro e w3 ⟨v, rs, rfl, hr, hpl, ho3⟩
  have hla := listAt_vers hr
  rw [hpl] at hla
  obtain ⟨Av, cv, rfl, hla2⟩ := hla
  have hrl : (versR R).length = R.length := versR_length R
  have hRl := H1.out.len
  have HLD := load_ok w3 Av cv (versR R) T1 (versAt_list ⟨Av, cv, rfl, hla2⟩ (fun x hx => by
    have := (H1.out.good.key x (versR_mem hx)).2
    unfold maxLen
    omega)) (by omega) (fun k hk => Nat.lt_of_lt_of_le (H1.out.lt hk) ho3.size) (fun i x hx => vers_code H1.out.good HDD.out hx)
  obtain ⟨nr, hnr⟩ : ∃ nr, (versR R).length = nr := ⟨_, rfl⟩
  rw [hnr] at HLD hrl ⊢
  have HRL := Lib.hid hrl
  replace HLD := Lib.hid HLD
  have HO3 := Lib.hid ho3
  clear hr hpl hla2 hrl ho3 HVS
  go_wp2_with fail
  refine HLD.out.mono ?_; rintro e w4 ⟨t, T2, rfl, h2, ho4, ht2⟩
  have HTW := Lib.hid (show TwoSt w1 s t R (versR R) nv w4 from
    ⟨T1, T2, (H1.out.keep HO3.out).other ho4 (fun _ h => h.elim) (fun k hk => ⟨h2.lt hk, .inr (ht2 k hk)⟩), h2.more (by have := HRL.out; omega), (HO2.out.trans HO3.out).trans ho4, HT1.out, fun k hk => Nat.le_trans (HO2.out.trans HO3.out).size (ht2 k hk)⟩)
  clear h2 ho4 ht2 HLD H1 HT1 HO2 HO3 HRL hnr hRl HDD
  go_wp2_with fail
  go_loopw [24] (fun v wr => BkRel w1 s t nv n v wr) (fun v _ => n - (intOf v).toNat)
  case atStart => exact ⟨0, R, versR R, rfl, by omega, HTW.out, SameR.versR R⟩
  case round =>
    clear HTW
    obtain ⟨i, R1, R2, rfl, hi, htw, hsame⟩ := hrel
    have HTW := Lib.hid htw
    have HSM := Lib.hid hsame
    have HO := Lib.hid (show Only NoneOf w wr from by
      obtain ⟨_, _, _, _, h, _⟩ := htw
      exact HO1.out.trans h)
    clear htw hsame
    by_cases hlt : i < n
    · have hx : xs[i]? = some (xs[i]'(by rw [HN.out]; exact hlt)) := List.getElem?_eq_getElem _
      generalize xs[i]'(by rw [HN.out]; exact hlt) = x at hx
      obtain ⟨g, off, Ab, cb, rfl, hg, d0, d1, d2, d3, d4, d5, hbx, hks⟩ := (HX.out.keep HO.out) i x hx
      have HBY0 := Lib.hid (show BytesAt w1 Ab x.bs from by
        obtain ⟨g2, off2, Ab2, cb2, hA2, hg2, e0, e1, e2, e3, e4, e5, hby2, _⟩ := (HX.out.keep HO1.out) i x hx
        injection hA2 with hA2
        injection hA2 with h1 h2 _
        subst h1; subst h2
        obtain ⟨_, _, _, _, hO, _⟩ := HTW.out
        have := (hO.cell (p := ⟨g, off + i * 6 + 3, none⟩) hg2 (fun h => h)).trans e3
        rw [d3] at this
        injection this with this
        injection this with h1 _ _
        rw [h1]
        exact hby2)
      have hlt' : nv + i < NMAX := by unfold NMAX; omega
      have fin : ∀ u R1' R2', TwoSt w1 s t R1' R2' (nv + i + 1) u → SameR R1' R2' → BkRel w1 s t nv n (.int .i64 ((i : Int) + 1)) u := fun u R1' R2' h1 h2 =>
        ⟨i + 1, R1', R2', by rw [show ((i + 1 : Nat) : Int) = (i : Int) + 1 by omega], by omega, by rw [← Nat.add_assoc]; exact h1, h2⟩
      have FIN := Lib.hid fin
      clear fin hbx hx
      obtain ⟨T1, T2, h1, h2w, h3, h4, h5⟩ := HTW.out
      have hal : Only NoneOf wr (wr.alloc (.cells (stepC x.kind x.key x.st (.slice Ab x.bs.length cb) x.dead x.tt) 29)) := (Only.refl _ _).alloc _
      have HG0 := Lib.hid (show TwoG w1 s t T1 T2 R1 R2 x (nv + i) (nv + i) wr.heap.size (stepC x.kind x.key x.st (.slice Ab x.bs.length cb) x.dead x.tt) 0 (wr.alloc (.cells (stepC x.kind x.key x.st (.slice Ab x.bs.length cb) x.dead x.tt) 29)) from
        ⟨h1.keep hal, h2w.keep hal, h3.trans hal, Blk.new _ _ _⟩)
      have HT1 := Lib.hid h4
      have HT2 := Lib.hid h5
      have HBY := Lib.hid (show BytesAt w1 Ab x.bs from HBY0.out)
      have hb1 : ¬ T1 wr.heap.size := fun h => by have := h1.lt h; omega
      have hb2 : ¬ T2 wr.heap.size := fun h => by have := h2w.lt h; omega
      have hlow : ∀ k, T1 k ∨ T2 k → k < wr.heap.size := fun k hk => hk.elim (fun h => h1.lt h) (fun h => h2w.lt h)
      have HF := Lib.hid (ansR_fit h1 (by omega) x)
      have HAN := Lib.hid (HSM.out.ans HTW.out.good.1 HTW.out.good.2 x)
      have HSTEP := Lib.hid (HSM.out.step HTW.out.good.1 HTW.out.good.2 x)
      clear h1 h2w h3 h4 h5 hal
      go_upto_region 10 with (fail)
      refine wp_region_head2 6 42 [] (fun _ => none) (fun i => match i with | 2 => some 0 | 5 => some 1 | _ => none) (fun k => T1 k ∨ T2 k) (TwoG w1 s t T1 T2 R1 R2 x (nv + i) (nv + i) wr.heap.size (stepC x.kind x.key x.st (.slice Ab x.bs.length cb) x.dead x.tt)) (TwoT x Ab cb s t R1 R2 wr.heap.size) rfl (by kernel_rfl) (by kernel_rfl) ?hskip ?hgv (TwoT_keep _ _ _ _ _ _ _ _ hlow) HG0.out.drew ?hstep ?hend
      case hskip =>
        intro i o hi ho hw k
        have : i = 0 ∨ i = 1 ∨ i = 2 ∨ i = 3 ∨ i = 4 ∨ i = 5 := by omega
        rcases this with rfl | rfl | rfl | rfl | rfl | rfl
        · rfl
        · rfl
        · obtain rfl := Option.some.inj (ho : some _ = some o); exact absurd (show true = false from hw) (by decide)
        · rfl
        · rfl
        · obtain rfl := Option.some.inj (ho : some _ = some o); exact absurd (show true = false from hw) (by decide)
      case hgv =>
        intro g hg v w h
        cases hg
      case hstep =>
        intro i o hi ho a u k hk hik hs ht
        have e5 : a.tmps.getD 5 undef = .pointer (some ⟨s, 0, none⟩) := hs 5 (of_decide_eq_true (by kernel_rfl))
        have e6 : a.tmps.getD 6 undef = .pointer (some ⟨t, 0, none⟩) := hs 6 (of_decide_eq_true (by kernel_rfl))
        have e9 : a.tmps.getD 9 undef = .pointer (some ⟨wr.heap.size, 0, none⟩) := hs 9 (of_decide_eq_true (by kernel_rfl))
        have : i = 0 ∨ i = 1 ∨ i = 2 ∨ i = 3 ∨ i = 4 ∨ i = 5 := by omega
        rcases this with rfl | rfl | rfl | rfl | rfl | rfl
        · obtain rfl := Option.some.inj (ho : some _ = some o)
          rw [if_pos (by decide)]
          exact left2_value (.pointer (some ⟨s, 0, none⟩)) (by simp [go_sem, e5]) rfl rfl hk
        · obtain rfl := Option.some.inj (ho : some _ = some o)
          rw [if_pos (by decide)]
          exact left2_load 29 (.tmp 9) wr.heap.size 29 _ _ rfl e9 hk.row Try.underlying29 rfl info29 rfl rfl hk
        · obtain rfl := Option.some.inj (ho : some _ = some o)
          rw [if_pos (by decide)]
          have s0 : a.tmps.getD 28 undef = .pointer (some ⟨s, 0, none⟩) := ht 0 (by omega) (by kernel_rfl)
          have s0c : a.tmps.getD 28 undef = .pointer (some ⟨s, 0, none⟩) := ht 0 (by omega) (by kernel_rfl)
          have s1c : a.tmps.getD 29 undef = .agg (stepC x.kind x.key x.st (.slice Ab x.bs.length cb) x.dead x.tt) := ht 1 (by omega) (by kernel_rfl)
          obtain rfl : k = 0 := by
            rcases hik with h | h
            · cases h
            · injection h with h; exact h.symm
          refine left2_turns 17 #[.pointer (some ⟨s, 0, none⟩), .agg (stepC x.kind x.key x.st (.slice Ab x.bs.length cb) x.dead x.tt)] (by simp [go_sem, s0c, s1c]) ?_ rfl
          exact two_first hk Ab cb (by omega) hks HBY.out HT1.out hb1 (Nat.le_of_lt hk.row.lt)
        · obtain rfl := Option.some.inj (ho : some _ = some o)
          rw [if_pos (by decide)]
          exact left2_value (.pointer (some ⟨t, 0, none⟩)) (by simp [go_sem, e6]) rfl rfl hk
        · obtain rfl := Option.some.inj (ho : some _ = some o)
          rw [if_pos (by decide)]
          exact left2_load 29 (.tmp 9) wr.heap.size 29 _ _ rfl e9 hk.row Try.underlying29 rfl info29 rfl rfl hk
        · obtain rfl := Option.some.inj (ho : some _ = some o)
          rw [if_pos (by decide)]
          have s3 : a.tmps.getD 31 undef = .pointer (some ⟨t, 0, none⟩) := ht 3 (by omega) (by kernel_rfl)
          have s3c : a.tmps.getD 31 undef = .pointer (some ⟨t, 0, none⟩) := ht 3 (by omega) (by kernel_rfl)
          have s4c : a.tmps.getD 32 undef = .agg (stepC x.kind x.key x.st (.slice Ab x.bs.length cb) x.dead x.tt) := ht 4 (by omega) (by kernel_rfl)
          obtain rfl : k = 1 := by
            rcases hik with h | h
            · cases h
            · injection h with h; exact h.symm
          refine left2_turns 17 #[.pointer (some ⟨t, 0, none⟩), .agg (stepC x.kind x.key x.st (.slice Ab x.bs.length cb) x.dead x.tt)] (by simp [go_sem, s3c, s4c]) ?_ rfl
          exact two_second hk Ab cb (by omega) hks HBY.out HT2.out hb2 (Nat.le_of_lt hk.row.lt)
      case hend =>
        intro V' u k hk hkt hV'
        have v0 : V' 0 = .pointer (some ⟨s, 0, none⟩) := hV' 0 (by omega)
        have v1 : V' 1 = .agg (stepC x.kind x.key x.st (.slice Ab x.bs.length cb) x.dead x.tt) := hV' 1 (by omega)
        obtain ⟨cs0, v2, hcs0⟩ : TellV wr.heap.size (ansR R1 x) (V' 2) u := hV' 2 (by omega)
        have v3 : V' 3 = .pointer (some ⟨t, 0, none⟩) := hV' 3 (by omega)
        have v4 : V' 4 = .agg (stepC x.kind x.key x.st (.slice Ab x.bs.length cb) x.dead x.tt) := hV' 4 (by omega)
        obtain ⟨cs1, v5, hcs1⟩ : TellV wr.heap.size (ansR R2 x) (V' 5) u := hV' 5 (by omega)
        have hk0 : 0 < k := hkt 2 0 (by omega) rfl
        have hk1 : 1 < k := hkt 5 1 (by omega) rfl
        change wpList _ _ _ _ (Act.put (Act.put (Act.put (Act.put (Act.put (Act.put _ (some 28) (V' 0)) (some 29) (V' 1)) (some 30) (V' 2)) (some 31) (V' 3)) (some 32) (V' 4)) (some 33) (V' 5)) _
        rw [v0, v1, v2, v3, v4, v5]
        simp only [Act.put, List.setIfInBounds_toArray, List.set_cons_zero, List.set_cons_succ]
        simp only [List.drop_succ_cons, List.drop_zero]
        clear hV' v0 v1 v2 v3 v4 v5
        have hend := hk.end hk1
        have HAL := Lib.hid (alike_same u cs0 cs1 (ansR R1 x) HF.out hcs0.at (by rw [HAN.out]; exact hcs1.at))
        have HEND := Lib.hid hend
        clear hk hkt hk0 hk1 hend hcs0 hcs1
        go_wp2_with fail
        refine HAL.out.mono ?_; rintro e u2 ⟨rfl, ho2⟩
        have HO2 := Lib.hid ho2
        clear ho2
        go_wp2_with fail
        obtain ⟨T1', T2', h1, h2, h3, h4, h5⟩ := HEND.out
        exact ⟨FIN.out _ _ _ (TwoSt.keep ⟨T1', T2', h1, h2, h3, h4, h5⟩ HO2.out) HSTEP.out, by simp [intOf]; omega⟩
    · obtain rfl : i = n := by omega
      obtain ⟨T1, T2, h1, h2, h3, h4, h5⟩ := HTW.out
      have HVS := Lib.hid (versionsR wr s (nv + i) T1 T2 R1 h1 (by unfold NMAX; omega))
      have HG := Lib.hid HTW.out.good
      have H2 := Lib.hid h2
      have hl2 := h2.len
      clear hlt h1 h2 h3 h4 h5 HTW
      go_wp2_with fail
      refine HVS.out.mono ?_; rintro e w5 ⟨v5, rs5, rfl, hr5, hpl5, ho5⟩
      have HR5 := Lib.hid hr5
      have HP5 := Lib.hid hpl5
      have HO5 := Lib.hid ho5
      have HVS2 := Lib.hid (versionsR w5 t (nv + i) T2 T1 R2 (H2.out.keep ho5) (by unfold NMAX; omega))
      clear hr5 hpl5 ho5 HVS
      go_wp2_with fail
      refine HVS2.out.mono ?_; rintro e w6 ⟨v6, rs6, rfl, hr6, hpl6, ho6⟩
      have hfit : ∀ x ∈ versR R2, x.2.bs.length ≤ 4611686018427387904 := fun x hx => by
        have := HG.out.2.bs x (versR_mem hx)
        omega
      have HVA := versions_alike w6 v5 v6 (versR R2) (versR R2) (by
        have := listAt_vers HR5.out
        rw [HP5.out, HSM.out.vers] at this
        exact this.keep (fun x cs => VerE.keep ho6 x cs) ho6) (by rw [← hpl6]; exact listAt_vers hr6) (by rw [versR_length]; omega) hfit
      rw [decide_eq_true rfl] at HVA
      replace HVA := Lib.hid HVA
      have HO6 := Lib.hid ((HO.out.trans HO5.out).trans ho6)
      clear hr6 hpl6 ho6 HVS2
      go_wp2_with fail
      refine HVA.out.mono ?_; rintro e w7 ⟨rfl, hw7⟩
      have HO7 := Lib.hid (HO6.out.trans (drewN_only hw7))
      clear hw7
      go_wp2_with fail
      go_ret
      exact ⟨rfl, HO7.out⟩

end Go.Proofs.Ytnonnencdhogiaa

