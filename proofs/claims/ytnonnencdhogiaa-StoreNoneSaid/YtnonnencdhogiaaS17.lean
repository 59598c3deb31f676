/-
  Layer 14: a Scan's walk.
-/
import Derived.Test.YtnonnencdhogiaaS16
import Derived.Maps.OwnIn
namespace Go.Proofs.Ytnonnencdhogiaa
open Go.RowKit Go.Shelf
attribute [local go_sem] Oper.semAt_some

/-- how a pair is told: its value is new memory -/
def PairEnc (n : Nat) (x : ByteArray × List UInt8) (args : Array Value) (w : World) : Prop := ∃ v, args = #[.agg #[.string x.1, v]] ∧ RowB w n v x.2

theorem filterMap_take_succ {α β : Type} (f : α → Option β) (l : List α) (i : Nat) (k : α) (h : l[i]? = some k) : (l.take (i + 1)).filterMap f = (l.take i).filterMap f ++ (f k).toList := by
  rw [List.take_add_one, h, List.filterMap_append]
  cases hf : f k <;> simp [hf]

/-- what region 12 has made -/
def ScT (l : Nat) (key : ByteArray) (b : Nat) (A : Option Addr) (nb cp : Nat) (xb : List UInt8) (B : Nat) : Nat → Value → World → Prop
  | 0, x, _ => x = .func (.yield l) #[] #[]
  | 1, x, _ => x = .pointer (some ⟨b, 0, none⟩)
  | 2, x, _ => x = .string key
  | 3, x, _ => x = .pointer (some ⟨b, 1, none⟩)
  | 4, x, _ => x = .slice A nb cp
  | 5, x, w => ∃ A' c', x = .slice A' xb.length c' ∧ RowB w B x xb
  | 6, x, w => ∃ A' c', x = .agg #[.string key, .slice A' xb.length c'] ∧ RowB w B (.slice A' xb.length c') xb
  | _, _, _ => True
theorem ScT_keep (l : Nat) (key : ByteArray) (b : Nat) (A : Option Addr) (nb cp : Nat) (xb : List UInt8) (B : Nat) (i : Nat) (x : Value) (w w' : World) (h : ScT l key b A nb cp xb B i x w) (ho : Only NoneOf w w') : ScT l key b A nb cp xb B i x w' :=
  match i, h with
  | 0, h | 1, h | 2, h | 3, h | 4, h => h
  | 5, ⟨A', c', h1, h2⟩ => ⟨A', c', h1, h2.keep ho⟩
  | 6, ⟨A', c', h1, h2⟩ => ⟨A', c', h1, h2.keep ho⟩
  | _ + 7, _ => trivial

theorem flatMap_get {α : Type} (f : α → List Value) (sz : Nat) (hsz : ∀ r, (f r).length = sz) : ∀ (rs : List α) (i j : Nat) (r : α), rs[i]? = some r → j < sz → (rs.flatMap f)[i * sz + j]? = (f r)[j]?
  | [], _, _, _, h, _ => by simp at h
  | x :: rs, 0, j, r, h, hj => by
    simp at h
    subst h
    rw [List.flatMap_cons, Nat.zero_mul, Nat.zero_add, List.getElem?_append_left (by rw [hsz]; exact hj)]
  | x :: rs, i + 1, j, r, h, hj => by
    rw [List.flatMap_cons, List.getElem?_append_right (by rw [hsz, Nat.add_mul]; omega), hsz, show (i + 1) * sz + j - sz = i * sz + j by rw [Nat.add_mul]; omega]
    exact flatMap_get f sz hsz rs i j r (by simpa using h) hj
/-- an element's cells -/
theorem BRows.cell {α : Type} {t : TypeId} {sz : Nat} {cells : α → List Value} {val : α → Value} {bs : α → List UInt8} {w : World} {base g n c : Nat} {rs : List α} (h : BRows t sz cells val bs w base (.slice (some ⟨g, 0, none⟩) n c) rs) (hsz : ∀ r, (cells r).length = sz)
    {i : Nat} {r : α} (hr : rs[i]? = some r) {j : Nat} (hj : j < sz) : w.cell? ⟨g, i * sz + j, none⟩ = (cells r)[j]? := by
  rcases h.own.2 with ⟨h0, _⟩ | ⟨g', cap', cur', hv', _, hb', hle, _, hs, hcur'⟩
  · cases h0
  · injection hv' with hv1 hn _
    injection hv1 with hv1
    injection hv1 with hv1 _ _
    subst hv1
    have hil : i < rs.length := (List.getElem?_eq_some_iff.1 hr).1
    have hlt : i * sz + j < rs.length * sz := by
      have : (i + 1) * sz ≤ rs.length * sz := Nat.mul_le_mul_right _ hil
      rw [Nat.add_mul] at this
      omega
    rw [Blk.cell (t := t) (cs := cur') hb', ← flatMap_get cells sz hsz rs i j r hr hj, ← hcur', List.getElem?_take_of_lt hlt, Array.getElem?_toList]

theorem found_mem {xs : List Ver} {st : Int} {b : List UInt8} (h : found xs st = some b) : ∃ x ∈ xs, x.bs = b := by
  unfold found at h
  obtain ⟨x, hx, h⟩ := Option.bind_eq_some_iff.1 h
  split at h
  · cases h
  · cases h
    exact ⟨x, (List.takeWhile_prefix _).subset (List.mem_of_getLast? hx), rfl⟩
theorem scan_mem {D : MD} {V : ByteArray → List Ver} {fr tt : ByteArray} {st : Int} (hV : ∀ key, ∀ x ∈ V key, x.bs.length ≤ 4096) {p : ByteArray × List UInt8} (h : p ∈ scanOf D V fr tt st) : p.2.length ≤ 4096 := by
  obtain ⟨k, _, hk⟩ := List.mem_filterMap.1 h
  unfold scanKey at hk
  split at hk
  · cases hk
  · obtain ⟨b, hb, rfl⟩ := Option.map_eq_some_iff.1 hk
    obtain ⟨x, hx, rfl⟩ := found_mem hb
    exact hV _ x hx

def ScanRel (W : World) (ks : List (List UInt8)) (V : ByteArray → List Ver) (fr tt : ByteArray) (st : Int) (v vi : Value) (wr : World) : Prop :=
  ∃ (i : Nat) (rs : List PRow), i ≤ ks.length ∧ vi = .int .i64 i ∧ Only NoneOf W wr ∧ PRows wr W.heap.size v rs ∧ rs.length ≤ i ∧ rs.map PRow.plain = (ks.take i).filterMap (scanKey V fr tt st)

set_option maxRecDepth 100000 in
set_option maxHeartbeats 4000000 in
theorem scan_iter (W : World) (b s m n : Nat) (D : MD) (C : ByteArray → Option Ch) (live : Int) (V : ByteArray → List Ver) {U : Nat → Prop} (fr tt : ByteArray) (st : Int) (h : Sto W s m n D C live V U) (hV : ∀ key, ∀ x ∈ V key, x.bs.length ≤ 4096)
    (hfew : Go.Maps.size D * 40 ≤ 140737488355328)
    (hb0 : W.cell? ⟨b, 0, none⟩ = some (.pointer (some ⟨s, 0, none⟩))) (hb1 : W.cell? ⟨b + 1, 0, none⟩ = some (.string fr)) (hb2 : W.cell? ⟨b + 2, 0, none⟩ = some (.string tt)) (hb3 : W.cell? ⟨b + 3, 0, none⟩ = some (.int .i64 st)) :
    IterM Try.prog 56 (scanFn b) PairEnc (scanOf D V fr tt st) NoneOf W := by
  intro l J Jx hJ hJx h0 hY
  have HS := Lib.hid h
  have HJ := Lib.hid hJ
  have HJx := Lib.hid hJx
  have H0 := Lib.hid h0
  have HY := Lib.hid hY
  have HK := Lib.hid (keys_is W s m n D C live h.is (by omega))
  clear hY hJ hJx h0 h
  refine callsIn_of_wp Try.func56 rfl trivial ?_ rfl
  simp only [Try.ntmps56, scanFn, List.size_toArray, List.length_cons, List.length_nil, Nat.reduceAdd, Nat.reduceSub, Array.replicate_succ, Array.replicate_zero, List.push_toArray, List.append_toArray, List.nil_append, List.cons_append]
  gi_wp2_with fail
  refine ⟨trivial, (callsIn_wide.2 HK.out).mono ?_⟩
  rintro e w1 ⟨vk, rfl, hks, ho1⟩
  obtain ⟨Ak, ck, rfl, hka⟩ := RowS.at hks
  have HO1 := Lib.hid ho1
  have HKA := Lib.hid hka
  have hL : ∀ (i : Nat) (k : List UInt8), (sortedKeys D)[i]? = some k → k.length ≤ maxLen ∧ ∃ c, C ⟨k.toArray⟩ = some c := fun i k hk => HS.out.is.has_key (by
    have := List.mem_of_getElem? hk
    unfold sortedKeys at this
    exact (List.mergeSort_perm _ _).subset this)
  have HL := Lib.hid hL
  have hs1 := ho1.size
  clear hks ho1 hka hL
  obtain ⟨ks, hks⟩ : ∃ ks, ks = sortedKeys D := ⟨_, rfl⟩
  have HFIN := Lib.hid (show scanOf D V fr tt st = ks.filterMap (scanKey V fr tt st) by rw [hks]; rfl)
  obtain ⟨nk, hnk⟩ : ∃ nk, ks.length = nk := ⟨_, rfl⟩
  have hnkb : nk * 40 ≤ 140737488355328 := by rw [← hnk, hks, sorted_len]; exact hfew
  have HNK := Lib.hid hnk
  rw [← hks] at HL HKA ⊢
  simp only [hnk]
  clear hks hnk hfew
  gi_wp2_with fail
  gi_loopw [6, 16] (fun v vi wr => ScanRel w1 ks V fr tt st v vi wr) (fun _ vi _ => nk - (intOf vi).toNat)
  case atStart => exact ⟨0, [], by omega, rfl, Only.refl _ _, BRows.nil _ _, by simp, rfl⟩
  case round =>
    obtain ⟨i, rs, hi, rfl, hO, hR, hrl, hpl⟩ := hrel
    have HO := Lib.hid hO
    have HR := Lib.hid hR
    have HPL := Lib.hid hpl
    obtain ⟨A, cq, rfl⟩ := ownsRow_slice hR.own
    have e0 := (hO.cell (p := ⟨b, 0, none⟩) (World.block_lt_of_cell? _ _ ((HO1.out.cell (p := ⟨b, 0, none⟩) (World.block_lt_of_cell? _ _ hb0) (fun h => h)).trans hb0)) (fun h => h)).trans ((HO1.out.cell (p := ⟨b, 0, none⟩) (World.block_lt_of_cell? _ _ hb0) (fun h => h)).trans hb0)
    have e1 := (hO.cell (p := ⟨b + 1, 0, none⟩) (World.block_lt_of_cell? _ _ ((HO1.out.cell (p := ⟨b + 1, 0, none⟩) (World.block_lt_of_cell? _ _ hb1) (fun h => h)).trans hb1)) (fun h => h)).trans ((HO1.out.cell (p := ⟨b + 1, 0, none⟩) (World.block_lt_of_cell? _ _ hb1) (fun h => h)).trans hb1)
    have e2 := (hO.cell (p := ⟨b + 2, 0, none⟩) (World.block_lt_of_cell? _ _ ((HO1.out.cell (p := ⟨b + 2, 0, none⟩) (World.block_lt_of_cell? _ _ hb2) (fun h => h)).trans hb2)) (fun h => h)).trans ((HO1.out.cell (p := ⟨b + 2, 0, none⟩) (World.block_lt_of_cell? _ _ hb2) (fun h => h)).trans hb2)
    have e3 := (hO.cell (p := ⟨b + 3, 0, none⟩) (World.block_lt_of_cell? _ _ ((HO1.out.cell (p := ⟨b + 3, 0, none⟩) (World.block_lt_of_cell? _ _ hb3) (fun h => h)).trans hb3)) (fun h => h)).trans ((HO1.out.cell (p := ⟨b + 3, 0, none⟩) (World.block_lt_of_cell? _ _ hb3) (fun h => h)).trans hb3)
    clear hO hR hpl
    by_cases hlt : i < nk
    · have hki : ks[i]? = some (ks[i]'(by rw [HNK.out]; exact hlt)) := List.getElem?_eq_getElem _
      generalize ks[i]'(by rw [HNK.out]; exact hlt) = k at hki
      obtain ⟨hkl, c, hc⟩ := HL.out i k hki
      obtain ⟨gk, rfl, hgl, hgk, hkc⟩ := HKA.out.keep HO.out i k hki
      have HTK := Lib.hid (filterMap_take_succ (scanKey V fr tt st) ks i k hki)
      have HNXT := Lib.hid (show ∀ u, Only NoneOf wr u → scanKey V fr tt st k = none → ScanRel w1 ks V fr tt st (Value.slice A rs.length cq) (.int .i64 ((i : Int) + 1)) u from fun u hu hn =>
        ⟨i + 1, rs, by have := HNK.out; omega, by rw [show ((i + 1 : Nat) : Int) = (i : Int) + 1 by omega], HO.out.trans hu, HR.out.keep hu, by omega, by rw [HPL.out, HTK.out, hn]; simp⟩)
      have hcase : (Op.bytesLess k fr.toList = true ∨ (Op.bytesLess k fr.toList = false ∧ tt.toList ≠ [] ∧ tt.toList.isEmpty = false ∧ Op.bytesLess k tt.toList = false)) ∨
          ((Op.bytesLess k fr.toList = false ∧ tt.toList = [] ∧ tt.toList.isEmpty = true) ∨ (Op.bytesLess k fr.toList = false ∧ tt.toList ≠ [] ∧ tt.toList.isEmpty = false ∧ Op.bytesLess k tt.toList = true)) := by
        cases h1 : Op.bytesLess k fr.toList
        · by_cases ht : tt.toList = []
          · exact .inr (.inl ⟨rfl, ht, by rw [ht]; rfl⟩)
          · cases h2 : Op.bytesLess k tt.toList
            · exact .inl (.inr ⟨rfl, ht, List.isEmpty_eq_false_iff.2 ht, rfl⟩)
            · exact .inr (.inr ⟨rfl, ht, List.isEmpty_eq_false_iff.2 ht, rfl⟩)
        · exact .inl (.inl rfl)
      rcases hcase with hc' | hc'
      · have HSK := Lib.hid (show scanKey V fr tt st k = none by
          unfold scanKey
          rw [if_pos]
          rcases hc' with h | ⟨_, h2, _, h4⟩
          · exact .inl h
          · exact .inr ⟨h2, h4⟩)
        rcases hc' with h1 | ⟨h1, h2, h3, h4⟩
        all_goals
          gi_wp2_with fail
          exact ⟨HNXT.out _ (Only.refl _ _) HSK.out, by simp [intOf]; omega⟩
      · have HSK := Lib.hid (show scanKey V fr tt st k = (found (V ⟨k.toArray⟩) st).map fun b => (⟨k.toArray⟩, b) by
          unfold scanKey
          rw [if_neg]
          rintro (h | ⟨h5, h6⟩)
          · rcases hc' with ⟨h1, _⟩ | ⟨h1, _⟩ <;> rw [h] at h1 <;> cases h1
          · rcases hc' with ⟨_, h2, _⟩ | ⟨_, _, _, h4⟩
            · exact h5 h2
            · rw [h6] at h4; cases h4)
        have HG := Lib.hid (get_is wr s m n D C live V ⟨k.toArray⟩ st (show k.toArray.size ≤ maxLen by rw [List.size_toArray]; exact hkl) (HS.out.keep (HO1.out.trans HO.out)) (hV _))
        obtain ⟨i0, hi0, hz0, hz1, hz3⟩ := info_parts info48
        obtain ⟨R, hRf⟩ : ∃ R, found (V ⟨k.toArray⟩) st = R := ⟨_, rfl⟩
        rw [hRf] at HG HSK
        clear hRf
        rcases hc' with ⟨h1, h2, h3⟩ | ⟨h1, h2, h3, h4⟩
        all_goals
          gi_wp2_with fail
          refine ⟨trivial, (callsIn_wide.2 HG.out).mono ?_⟩
          rintro e w2 ⟨hget, ho2⟩
          have HO2 := Lib.hid ho2
          cases R with
          | none =>
            obtain rfl := hget
            clear ho2
            gi_wp2_with fail
            exact ⟨HNXT.out _ HO2.out HSK.out, by simp [intOf]; omega⟩
          | some bs =>
            obtain ⟨vb, rfl, hvb⟩ := hget
            obtain ⟨Ab, cb, rfl⟩ := ownsRow_slice hvb
            have HVB := Lib.hid hvb
            have HRA := Lib.hid ((HR.out.keep ho2).keep ((Only.refl _ w2).alloc (.cells #[.string ⟨k.toArray⟩, .slice Ab bs.length cb] 48)))
            have HVA := Lib.hid (hvb.keep ((Only.refl _ w2).alloc (.cells #[.string ⟨k.toArray⟩, .slice Ab bs.length cb] 48)))
            have HN := Lib.hid (Blk.new w2 48 #[.string ⟨k.toArray⟩, .slice Ab bs.length cb])
            have hw1r := HO.out.size
            have hwr2 := ho2.size
            clear ho2 hvb
            gi_wp2_with (gi_at_builtin; refine wpListIn_append_own_at _ rfl (.tmp 40) (.tmp 44) 30 rfl w1.heap.size 48 i0 _ 2 40 Try.underlying30 hi0 hz0 hz1 hz3 rfl (by decide) (.slice A rs.length cq) rs.length (rs.flatMap PRow.cells) rfl HRA.out.own ⟨w2.heap.size, 0, none⟩ 1 1 [.string ⟨k.toArray⟩, .slice Ab bs.length cb] rfl rfl (World.news_of_block HN.out) (by simp [Value.oneCell']) (by unfold maxLen; omega) (by omega) (by simp; omega) ?_; intro v' w3 hown' hgr _ hat)
            have hsn := BRows.snoc (r := (⟨⟨k.toArray⟩, .slice Ab bs.length cb, bs⟩ : PRow)) HRA.out (only_grown hgr) hown' hat (HVA.out.base (by omega)) (fun g hg hb' => by have := (ownsRow_lt HVB.out hg).1; have := (HR.out.lt hb').2; omega)
            refine ⟨⟨i + 1, _, by have := HNK.out; omega, by rw [show ((i + 1 : Nat) : Int) = (i : Int) + 1 by omega], ?_, hsn, by simp; omega, ?_⟩, by simp [intOf]; omega⟩
            · exact (HO.out.trans (HO2.out.alloc _)).step (only_grown hgr) (fun k' hk' e => by have := (HRA.out.lt (.inl e)).1; omega)
            · rw [List.map_append, HPL.out, HTK.out, HSK.out]
              rfl
    · obtain rfl : i = nk := by have := HNK.out; omega
      have hpl' := HPL.out
      rw [← HNK.out, List.take_length, ← HFIN.out] at hpl'
      have HPL' := Lib.hid hpl'
      have HOW := Lib.hid (HO1.out.trans HO.out)
      have hwsz := HOW.out.size
      have HR' := Lib.hid (HR.out.base hs1)
      obtain ⟨E, hE⟩ : ∃ E, wr.heap.size = E := ⟨_, rfl⟩
      have HJ0 := Lib.hid (H0.out E wr (by omega) (by omega) HOW.out)
      have hblk : ∀ k, PBlocks (.slice A rs.length cq) rs k → W.heap.size ≤ k ∧ k < E := fun k hk => by rw [← hE]; exact HR'.out.lt hk
      have HBLK := Lib.hid hblk
      have hrk : rs.length ≤ 3518437208883 := by omega
      clear hlt hpl' hblk e0 e1 e2 e3 hrl hi HPL HO HR HNK HKA HL HFIN
      gi_wp2_with fail
      gi_loopw [49] (fun vi w2 => ∃ i : Nat, i ≤ rs.length ∧ vi = .int .i64 i ∧ J E ((rs.take i).map PRow.plain) w2 ∧ PRows w2 W.heap.size (.slice A rs.length cq) rs ∧ E ≤ w2.heap.size) (fun vi _ => rs.length - (intOf vi).toNat)
      case atStart => exact ⟨0, by omega, rfl, HJ0.out, HR'.out, by omega⟩
      case round =>
        obtain ⟨i, hi, rfl, hJ2, hR2, hsz2⟩ := hrel
        have HJ2 := Lib.hid hJ2
        have HR2 := Lib.hid hR2
        clear hJ2 hR2
        by_cases hlt : i < rs.length
        · have hr : rs[i]? = some (rs[i]'hlt) := List.getElem?_eq_getElem _
          generalize rs[i]'hlt = r at hr
          obtain ⟨key, rv, rb⟩ := r
          have hrB := HR2.out.vals _ (List.mem_of_getElem? hr)
          simp only at hrB
          obtain ⟨Ar, cr, rfl⟩ := ownsRow_slice hrB
          obtain ⟨g, rfl⟩ : ∃ g, A = some ⟨g, 0, none⟩ := by
            rcases HR2.out.own.2 with ⟨h0, h1⟩ | ⟨g, cap, cur, hv, _⟩
            · omega
            · injection hv with hv1
              exact ⟨g, hv1⟩
          have d0 : wr.cell? ⟨g, i * 2, none⟩ = some (.string key) := HR2.out.cell (fun _ => rfl) hr (j := 0) (by omega)
          have d1 : wr.cell? ⟨g, i * 2 + 1, none⟩ = some (.slice Ar rb.length cr) := HR2.out.cell (fun _ => rfl) hr (j := 1) (by omega)
          obtain ⟨A2, cq2, hv2, hby⟩ := RowB.at hrB
          obtain ⟨rfl, rfl⟩ : Ar = A2 ∧ cr = cq2 := by
            injection hv2 with q1 _ q2
            exact ⟨q1, q2⟩
          clear hv2
          obtain ⟨nr, hnr⟩ : ∃ nr, rb.length = nr := ⟨_, rfl⟩
          have hnl : nr ≤ 35184372088832 := by
            have := scan_mem (D := D) (fr := fr) (tt := tt) (st := st) hV (p := (key, rb)) (by rw [← HPL'.out]; exact List.mem_map.2 ⟨_, List.mem_of_getElem? hr, rfl⟩)
            simp only at this
            omega
          have HB12 := Lib.hid (Blk.new wr 48 #[.string key, .slice Ar nr cr])
          have HBY := Lib.hid (hby.keep ((Only.refl NoneOf wr).alloc (.cells #[.string key, .slice Ar nr cr] 48)))
          have HPRE := Lib.hid (show (rs.take i).map PRow.plain ++ [(key, rb)] <+: scanOf D V fr tt st by
            rw [← HPL'.out]
            have := List.take_prefix (i + 1) (rs.map PRow.plain)
            rw [List.take_add_one, List.getElem?_map, hr] at this
            rw [List.map_take]
            exact this)
          rw [hnr] at d1
          clear hby hrB
          have HPE := Lib.hid (fun args A0 A h1 h2 h3 h4 => HY.out E ((rs.take i).map PRow.plain) (key, rb) args A0 A (by omega) h1 h2 h3 h4 HPRE.out)
          have HD := Lib.hid (show rs.take (i + 1) = rs.take i ++ [⟨key, .slice Ar rb.length cr, rb⟩] by rw [List.take_add_one, hr]; rfl)
          gi_upto_region 12 with (fail)
          refine wpIn_region_headT 7 63 (ScT l key wr.heap.size Ar nr cr rb wr.heap.size) (fun _ => false) rfl (by kernel_rfl) (by kernel_rfl) (ScT_keep _ _ _ _ _ _ _ _) (fun _ _ _ h => by cases h) ?_ ?_
          · intro i o hi ho a u hu hs ht
            have e0 : a.tmps.getD 0 undef = .func (.yield l) #[] #[] := hs 0 (of_decide_eq_true (by kernel_rfl))
            have e12 : a.tmps.getD 12 undef = .pointer (some ⟨wr.heap.size, 0, none⟩) := hs 12 (of_decide_eq_true (by kernel_rfl))
            have F8 := HB12.out.only hu (fun h => h)
            have c0 := F8.cellv 0 rfl
            have c1 := F8.cellv 1 rfl
            have : i = 0 ∨ i = 1 ∨ i = 2 ∨ i = 3 ∨ i = 4 ∨ i = 5 ∨ i = 6 := by omega
            rcases this with rfl | rfl | rfl | rfl | rfl | rfl | rfl
            · obtain rfl := Option.some.inj (ho : some _ = some o)
              exact left_value (.func (.yield l) #[] #[]) (by simp [go_sem, e0]) rfl rfl
            · obtain rfl := Option.some.inj (ho : some _ = some o)
              exact left_value (.pointer (some ⟨wr.heap.size, 0, none⟩)) (by simp [go_sem, e12]) rfl rfl
            · obtain rfl := Option.some.inj (ho : some _ = some o)
              have s1 : a.tmps.getD 54 undef = .pointer (some ⟨wr.heap.size, 0, none⟩) := ht 1 (by omega) (by kernel_rfl)
              exact left_value (.string key) (by simp [go_sem, s1, c0]) rfl rfl
            · obtain rfl := Option.some.inj (ho : some _ = some o)
              exact left_value (.pointer (some ⟨wr.heap.size, 1, none⟩)) (by simp [go_sem, e12]) rfl rfl
            · obtain rfl := Option.some.inj (ho : some _ = some o)
              have s3 : a.tmps.getD 56 undef = .pointer (some ⟨wr.heap.size, 1, none⟩) := ht 3 (by omega) (by kernel_rfl)
              exact left_value (.slice Ar nr cr) (by simp [go_sem, s3, c1]) rfl rfl
            · obtain rfl := Option.some.inj (ho : some _ = some o)
              have s4 : a.tmps.getD 57 undef = .slice Ar nr cr := ht 4 (by omega) (by kernel_rfl)
              refine left_calls 47 #[.slice Ar nr cr] (by simp [go_sem, s4]) ((own_is Ar nr cr rb u hnr (HBY.out.keep hu) hnl).mono ?_) rfl
              rintro e u' ⟨v', rfl, hr, ho'⟩
              obtain ⟨A', c', rfl, _⟩ := hr.at
              exact ⟨_, rfl, ⟨A', c', rfl, hr.base (by have := hu.size; simp at this; omega)⟩, ho'⟩
            · obtain rfl := Option.some.inj (ho : some _ = some o)
              have s2 : a.tmps.getD 55 undef = .string key := ht 2 (by omega) (by kernel_rfl)
              have s2' : a.tmps[55]?.getD undef = .string key := by simpa using s2
              obtain ⟨A', c', s5, hr⟩ : ∃ A' c', a.tmps.getD 58 undef = .slice A' rb.length c' ∧ RowB u wr.heap.size (a.tmps.getD 58 undef) rb := ht 5 (by omega) (by kernel_rfl)
              rw [s5] at hr
              have s5' : a.tmps[58]?.getD undef = .slice A' rb.length c' := by simpa using s5
              exact left_value (.agg #[.string key, .slice A' rb.length c']) (by simp [go_sem, s2', s5']) rfl ⟨A', c', rfl, hr⟩
          · intro V' u hu hV' _
            have v0 : V' 0 = .func (.yield l) #[] #[] := hV' 0 (by omega)
            have v1 : V' 1 = .pointer (some ⟨wr.heap.size, 0, none⟩) := hV' 1 (by omega)
            have v2 : V' 2 = .string key := hV' 2 (by omega)
            have v3 : V' 3 = .pointer (some ⟨wr.heap.size, 1, none⟩) := hV' 3 (by omega)
            have v4 : V' 4 = .slice Ar nr cr := hV' 4 (by omega)
            obtain ⟨A5, c5, v5, _⟩ : ∃ A' c', V' 5 = .slice A' rb.length c' ∧ RowB u wr.heap.size (V' 5) rb := hV' 5 (by omega)
            obtain ⟨A', c', v6, hr⟩ : ∃ A' c', V' 6 = .agg #[.string key, .slice A' rb.length c'] ∧ RowB u wr.heap.size (.slice A' rb.length c') rb := hV' 6 (by omega)
            change wpListIn _ _ _ _ _ _ (Act.put (Act.put (Act.put (Act.put (Act.put (Act.put (Act.put _ (some 53) (V' 0)) (some 54) (V' 1)) (some 55) (V' 2)) (some 56) (V' 3)) (some 57) (V' 4)) (some 58) (V' 5)) (some 59) (V' 6)) _
            rw [v0, v1, v2, v3, v4, v5, v6]
            simp only [Act.put, List.setIfInBounds_toArray, List.set_cons_zero, List.set_cons_succ]
            simp only [List.drop_succ_cons, List.drop_zero]
            clear hV' v0 v1 v2 v3 v4 v5 v6
            have hu0 : Only NoneOf wr u := ((Only.refl NoneOf wr).alloc _).trans hu
            obtain ⟨fn, tmps, assign, body, hy, hYR⟩ := YieldAt.deep (1 - 1) (HPE.out #[.agg #[.string key, .slice A' rb.length c']] wr u hsz2 HJ2.out hu0 ⟨_, rfl, hr⟩)
            rw [hnr] at hy
            have HRR := Lib.hid hYR
            have HRU := Lib.hid (HR2.out.keep hu0)
            have hzu := hu0.size
            clear hYR hu0 hr
            gi_wp2
            refine HRR.out.mono ?_
            rintro e W3 (⟨rfl, hJ3, ho3⟩ | ⟨rfl, hJx3, ho3⟩)
            · have HJ3 := Lib.hid hJ3
              have HR3 := Lib.hid (HRU.out.only ho3 (fun k hk hh => by
                have := HBLK.out k hk
                rcases hh with hh | hh
                · have := hh.1; omega
                · omega))
              have hs3 := ho3.size
              clear hJ3 ho3 hy
              gi_wp2
              go_roundw
              case rel => exact ⟨i + 1, by omega, by rw [show ((i + 1 : Nat) : Int) = (i : Int) + 1 by omega], by rw [HD.out, List.map_append]; exact HJ3.out, HR3.out, by omega⟩
              case measure => simp [intOf]; omega
            · have HX := Lib.hid hJx3
              clear hJx3 ho3 hy
              gi_wp2
              refine bodyPost_ret (results_none rfl _ _ _) rfl ?_
              exact ⟨⟨_, rfl⟩, E, by omega, .inr ⟨_, HPRE.out, HX.out⟩⟩
        · obtain rfl : i = rs.length := by omega
          have h1 := HJ2.out
          rw [List.take_length, HPL'.out] at h1
          have HE := Lib.hid h1
          clear hlt h1
          gi_wp2_with fail
          go_end0
          exact ⟨⟨_, rfl⟩, E, by omega, .inl HE.out⟩

end Go.Proofs.Ytnonnencdhogiaa
