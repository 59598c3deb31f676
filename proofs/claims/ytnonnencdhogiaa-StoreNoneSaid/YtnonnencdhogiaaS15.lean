/-
  Layer 14: Versions.
-/
import Derived.Test.YtnonnencdhogiaaS14
import Derived.Maps.AppendAt
namespace Go.Proofs.Ytnonnencdhogiaa
open Go.RowKit Go.Shelf
open Cb (ChIs Foot linkEnc row_base IsV backs backEnc)
attribute [local go_sem] Oper.semAt_some

section
variable {P : Program} {Q : Exit → Act → World → Prop} {T : Nat → Value → World → Prop} {al : Nat → Bool} {i : Nat} {o : Oper} {a : Act} {w : World}
theorem left_to (v : Value) (w1 : World) (ho : (execOp a.eval o).run P w = .ok (.value v) w1) (hal : al i = false) (hv : T i v w1) (hO : Only NoneOf w w1) : o.wp P a w (Left T al i o a w) Q := by
  unfold Oper.wp
  rw [ho]
  exact ⟨v, rfl, hv, hO, fun h => by rw [hal] at h; cases h⟩
end

def StrsAt (w : World) (lo : Nat) (A : Option Addr) (l : List (List UInt8)) : Prop := ∀ (i : Nat) (k : List UInt8), l[i]? = some k → ∃ g, A = some ⟨g, 0, none⟩ ∧ lo ≤ g ∧ g < w.heap.size ∧ w.cell? ⟨g, i, none⟩ = some (.string ⟨k.toArray⟩)
theorem StrsAt.only {w w' : World} {lo : Nat} {S : Nat → Prop} {A : Option Addr} {l : List (List UInt8)} (h : StrsAt w lo A l) (ho : Only S w w') (hS : ∀ g, lo ≤ g → g < w.heap.size → ¬ S g) : StrsAt w' lo A l := fun i k hk => by
  obtain ⟨g, hA, hl, hg, h1⟩ := h i k hk
  exact ⟨g, hA, hl, Nat.lt_of_lt_of_le hg ho.size, (ho.cell (p := ⟨g, i, none⟩) hg (hS g hl hg)).trans h1⟩
theorem StrsAt.keep {w w' : World} {lo : Nat} {A : Option Addr} {l : List (List UInt8)} (h : StrsAt w lo A l) (ho : Only NoneOf w w') : StrsAt w' lo A l := h.only ho (fun _ _ _ h => h)
theorem RowS.at {w : World} {B : Nat} {v : Value} {l : List (List UInt8)} (h : RowS w B v l) : ∃ A cap, v = .slice A l.length cap ∧ StrsAt w B A l := by
  rcases h.2 with ⟨rfl, h0⟩ | ⟨g, cap, cur, rfl, hlo, hb, hle, _, hsz, hcur⟩
  · obtain rfl : l = [] := List.eq_nil_of_length_eq_zero h0
    exact ⟨none, 0, rfl, fun i x hx => by simp at hx⟩
  · refine ⟨_, cap, rfl, fun i c hi => ⟨g, rfl, hlo, Blk.lt (t := 9) (cs := cur) hb, ?_⟩⟩
    have hil : i < l.length := (List.getElem?_eq_some_iff.1 hi).1
    have : (l.map encStr)[i]? = some (encStr c) := by rw [List.getElem?_map, hi]; rfl
    rw [Blk.cell (t := 9) (cs := cur) hb, show some (Value.string ⟨c.toArray⟩) = some (encStr c) from rfl, ← this, ← hcur, List.getElem?_take_of_lt (by omega), Array.getElem?_toList]

theorem ownsRow_cells {w : World} {base n sz : Nat} {t : TypeId} {v : Value} {xs : List Value} (h : w.ownsRow base t sz v n xs) {g : Nat} (hg : v.ownBlock = some g) : ∃ t cs, w.heap[g]? = some (.cells cs t) := by
  rcases h.2 with ⟨rfl, _⟩ | ⟨g', cap, cur, rfl, hb, hh, _⟩
  · simp [Value.ownBlock] at hg
  · have : g' = g := by simpa [Value.ownBlock] using hg
    subst this
    exact ⟨_, _, hh⟩
theorem VRows.base {w : World} {b b' : Nat} {v : Value} {rs : List VRow} (h : VRows w b v rs) (hb : b' ≤ b) : VRows w b' v rs :=
  ⟨ownsRow_base h.own hb, fun r hr => (h.val r hr).base hb, h.apart, h.dist⟩

theorem map_keys {w : World} {m n : Nat} {D : MD} (h : w.ownsMap Try.prog 9 RP m n D) : ∃ es, D = .map es ∧ es.Pairwise (fun p q => p.1 ≠ q.1) ∧ ∀ p ∈ es, ∃ bs : List UInt8, p.1 = .string bs ∧ bs.length ≤ maxLen := by
  obtain ⟨es, hD, hpw, _⟩ := h.entries law9
  obtain ⟨es0, clock, _, F, _, hD2⟩ := h
  refine ⟨es, hD, hpw, fun p hp => ?_⟩
  rw [hD] at hD2
  injection hD2 with hD2
  rw [hD2] at hp
  obtain ⟨key, hk⟩ := Go.Maps.fit_keys F p (mem_sorted.1 hp)
  obtain ⟨x, rfl⟩ := key_inv key p.1 hk
  obtain ⟨h1, h2⟩ := key_lit x p.1 hk
  exact ⟨_, h1, by rw [Array.length_toList]; exact h2⟩

/-- a key of the map is one that has a chain -/
theorem StIs.key_iff {w : World} {s m n : Nat} {D : MD} {C : ByteArray → Option Ch} {live : Int} (h : StIs w s m n D C live) (k : List UInt8) : k ∈ strKeys D ↔ k.length ≤ maxLen ∧ C ⟨k.toArray⟩ ≠ Option.none := by
  obtain ⟨es, rfl, hpw, hkl⟩ := map_keys h.map
  constructor
  · intro hk
    obtain ⟨p, hp, rfl⟩ := List.mem_map.1 hk
    obtain ⟨bs, h1, h2⟩ := hkl p hp
    rw [h1]
    refine ⟨h2, fun hc => ?_⟩
    have h3 := fun zd => h.keys ⟨bs.toArray⟩ zd (show bs.toArray.size ≤ maxLen by rw [List.size_toArray]; exact h2)
    have h4 := fun zd => WideAt.atKey_mem (k := .string bs) (d := p.2) zd trivial hpw (by rw [← h1]; exact hp)
    have h5 := h3 .nil
    have h6 := h3 (.lit (.bool true))
    simp only [strOf] at hc
    rw [hc] at h5 h6
    rw [show DataW.atKey (.map es) (.string bs) _ = _ from h4 _] at h5 h6
    rw [h5] at h6
    cases h6
  · rintro ⟨hl, hc⟩
    cases hh : Go.Maps.has (.map es : MD) (.string k) with
    | true =>
      obtain ⟨p, hp, hk⟩ := List.any_eq_true.1 hh
      exact List.mem_map.2 ⟨p, hp, by rw [WideAt.sameKey_eq hk]; rfl⟩
    | false =>
      have h1 := h.keys ⟨k.toArray⟩ .nil (show k.toArray.size ≤ maxLen by rw [List.size_toArray]; exact hl)
      have h2 := h.keys ⟨k.toArray⟩ (.lit (.bool true)) (show k.toArray.size ≤ maxLen by rw [List.size_toArray]; exact hl)
      change DataW.atKey _ (.string k) _ = _ at h1 h2
      rw [Go.Maps.atKey_of_not_has hh] at h1 h2
      cases hc' : C ⟨k.toArray⟩ with
      | none => exact absurd hc' hc
      | some c => rw [hc'] at h1; cases h1
theorem StIs.has_key {w : World} {s m n : Nat} {D : MD} {C : ByteArray → Option Ch} {live : Int} (h : StIs w s m n D C live) {k : List UInt8} (hk : k ∈ strKeys D) : k.length ≤ maxLen ∧ ∃ c, C ⟨k.toArray⟩ = some c :=
  ⟨((h.key_iff k).1 hk).1, Option.ne_none_iff_exists'.1 ((h.key_iff k).1 hk).2⟩
theorem StIs.nodup {w : World} {s m n : Nat} {D : MD} {C : ByteArray → Option Ch} {live : Int} (h : StIs w s m n D C live) : (strKeys D).Nodup := by
  obtain ⟨es, rfl, hpw, hkl⟩ := map_keys h.map
  show (es.map fun p => strOf p.1).Nodup
  rw [List.Nodup, List.pairwise_map]
  refine hpw.imp_of_mem fun {p q} hp hq hne e => hne ?_
  obtain ⟨a, ha, _⟩ := hkl p hp
  obtain ⟨b, hb, _⟩ := hkl q hq
  rw [ha, hb] at e ⊢
  exact congrArg Lit.string e

/-- all versions, by key and stamp -/
def versOf (D : MD) (V : ByteArray → List Ver) : List (ByteArray × Ver) := (sortedKeys D).flatMap fun k => (V ⟨k.toArray⟩).map fun x => (⟨k.toArray⟩, x)
def VersPost (L : List (ByteArray × Ver)) (w : World) (e : Ending) (w' : World) : Prop := ∃ v rs, e = .returned v ∧ VRows w' w.heap.size v rs ∧ rs.map VRow.plain = L ∧ Only NoneOf w w'

theorem info27' : (Try.prog.info? 27).map (fun i => (i.zero, i.size, i.bytes)) = some (some (.agg #[.string ⟨#[]⟩, .int .i64 0, .slice none 0 0, .bool false]), 4, 56) := by kernel_rfl

theorem flatMap_take_succ {α β : Type} (f : α → List β) : ∀ (l : List α) (i : Nat) (k : α), l[i]? = some k → (l.take (i + 1)).flatMap f = (l.take i).flatMap f ++ f k
  | [], _, _, h => by simp at h
  | x :: l, 0, k, h => by simp at h; simp [h]
  | x :: l, i + 1, k, h => by
    have := flatMap_take_succ f l i k (by simpa using h)
    simp only [List.take_succ_cons, List.flatMap_cons, this, List.append_assoc]
theorem flatMap_take_le {α β : Type} (f : α → List β) (l : List α) (i : Nat) (k : α) (h : l[i]? = some k) : ((l.take i).flatMap f).length + (f k).length ≤ (l.flatMap f).length := by
  rw [← List.length_append, ← flatMap_take_succ f l i k h]
  conv => rhs; rw [← List.take_append_drop (i + 1) l, List.flatMap_append, List.length_append]
  omega

/-- what region 8 has made -/
def VeT (v : Value) (key : ByteArray) (b : Nat) (st : Int) (A : Option Addr) (nb cp : Nat) (xb : List UInt8) (dead : Bool) (B : Nat) : Nat → Value → World → Prop
  | 0, x, _ => x = v
  | 1, x, _ => x = .string key
  | 2, x, _ => x = .pointer (some ⟨b, 0, none⟩)
  | 3, x, _ => x = .int .i64 st
  | 4, x, _ => x = .pointer (some ⟨b, 1, none⟩)
  | 5, x, _ => x = .slice A nb cp
  | 6, x, w => ∃ A' c', x = .slice A' xb.length c' ∧ RowB w B x xb
  | 7, x, _ => x = .pointer (some ⟨b, 2, none⟩)
  | 8, x, _ => x = .bool dead
  | 9, x, w => ∃ A' c', x = .agg #[.string key, .int .i64 st, .slice A' xb.length c', .bool dead] ∧ RowB w B (.slice A' xb.length c') xb
  | 10, x, w => ∃ A' c' b10, x = .slice (some ⟨b10, 0, none⟩) 1 1 ∧ RowB w B (.slice A' xb.length c') xb ∧ B ≤ b10 ∧ Blk w b10 27 #[.string key, .int .i64 st, .slice A' xb.length c', .bool dead]
  | _, _, _ => True
theorem VeT_keep (v : Value) (key : ByteArray) (b : Nat) (st : Int) (A : Option Addr) (nb cp : Nat) (xb : List UInt8) (dead : Bool) (B : Nat) (i : Nat) (x : Value) (w w' : World) (h : VeT v key b st A nb cp xb dead B i x w) (ho : Only NoneOf w w') : VeT v key b st A nb cp xb dead B i x w' :=
  match i, h with
  | 0, h | 1, h | 2, h | 3, h | 4, h | 5, h | 7, h | 8, h => h
  | 6, ⟨A', c', h1, h2⟩ => ⟨A', c', h1, h2.keep ho⟩
  | 9, ⟨A', c', h1, h2⟩ => ⟨A', c', h1, h2.keep ho⟩
  | 10, ⟨A', c', b10, h1, h2, h3, h4⟩ => ⟨A', c', b10, h1, h2.keep ho, h3, h4.only ho (fun h => h)⟩
  | _ + 11, _ => trivial

/-- where the list of versions stands, in the world B -/
def VAll (w : World) (lo : Nat) (Good : Nat → Prop) (L : List (ByteArray × Ver)) (B : World) : Prop :=
  Only NoneOf w B ∧ ∃ v rs, Blk B w.heap.size 31 #[v] ∧ VRows B lo v rs ∧ rs.map VRow.plain = L ∧ ∀ k, VBlocks v rs k → Good k
theorem VAll.only {w : World} {lo : Nat} {Good : Nat → Prop} {L : List (ByteArray × Ver)} {A B : World} {S : Nat → Prop} (h : VAll w lo Good L A) (ho : Only S A B) (h0 : ¬ S w.heap.size) (hG : ∀ k, lo ≤ k → Good k → ¬ S k) (hS : ∀ k, k < w.heap.size → ¬ S k) : VAll w lo Good L B := by
  obtain ⟨h1, v, rs, h2, h3, h4, h5⟩ := h
  refine ⟨h1.step ho (fun k hk hs => hS k hk hs), v, rs, h2.only ho h0, h3.only ho (fun k hk => hG k (h3.lt hk).1 (h5 k hk)), h4, h5⟩

theorem sorted_len (D : MD) : (sortedKeys D).length = Go.Maps.size D := by
  unfold sortedKeys
  rw [List.length_mergeSort]
  cases D <;> simp [strKeys, Go.Maps.size]

set_option maxRecDepth 100000 in
set_option maxHeartbeats 4000000 in
theorem versions_is (w : World) (s m n : Nat) (D : MD) (C : ByteArray → Option Ch) (live : Int) (V : ByteArray → List Ver) {U : Nat → Prop} (h : Sto w s m n D C live V U) (hV : ∀ key, ∀ x ∈ V key, x.bs.length ≤ 4096)
    (hfew : Go.Maps.size D * 16 ≤ 140737488355328) (htot : (versOf D V).length ≤ 2513169434916) :
    Calls Try.prog 25 #[.pointer (some ⟨s, 0, none⟩)] w (VersPost (versOf D V) w) := by
  have HS := Lib.hid h
  have HK := Lib.hid (fun u (ho : Only NoneOf w u) => keys_is u s m n D C live (HS.out.keep ho).is hfew)
  refine callsIn_wide (n := 2).1 (callsIn_of_wp_marks Try.func25 rfl trivial ?_ rfl)
  simp only [Try.ntmps25, List.size_toArray, List.length_cons, List.length_nil, Nat.reduceAdd, Nat.reduceSub, Array.replicate_succ, Array.replicate_zero, List.push_toArray, List.append_toArray, List.nil_append, List.cons_append]
  gi_wp2_with fail
  refine ⟨trivial, (callsIn_wide.2 (HK.out _ ((Only.refl _ _).alloc _))).mono ?_⟩
  rintro e w1 ⟨vk, rfl, hks, ho1⟩
  obtain ⟨Ak, ck, rfl, hka⟩ := RowS.at hks
  have hO1 := Lib.hid (((Only.refl NoneOf w).alloc (.cells #[.slice none 0 0] 31)).trans ho1)
  have hab := (Blk.new w 31 #[.slice none 0 0]).only ho1 (fun h => h)
  have hAll0 := Lib.hid (show VAll w w1.heap.size (fun _ => True) [] w1 from ⟨hO1.out, _, [], hab, VRows.nil _ _, rfl, fun _ _ => trivial⟩)
  have HKA := Lib.hid (show StrsAt w1 (w.heap.size + 1) Ak (sortedKeys D) by simpa using hka)
  have hS1 := hO1.out.size
  have hs1' : w.heap.size + 1 ≤ w1.heap.size := by have := ho1.size; simpa using this
  clear hks ho1 hka hab
  have hL : ∀ (i : Nat) (k : List UInt8), (sortedKeys D)[i]? = some k → k.length ≤ maxLen ∧ ∃ c, C ⟨k.toArray⟩ = some c := fun i k hk => HS.out.is.has_key (by
    have := List.mem_of_getElem? hk
    unfold sortedKeys at this
    exact (List.mergeSort_perm _ _).subset this)
  have HL := Lib.hid hL
  clear hL h
  obtain ⟨ks, hks⟩ : ∃ ks, ks = sortedKeys D := ⟨_, rfl⟩
  have HTOT := Lib.hid (show (ks.flatMap fun k => (V ⟨k.toArray⟩).map fun x => ((⟨k.toArray⟩, x) : ByteArray × Ver)).length ≤ 2513169434916 by rw [hks]; exact htot)
  have HFIN := Lib.hid (show versOf D V = ks.flatMap fun k => (V ⟨k.toArray⟩).map fun x => ((⟨k.toArray⟩, x) : ByteArray × Ver) by rw [hks]; rfl)
  rw [← hks] at HL HKA ⊢
  obtain ⟨nk, hnk⟩ : ∃ nk, ks.length = nk := ⟨_, rfl⟩
  have hnkb : nk ≤ 8796093022208 := by rw [← hnk, hks, sorted_len]; omega
  have HNK := Lib.hid hnk
  simp only [hnk]
  clear hnk hks htot
  have hSlt := HS.out.is.blk.lt
  gi_wp2_with fail
  refine wpIn_loop_ghost_k (fun r a B => ∃ (i : Nat) (ds : List Deferred) (v5 v6 v13 v14 v15 v16 v17 v18 v19 v20 v21 v22 v37 : Value), r + i = nk ∧
      a = { tmps := #[.pointer (some ⟨s, 0, none⟩), undef, .slice none 0 0, .pointer (some ⟨w.heap.size, 0, none⟩), undef, v5, v6, undef, undef, .pointer (some ⟨s, 0, none⟩), .slice Ak nk ck, .int .i64 nk, .int .i64 i, v13, v14, v15, v16, v17, v18, v19, v20, v21, v22, undef, undef, undef, undef, undef, undef, undef, undef, undef, undef, undef, undef, undef, undef, v37, undef], defers := ds } ∧
      VAll w w1.heap.size (fun _ => True) ((ks.take i).flatMap fun k => (V ⟨k.toArray⟩).map fun x => (⟨k.toArray⟩, x)) B ∧ Only (· = w.heap.size) w1 B ∧ Marks w.heap.size B.heap.size B ds) nk
    ⟨0, [], _, _, _, _, _, _, _, _, _, _, _, _, _, by omega, rfl, hAll0.out, Only.refl _ _, trivial⟩ ?_
  rintro r a B ⟨i, ds, v5, v6, v13, v14, v15, v16, v17, v18, v19, v20, v21, v22, v37, hri, rfl, hAll, hOB, hM⟩ J K2 hJ hK2
  have HJ := Lib.hid hJ
  have HK2 := Lib.hid hK2
  have HALL := Lib.hid hAll
  have HM := Lib.hid hM
  have HOB := Lib.hid hOB
  have HRI := Lib.hid hri
  clear hAll hM hOB hAll0
  by_cases hlt : i < nk
  · have hki : ks[i]? = some (ks[i]'(by rw [HNK.out]; exact hlt)) := List.getElem?_eq_getElem _
    generalize ks[i]'(by rw [HNK.out]; exact hlt) = k at hki
    obtain ⟨hkl, c, hc⟩ := HL.out i k hki
    obtain ⟨gk, rfl, hgl, hgk, hkc⟩ := HKA.out.only HOB.out (fun g hg _ e => by omega) i k hki
    clear hJ hK2
    obtain ⟨key, hkey⟩ : ∃ key : ByteArray, key = ⟨k.toArray⟩ := ⟨_, rfl⟩
    have hkm : key.size ≤ maxLen := by rw [hkey]; simpa [ByteArray.size] using hkl
    have HKK := Lib.hid hkey
    rw [← hkey] at hc hkc
    obtain ⟨cp, cv, ls⟩ := c
    have HC := Lib.hid hc
    clear hkey hc hkl
    have hOwB := Lib.hid (hO1.out.step HOB.out (fun k hk e => by omega))
    have hOFB := hOwB.out.alloc (.cells #[.string key] 9)
    have hOF := of_is _ s m n D C live key hkm (HS.out.keep hOFB).is
    rw [HC.out] at hOF
    have HOF := Lib.hid hOF
    have hBsz := HOB.out.size
    clear hOF
    gi_wp2_with fail
    refine ⟨trivial, (callsIn_wide.2 HOF.out).mono ?_⟩
    rintro e B1 ⟨rfl, rfl⟩
    simp only [chPtr]
    gi_wp2_with fail
    refine ⟨trivial, (callsIn_wide.2 (Cb.all_any _ _)).mono ?_⟩
    rintro e B2 ⟨rfl, rfl⟩
    have hO2 := Lib.hid (hOFB.alloc (.cells #[.pointer (some ⟨cp, 0, none⟩)] 84))
    have hch := (HS.out.keep hO2.out).is.chains key _ HC.out
    have hbc := (Blk.new' (B.alloc (.cells #[.string key] 9)) 84 #[.pointer (some ⟨cp, 0, none⟩)] (n := B.heap.size + 1) (by simp)).cellv 0 rfl
    have HCO := Lib.hid (collect_chain _ _ cp cv ls hch hbc)
    clear hch hbc hOFB
    gi_wp2_with fail
    refine ⟨trivial, (callsIn_wide.2 HCO.out).mono ?_⟩
    rintro e B3 ⟨vl, rfl, hrl, hO3, hfl⟩
    have hfm : ∃ Al nl cl, vl = .slice Al nl cl := by
      rcases hrl.2 with ⟨hv, _⟩ | ⟨g, cap, cur, hv, _⟩
      · exact ⟨_, _, _, hv⟩
      · exact ⟨_, _, _, hv⟩
    obtain ⟨Al, nl, cl, rfl⟩ := hfm
    gi_wp2_with fail
    refine ⟨trivial, (callsIn_wide.2 (Cb.back_any _ Al nl cl)).mono ?_⟩
    rintro e B4 ⟨rfl, rfl⟩
    gi_wp2_with fail
    have hz3 : B.heap.size + 2 ≤ B3.heap.size := by have := hO3.size; simpa using this
    have hO3' := ((Only.refl NoneOf B).alloc (.cells #[.string key] 9)).alloc (.cells #[.pointer (some ⟨cp, 0, none⟩)] 84) |>.trans hO3
    have hO4 := hO3'.alloc (.cells #[.slice Al nl cl] 86)
    have hw4 : (B3.alloc (.cells #[.slice Al nl cl] 86)).heap.size = B3.heap.size + 1 := by simp
    have hbs := (Blk.new B3 86 #[.slice Al nl cl]).cellv 0 rfl
    have hr4 : (B3.alloc (.cells #[.slice Al nl cl] 86)).ownsRow 0 92 3 (.slice Al nl cl) ls.reverse.length (flat ls.reverse) := ownsRow_only (S := NoneOf) hrl ((Only.refl _ _).alloc _) (fun _ _ h => h)
    have hkb := (((Blk.new B 9 #[.string key]).alloc (.cells #[.pointer (some ⟨cp, 0, none⟩)] 84)).only hO3 (fun h => h)).alloc (.cells #[.slice Al nl cl] 86)
    have HOw4 := Lib.hid (hOwB.out.trans hO4)
    have hAll4 : VAll w w1.heap.size (fun k => k < B.heap.size) ((ks.take i).flatMap fun k => (V ⟨k.toArray⟩).map fun x => (⟨k.toArray⟩, x)) (B3.alloc (.cells #[.slice Al nl cl] 86)) := by
      obtain ⟨h1, v, rs, h2, h3, h4, _⟩ := HALL.out
      exact ⟨HOw4.out, v, rs, h2.only hO4 (fun h => h), h3.only hO4 (fun _ _ h => h), h4, fun k hk => (h3.lt hk).2⟩
    have hM4 : Marks w.heap.size B.heap.size (B3.alloc (.cells #[.slice Al nl cl] 86)) ds := HM.out.only hO4 (fun _ _ _ _ h => h)
    have hch := HS.out.is.chains key _ HC.out
    have hvl : ∀ l ∈ ls.reverse, IsV l.val := fun l hl => hch.vals l (by simpa using hl)
    have hfw : ls.reverse.length ≤ 3518437208800 := by have := hch.few; simpa using this
    have hglt : ∀ g, (Value.slice Al nl cl).ownBlock = some g → B.heap.size + 2 ≤ g ∧ g < B3.heap.size := fun g hg => ⟨by have := hfl g hg; simp at this; omega, (ownsRow_lt hrl hg).2⟩
    generalize B3.alloc (.cells #[.slice Al nl cl] 86) = w2 at *
    refine range_own (α := Nat × Lk) (xs := backs ls.reverse) (encs := backEnc) (Kp := fun k => k = B3.heap.size ∨ (Value.slice Al nl cl).ownBlock = some k) (by omega) rfl (fun _ _ => by kernel_rfl)
      (fun Wn hn _ => Cb.back_iter Wn B3.heap.size (.slice Al nl cl) ls.reverse _ (ownsRow_only (S := NoneOf) hr4 hn (fun _ _ h => h)) hvl hfw ((hn.cell (p := ⟨B3.heap.size, 0, none⟩) (by show B3.heap.size < _; omega) (fun h => h)).trans hbs) (.inl rfl) (fun g hg => .inr hg))
      (fun _ => rfl) (fun {k} hk hh => by
        rcases hh with hh | hh
        · omega
        · have := (hglt k hh).2; omega)
      (fun E pre A => w2.heap.size + 2 ≤ E ∧ VAll w w1.heap.size (fun k => k < B.heap.size ∨ E ≤ k) (((ks.take i).flatMap fun k => (V ⟨k.toArray⟩).map fun x => (⟨k.toArray⟩, x)) ++ ((V key).take pre.length).map fun x => (key, x)) A ∧ Marks w.heap.size B.heap.size A ds ∧ Blk A B.heap.size 9 #[.string key] ∧ Only (· = w.heap.size) w1 A)
      (fun _ _ _ _ => False)
      (fun E pre A A' hs ho => by
        obtain ⟨h1, h2, h3, h4, h5⟩ := hs
        refine ⟨h1, h2.only ho (fun hk => by have := hk.1; omega) (fun k _ hg hk => ?_) (fun k hk hs => by have := hs.1; omega), h3.only ho (fun k _ hk _ hs => by have := hs.1; omega), h4.only ho (fun hk => by have := hk.1; omega), h5.step ho (fun k hk hs => by have := hs.1; omega)⟩
        rcases hg with hg | hg
        · have := hk.1; omega
        · have := hk.2; omega)
      (fun _ _ _ _ _ hs _ => hs)
      (fun E A hE hA ho => by
        refine ⟨hE, ?_, hM4.only ho (fun _ _ _ _ h => h), hkb.only ho (fun h => h), (HOB.out.step hO4 (fun _ _ h => h.elim)).step ho (fun _ _ h => h.elim)⟩
        obtain ⟨h1, v, rs, h2, h3, h4, h5⟩ := hAll4
        exact ⟨h1.trans ho, v, rs, h2.only ho (fun h => h), h3.only ho (fun _ _ h => h), by simpa using h4, fun k hk => .inl (h5 k hk)⟩)
      (fun x a' A => ∃ b, w2.heap.size + 2 ≤ b ∧ Blk A b 92 x.2.cells.toArray ∧ a' = { tmps := #[.pointer (some ⟨s, 0, none⟩), undef, .slice none 0 0, .pointer (some ⟨w.heap.size, 0, none⟩), undef, .pointer (some ⟨B.heap.size, 0, none⟩), .slice Al nl cl, undef, .pointer (some ⟨b, 0, none⟩), .pointer (some ⟨s, 0, none⟩), .slice (some ⟨gk, 0, none⟩) nk ck, .int .i64 nk, .int .i64 i, .bool true, .pointer (some ⟨gk, i, none⟩), .string key, .pointer (some ⟨s, 0, none⟩), .string key, .pointer (some ⟨cp, 0, none⟩), .func (.func 69) #[] #[.pointer (some ⟨B.heap.size + 1, 0, none⟩)], .slice Al nl cl, .slice Al nl cl, .func (.func 70) #[] #[.pointer (some ⟨B3.heap.size, 0, none⟩)], .int .i64 x.1, .agg x.2.cells.toArray, undef, undef, undef, undef, undef, undef, undef, undef, undef, undef, undef, undef, v37, undef], defers := [] })
      (fun x a' A A' hs ho => by obtain ⟨b, hb, hB, ha⟩ := hs; exact ⟨b, hb, hB.only ho (by omega), ha⟩)
      ?assign ?body ?done ?stop
    case assign =>
      rintro ⟨i1, l0⟩ Wa K hx hsz hK
      have hl0 : l0 ∈ ls.reverse := by
        have : (i1, l0).2 ∈ (backs ls.reverse).map (·.2) := List.mem_map_of_mem hx
        rw [Cb.backs_snd] at this
        simpa using this
      obtain ⟨y, hy⟩ := hvl l0 hl0
      obtain ⟨st, val, dead⟩ := l0
      simp only at hy
      subst hy
      simp only [backEnc, Lk.cells] at hK ⊢
      gi_wp2
      exact hK _ _ ((Only.refl _ _).alloc _) ⟨_, hsz, Blk.new _ _ _, rfl⟩
    case body =>
      rintro E pre ⟨i1, l0⟩ a' Wb hloop hE hEW hpre ⟨_, hAllb, hMb, hKb, hOb⟩ ⟨b, hb, hB8, rfl⟩
      have hpre2 : pre.map Prod.snd ++ [l0] <+: ls := by
        have := hpre.map Prod.snd
        rw [show (backs ls.reverse).map Prod.snd = ls.reverse.reverse from Cb.backs_snd ls.reverse, List.reverse_reverse] at this
        simpa using this
      have hlp : ls[pre.length]? = some l0 := by
        obtain ⟨r', hr'⟩ := hpre2
        rw [← hr', List.append_assoc, List.getElem?_append_right (by simp)]
        simp
      have hlen := HS.out.len key _ HC.out
      have hpl : pre.length < (V key).length := by rw [← hlen]; exact (List.getElem?_eq_some_iff.1 hlp).1
      obtain ⟨x, hx⟩ : ∃ x, (V key)[pre.length]? = some x := ⟨_, List.getElem?_eq_getElem hpl⟩
      obtain ⟨hst, hdd, A, ca, hval, hby, _⟩ := HS.out.ver key _ HC.out pre.length l0 x hlp hx
      have hxl := hV key x (List.mem_of_getElem? hx)
      obtain ⟨st, val, dead⟩ := l0
      obtain ⟨xst, xb, xd⟩ := x
      simp only at hst hdd hval hby hxl
      subst hst; subst hdd; subst hval
      obtain ⟨h1, v, rs, h2, h3, h4, h5⟩ := hAllb
      have HBY := Lib.hid (hby.keep h1)
      obtain ⟨nb, hnb⟩ : ∃ nb, xb.length = nb := ⟨_, rfl⟩
      have hnl : nb ≤ 35184372088832 := by omega
      have HB8 := Lib.hid (show Blk Wb b 92 #[.int .i64 st, .slice A nb ca, .bool dead] by rw [← hnb]; exact hB8)
      have HAB := Lib.hid h2
      have HKB := Lib.hid hKb
      have hcnt : rs.length + 1 ≤ 2513169434916 := by
        have e1 := flatMap_take_le (fun k => (V ⟨k.toArray⟩).map fun x => ((⟨k.toArray⟩, x) : ByteArray × Ver)) ks i k hki
        have e2 := HTOT.out
        have e3 := congrArg List.length h4
        simp only [List.length_map, List.length_append, List.length_take] at e1 e3
        rw [← HKK.out] at e1
        omega
      obtain ⟨i0, hi, hz0, hz1, hz3'⟩ := info_parts info27'
      refine wpIn_block ?_
      simp only [Lk.cells]
      rw [hnb]
      refine wpIn_region_head 11 39 (VeT v key b st A nb ca xb dead Wb.heap.size) (fun _ => false) rfl (by kernel_rfl) (by kernel_rfl) (by kernel_rfl) (fun ⟨_, _, h⟩ => h) (VeT_keep _ _ _ _ _ _ _ _ _ _) (fun _ _ _ h => by cases h) ?_ ?_
      · intro i o hi ho a u hu hs ht
        have e3 : a.tmps.getD 3 undef = .pointer (some ⟨w.heap.size, 0, none⟩) := hs 3 (of_decide_eq_true (by kernel_rfl))
        have e5 : a.tmps.getD 5 undef = .pointer (some ⟨B.heap.size, 0, none⟩) := hs 5 (of_decide_eq_true (by kernel_rfl))
        have e8 : a.tmps.getD 8 undef = .pointer (some ⟨b, 0, none⟩) := hs 8 (of_decide_eq_true (by kernel_rfl))
        have F8 := HB8.out.only hu (fun h => h)
        have c0 := F8.cellv 0 rfl
        have c1 := F8.cellv 1 rfl
        have c2 := F8.cellv 2 rfl
        have a0 := (HAB.out.only hu (fun h => h)).cellv 0 rfl
        have k0 := (HKB.out.only hu (fun h => h)).cellv 0 rfl
        have : i = 0 ∨ i = 1 ∨ i = 2 ∨ i = 3 ∨ i = 4 ∨ i = 5 ∨ i = 6 ∨ i = 7 ∨ i = 8 ∨ i = 9 ∨ i = 10 := by omega
        rcases this with rfl | rfl | rfl | rfl | rfl | rfl | rfl | rfl | rfl | rfl | rfl
        · obtain rfl := Option.some.inj (ho : some _ = some o)
          exact left_value (v) (by simp [go_sem, e3, a0]) rfl rfl
        · obtain rfl := Option.some.inj (ho : some _ = some o)
          exact left_value (.string key) (by simp [go_sem, e5, k0]) rfl rfl
        · obtain rfl := Option.some.inj (ho : some _ = some o)
          exact left_value (.pointer (some ⟨b, 0, none⟩)) (by simp [go_sem, e8]) rfl rfl
        · obtain rfl := Option.some.inj (ho : some _ = some o)
          have s2 : a.tmps.getD 27 undef = .pointer (some ⟨b, 0, none⟩) := ht 2 (by omega) (by kernel_rfl)
          exact left_value (.int .i64 st) (by simp [go_sem, s2, c0]) rfl rfl
        · obtain rfl := Option.some.inj (ho : some _ = some o)
          exact left_value (.pointer (some ⟨b, 1, none⟩)) (by simp [go_sem, e8]) rfl rfl
        · obtain rfl := Option.some.inj (ho : some _ = some o)
          have s4 : a.tmps.getD 29 undef = .pointer (some ⟨b, 1, none⟩) := ht 4 (by omega) (by kernel_rfl)
          exact left_value (.slice A nb ca) (by simp [go_sem, s4, c1]) rfl rfl
        · obtain rfl := Option.some.inj (ho : some _ = some o)
          have s5 : a.tmps.getD 30 undef = .slice A nb ca := ht 5 (by omega) (by kernel_rfl)
          refine left_calls 47 #[.slice A nb ca] (by simp [go_sem, s5]) ((own_is A nb ca xb u hnb (HBY.out.keep hu) hnl).mono ?_) rfl
          rintro e u' ⟨v', rfl, hr, ho'⟩
          obtain ⟨A', c', rfl, _⟩ := hr.at
          exact ⟨_, rfl, ⟨A', c', rfl, hr.base hu.size⟩, ho'⟩
        · obtain rfl := Option.some.inj (ho : some _ = some o)
          exact left_value (.pointer (some ⟨b, 2, none⟩)) (by simp [go_sem, e8]) rfl rfl
        · obtain rfl := Option.some.inj (ho : some _ = some o)
          have s7 : a.tmps.getD 32 undef = .pointer (some ⟨b, 2, none⟩) := ht 7 (by omega) (by kernel_rfl)
          exact left_value (.bool dead) (by simp [go_sem, s7, c2]) rfl rfl
        · obtain rfl := Option.some.inj (ho : some _ = some o)
          have s1 : a.tmps.getD 26 undef = .string key := ht 1 (by omega) (by kernel_rfl)
          have s1' : a.tmps[26]?.getD undef = .string key := by simpa using s1
          have s3 : a.tmps.getD 28 undef = .int .i64 st := ht 3 (by omega) (by kernel_rfl)
          have s3' : a.tmps[28]?.getD undef = .int .i64 st := by simpa using s3
          have s8 : a.tmps.getD 33 undef = .bool dead := ht 8 (by omega) (by kernel_rfl)
          have s8' : a.tmps[33]?.getD undef = .bool dead := by simpa using s8
          obtain ⟨A', c', s6, hr⟩ : ∃ A' c', a.tmps.getD 31 undef = .slice A' xb.length c' ∧ RowB u Wb.heap.size (a.tmps.getD 31 undef) xb := ht 6 (by omega) (by kernel_rfl)
          rw [s6] at hr
          have s6' : a.tmps[31]?.getD undef = .slice A' xb.length c' := by simpa using s6
          exact left_value (.agg #[.string key, .int .i64 st, .slice A' xb.length c', .bool dead]) (by simp [go_sem, s1', s3', s6', s8']) rfl ⟨A', c', rfl, hr⟩
        · obtain rfl := Option.some.inj (ho : some _ = some o)
          obtain ⟨A', c', s9, hr⟩ : ∃ A' c', a.tmps.getD 34 undef = .agg #[.string key, .int .i64 st, .slice A' xb.length c', .bool dead] ∧ RowB u Wb.heap.size (.slice A' xb.length c') xb := ht 9 (by omega) (by kernel_rfl)
          have s9' : a.tmps[34]?.getD undef = .agg #[.string key, .int .i64 st, .slice A' xb.length c', .bool dead] := by simpa using s9
          exact left_to (.slice (some ⟨u.heap.size, 0, none⟩) 1 1) (u.alloc (.cells #[.string key, .int .i64 st, .slice A' xb.length c', .bool dead] 27)) (by simp [go_sem, s9']) rfl ⟨A', c', _, rfl, hr.keep ((Only.refl _ _).alloc _), hu.size, Blk.new _ _ _⟩ ((Only.refl _ _).alloc _)
      · intro V' u hu hV' _
        have v0 : V' 0 = v := hV' 0 (by omega)
        have v1 : V' 1 = .string key := hV' 1 (by omega)
        have v2 : V' 2 = .pointer (some ⟨b, 0, none⟩) := hV' 2 (by omega)
        have v3 : V' 3 = .int .i64 st := hV' 3 (by omega)
        have v4 : V' 4 = .pointer (some ⟨b, 1, none⟩) := hV' 4 (by omega)
        have v5 : V' 5 = .slice A nb ca := hV' 5 (by omega)
        obtain ⟨A6, c6, v6, _⟩ : ∃ A' c', V' 6 = .slice A' xb.length c' ∧ RowB u Wb.heap.size (V' 6) xb := hV' 6 (by omega)
        have v7 : V' 7 = .pointer (some ⟨b, 2, none⟩) := hV' 7 (by omega)
        have v8 : V' 8 = .bool dead := hV' 8 (by omega)
        obtain ⟨A9, c9, v9, _⟩ : ∃ A' c', V' 9 = .agg #[.string key, .int .i64 st, .slice A' xb.length c', .bool dead] ∧ RowB u Wb.heap.size (.slice A' xb.length c') xb := hV' 9 (by omega)
        obtain ⟨A', c', b10, v10, hr, hb10, hN⟩ : ∃ A' c' b10, V' 10 = .slice (some ⟨b10, 0, none⟩) 1 1 ∧ RowB u Wb.heap.size (.slice A' xb.length c') xb ∧ Wb.heap.size ≤ b10 ∧ Blk u b10 27 #[.string key, .int .i64 st, .slice A' xb.length c', .bool dead] := hV' 10 (by omega)
        change wpList _ _ _ _ (Act.put (Act.put (Act.put (Act.put (Act.put (Act.put (Act.put (Act.put (Act.put (Act.put (Act.put _ (some 25) (V' 0)) (some 26) (V' 1)) (some 27) (V' 2)) (some 28) (V' 3)) (some 29) (V' 4)) (some 30) (V' 5)) (some 31) (V' 6)) (some 32) (V' 7)) (some 33) (V' 8)) (some 34) (V' 9)) (some 35) (V' 10)) _
        rw [v0, v1, v2, v3, v4, v5, v6, v7, v8, v9, v10]
        simp only [Act.put, List.setIfInBounds_toArray, List.set_cons_zero, List.set_cons_succ]
        simp only [List.drop_succ_cons, List.drop_zero]
        clear hV' v0 v1 v2 v3 v4 v5 v6 v7 v8 v9 v10
        have hR3 := h3.only hu (fun _ _ h => h)
        have hV3 := h2.only hu (fun h => h)
        have hne : v.ownBlock ≠ some w.heap.size := fun e => by have := (ownsRow_lt h3.own e).1; omega
        have hsu := hu.size
        have hN' := Lib.hid hN
        have HR := Lib.hid hr
        have x9 : ∀ j z, ([.string key, .int .i64 st, .slice A' xb.length c', .bool dead] : List Value)[j]? = some z → u.cell? ((⟨b10, 0, none⟩ : Addr).add j) = some z := fun j z hj => by
          have e : (⟨b10, 0, none⟩ : Addr).add j = ⟨b10, j, none⟩ := by unfold Addr.add; split <;> simp_all
          rw [e, hN.cell]
          simpa using hj
        clear hN hr
        refine wpList_append_own_at (w := u) rfl (.tmp 25) (.tmp 35) 31 rfl w1.heap.size 27 i0 _ 4 56 Try.underlying31 hi hz0 hz1 hz3' rfl (by decide) v rs.length (vflat rs) rfl hR3.own ⟨b10, 0, none⟩ 1 1 [.string key, .int .i64 st, .slice A' xb.length c', .bool dead] rfl rfl x9 (by simp [Value.oneCell']) (by unfold maxLen; omega) (by omega) (by omega) ?_
        intro v' w3 hown' hgr _ hat
        obtain ⟨g', cap', rfl⟩ := ownsRow_succ hown'
        have hV4 := hV3.only (only_grown hgr) (fun e => hne e)
        have y0 := hV4.cellv 0 rfl
        have y1 := hV4.free 0
        simp only [Act.put, List.setIfInBounds_toArray, List.set_cons_zero, List.set_cons_succ]
        have HW4 := Lib.hid hw4
        clear hw4
        go_wp2_with fail
        have hw4 := HW4.out
        have hRlo : ∀ g, v.ownBlock = some g → w1.heap.size ≤ g := fun g hg => (ownsRow_lt h3.own hg).1
        have hgood : ∀ k, v.ownBlock = some k → k < w2.heap.size ∧ ¬ (k = B3.heap.size ∨ (Value.slice Al nl cl).ownBlock = some k) ∨ E ≤ k := fun k hk => by
          rcases h5 k (.inl hk) with hk' | hk'
          · refine .inl ⟨by omega, fun hh => ?_⟩
            rcases hh with hh | hh
            · omega
            · have := (hglt k hh).1; omega
          · exact .inr hk'
        have hwlt : w.heap.size < w2.heap.size ∧ ¬ (w.heap.size = B3.heap.size ∨ (Value.slice Al nl cl).ownBlock = some w.heap.size) := by
          refine ⟨by omega, fun hh => ?_⟩
          rcases hh with hh | hh
          · omega
          · have := (hglt _ hh).1; omega
        have fin1 : Only (Theirs w2.heap.size E fun k => k = B3.heap.size ∨ (Value.slice Al nl cl).ownBlock = some k) Wb w3 := Only.step (hu.mono (fun _ _ h => h.elim)) (only_grown hgr) (fun k _ hk => hgood k hk)
        have hrow : RowB u w1.heap.size (.slice A' xb.length c') xb := HR.out.base (by omega)
        have hrl' : ∀ g, (Value.slice A' xb.length c').ownBlock = some g → Wb.heap.size ≤ g := fun g hg => (ownsRow_lt HR.out hg).1
        have hsn := VRows.snoc (r := ⟨key, st, .slice A' xb.length c', xb, dead⟩) (h3.only hu (fun _ _ h => h)) (only_grown hgr) hown' (by
          rcases hat with e | e
          · exact .inl e
          · exact .inr ⟨_, e, Nat.le_refl _⟩) hrow (fun g hg hb' => by have := hrl' g hg; have := (h3.lt hb').2; omega)
        have hvb := fun k hk => vblocks_snoc (v := v) (v' := .slice (some ⟨g', 0, none⟩) (rs.length + 1) cap') (rs := rs) (r := ⟨key, st, .slice A' xb.length c', xb, dead⟩) (k := k) (n := u.heap.size) (by
          rcases hat with e | e
          · exact .inl e
          · exact .inr ⟨_, e, Nat.le_refl _⟩) hk
        have hE' : ∀ k, VBlocks (.slice (some ⟨g', 0, none⟩) (rs.length + 1) cap') (rs ++ [⟨key, st, .slice A' xb.length c', xb, dead⟩]) k → k < B.heap.size ∨ E ≤ k := fun k hk => by
          rcases hvb k hk with h | h | h
          · exact h5 k h
          · have := hrl' k h; exact .inr (by omega)
          · exact .inr (by omega)
        have ho3 : Only (fun k => v.ownBlock = some k) Wb w3 := Only.step (hu.mono (fun _ _ h => h.elim)) (only_grown hgr) (fun _ _ h => h)
        have hput : Only (· = w.heap.size) w3 (w3.setCell ⟨w.heap.size, 0, none⟩ (.slice (some ⟨g', 0, none⟩) (rs.length + 1) cap')) := (Only.refl (· = w.heap.size) w3).put (.inl rfl) _
        refine ⟨Only.put fin1 (.inl (.inl hwlt)) _, by omega, ⟨?_, _, _, hV4.put 0 _, hsn.only hput (fun k hk e => by have := (hsn.lt hk).1; omega), ?_, hE'⟩, ?_, ?_, ?_⟩
        · exact (h1.step ho3 (fun k hk e => by have := (ownsRow_lt h3.own e).1; omega)).step hput (fun k hk e => by omega)
        · rw [List.map_append, h4, List.length_append]
          simp only [List.map_cons, List.map_nil, List.length_cons, List.length_nil, Nat.zero_add, List.append_assoc]
          congr 1
          try rw [← List.map_take]
          rw [show ((V key).take (pre.length + 1)) = (V key).take pre.length ++ [⟨st, xb, dead⟩] by rw [List.take_add_one, hx]; rfl]
          rw [List.map_append]
          rfl
        · refine (hMb.only ho3 (fun k _ _ hk e => ?_)).only hput (fun k hk1 _ hk e => ?_)
          · rcases h3.own.2 with ⟨hv0, _⟩ | ⟨g, _, _, hv0, _, hb', _⟩
            · rw [hv0] at e; simp [Value.ownBlock] at e
            · rw [hv0] at e
              have : g = k := by simpa [Value.ownBlock] using e
              rw [this, hk] at hb'
              cases hb'
          · subst e
            have hb' := hV4
            unfold Blk at hb'
            rw [hk] at hb'
            cases hb'
        · refine (hKb.only ho3 (fun e => ?_)).only hput (fun e => by omega)
          rcases h5 _ (.inl e) with h | h
          · omega
          · omega
        · refine (hOb.step ho3 (fun k hk e => ?_)).step hput (fun k hk e => e)
          have := hRlo k e
          omega
    case done =>
      rintro E Wd hE ⟨_, hAlld, hMd, _, hOd⟩ hD
      have HD := Lib.hid hAlld
      have HMD := Lib.hid hMd
      have HDD := Lib.hid hD
      have HW4 := Lib.hid hw4
      clear hAlld hMd hD hw4
      gi_wp2_with fail
      have hw4 := HW4.out
      obtain ⟨h1, v, rs, h2, h3, h4, _⟩ := HD.out
      have hri := HRI.out
      refine HK2.out _ _ (Handed.intro (r - 1) (by omega) (HJ.out _ _ _ ⟨i + 1, _, _, _, _, _, _, _, _, _, _, _, _, _, _, by omega, by rw [show ((i + 1 : Nat) : Int) = (i : Int) + 1 by omega], ⟨h1, v, rs, h2, h3, ?_, fun _ _ => trivial⟩, hOd, HMD.out.up (by omega) |>.cons HDD.out (by omega) ((Array.getElem?_eq_some_iff.1 HDD.out).1)⟩))
      rw [h4, flatMap_take_succ _ _ _ _ hki, ← HKK.out]
      have hlen := HS.out.len key _ HC.out
      rw [List.take_of_length_le (show (V key).length ≤ (backs ls.reverse).length by simp [backs]; simp at hlen; omega)]
    case stop =>
      rintro E cd pre Wd hE hpre h
      exact h.elim
  · obtain rfl : i = nk := by omega
    have e1 : ks.take ks.length = ks := List.take_length
    obtain ⟨hOw, v, rs, hVb, hVR, hpl, hgd⟩ := HALL.out
    have a0 := hVb.cellv 0 rfl
    rw [← HNK.out, e1, ← HFIN.out] at hpl
    have HPL := Lib.hid hpl
    have HVB := Lib.hid hVb
    clear hJ hK2 hpl HALL hgd hVb e1
    gi_wp2_with fail
    refine leaves_marks HM.out fun w' ho' => ?_
    have hnd : ∀ k, (∃ t cs, B.heap[k]? = some (.cells cs t)) → ¬ ((w.heap.size ≤ k) ∧ ∃ o, B.heap[k]? = some (.deferred o)) := fun k hc hd => by
      obtain ⟨t, cs, hc⟩ := hc
      obtain ⟨_, o, hd⟩ := hd
      rw [hc] at hd
      cases hd
    refine ⟨_, results_tmp rfl _ _ _, v, rs, rfl, ?_, HPL.out, hOw.step ho' (fun k hk hs => by omega)⟩
    refine (hVR.only ho' (fun k hk hs => hnd k ?_ hs)).base (by omega)
    rcases hk with hk | ⟨r', hr', hk⟩
    · exact ownsRow_cells hVR.own hk
    · exact ownsRow_cells (hVR.val r' hr') hk

end Go.Proofs.Ytnonnencdhogiaa
