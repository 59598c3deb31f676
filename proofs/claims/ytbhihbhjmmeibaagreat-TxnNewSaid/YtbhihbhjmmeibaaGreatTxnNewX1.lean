/-
  Texts of this proof, laid together: T29, T27b, T30, U1, U2, U3.
-/
import Derived.Test.YtbhihbhjmmeibaaGreatM6
/-
  Layer 17's law TxnOwn walked.
-/
namespace Go.Proofs.YtbhihbhjmmeibaaGreat
open Go.RowKit Go.Shelf
open Qa (Ac AcIs AcPost)

/-- what stands in a law: all of it is new -/
structure LawSt (w : World) (n : Nat) (os : Nat → Ob) (F : Nat → Nat → Prop) (u : World) : Prop where
  sc : Scene n os F u
  only : Only NoneOf w u
  new : ∀ j, j < n → ∀ k, F j k → w.heap.size ≤ k
theorem LawSt.keep {w u u' : World} {n : Nat} {os : Nat → Ob} {F : Nat → Nat → Prop} (h : LawSt w n os F u) (ho : Only NoneOf u u') : LawSt w n os F u' := ⟨h.sc.keep ho, h.only.trans ho, h.new⟩
theorem LawSt.congr {w u : World} {n : Nat} {os os' : Nat → Ob} {F : Nat → Nat → Prop} (h : LawSt w n os F u) (he : ∀ i, i < n → os i = os' i) : LawSt w n os' F u := ⟨h.sc.congr he, h.only, h.new⟩
theorem LawSt.turn {w u u' : World} {n : Nat} {os os' : Nat → Ob} {F : Nat → Nat → Prop} {S : Nat → Prop} (h : LawSt w n os F u) (hs : Scene n os' F u') (ho : Only S u u') (hS : ∀ k, S k → ∃ j, j < n ∧ F j k) : LawSt w n os' F u' :=
  ⟨hs, h.only.step ho (fun k hk hh => by obtain ⟨j, hj, hf⟩ := hS k hh; have := h.new j hj k hf; omega), h.new⟩
theorem LawSt.grow {w u u' : World} {n : Nat} {os os' : Nat → Ob} {F : Nat → Nat → Prop} {F' : Nat → Prop} {j : Nat} (h : LawSt w n os F u) (hj : j < n) (hs : Scene n os' (setAt F j F') u') (ho : Only (F j) u u') (hF : ∀ k, F' k → F j k ∨ u.heap.size ≤ k) : LawSt w n os' (setAt F j F') u' :=
  ⟨hs, h.only.step ho (fun k hk hh => by have := h.new j hj k hh; omega), fun i hi k hk => by
    by_cases e : i = j
    · subst e
      rw [setAt_same] at hk
      rcases hF k hk with h1 | h1
      · exact h.new i hi k h1
      · have := h.only.size; omega
    · rw [setAt_ne _ _ e] at hk
      exact h.new i hi k hk⟩
theorem LawSt.more {w u u' : World} {n : Nat} {os os' : Nat → Ob} {F : Nat → Nat → Prop} {F' : Nat → Prop} (h : LawSt w n os F u) (hs : Scene (n + 1) os' (setAt F n F') u') (ho : Only NoneOf u u') (hF : ∀ k, F' k → u.heap.size ≤ k) : LawSt w (n + 1) os' (setAt F n F') u' :=
  ⟨hs, h.only.trans ho, fun i hi k hk => by
    by_cases e : i = n
    · subst e
      rw [setAt_same] at hk
      have := hF k hk
      have := h.only.size
      omega
    · rw [setAt_ne _ _ e] at hk
      exact h.new i (by omega) k hk⟩
theorem LawSt.start (w : World) (os : Nat → Ob) (F : Nat → Nat → Prop) : LawSt w 0 os F w := ⟨Scene.start _ _ _, Only.refl _ _, fun j hj => absurd hj (by omega)⟩
theorem LawSt.lt {w u : World} {n : Nat} {os : Nat → Ob} {F : Nat → Nat → Prop} (h : LawSt w n os F u) {j k : Nat} (hj : j < n) (hk : F j k) : k < u.heap.size := (h.sc j hj).lt k hk

/-- what came, of a list of versions -/
def fillR (xs : List KV) : List KV := xs.foldl (fun R x => afterR R x.1 x.2) []
theorem fillR_snoc (xs : List KV) (x : KV) : fillR (xs ++ [x]) = afterR (fillR xs) x.1 x.2 := by simp [fillR, List.foldl_append]
theorem fillR_take {xs : List KV} {i : Nat} {x : KV} (h : xs[i]? = some x) : fillR (xs.take (i + 1)) = afterR (fillR (xs.take i)) x.1 x.2 := by
  rw [List.take_add_one, h]
  exact fillR_snoc _ _

/-- two sources; and a transaction and an account -/
def os2 (sb s2 : Sr) : Nat → Ob
  | 0 => .sr sb
  | _ => .sr s2
def os4 (sb s2 : Sr) (x : Tx) (b : Nat) (a : Ac) : Nat → Ob
  | 0 => .sr sb
  | 1 => .sr s2
  | 2 => .tx x
  | _ => .ac b a
def srI (s st : Nat) (vs : List KV) (i : Nat) (asked : Int) : Sr := ⟨s, st, fillR (vs.take i), i, 0, asked⟩
def OwRel (w : World) (vs : List KV) (n sa ta sb tb : Nat) (v : Value) (wr : World) : Prop := ∃ (i : Nat) (F : Nat → Nat → Prop), v = .int .i64 i ∧ i ≤ n ∧ LawSt w 2 (os2 (srI sa ta vs i 0) (srI sb tb vs i 0)) F wr

theorem own_e0 (key : ByteArray) (hk : 1 ≤ key.size ∧ key.size ≤ 255) : getE false [4611686018427387904, 4611686018427387904] 0 key = 0 := by
  unfold getE
  rw [if_neg (by decide), if_neg (not_not_intro hk)]
  decide
theorem own_e1 (key : ByteArray) (hk : 1 ≤ key.size ∧ key.size ≤ 255) : getE false [4611686018427387904, 4611686018427387904] 1 key = 0 := by
  unfold getE
  rw [if_neg (by decide), if_neg (not_not_intro hk)]
  decide
def owTx (t p m : Nat) (ws : List We) : Tx := ⟨t, p, m, 1, [4611686018427387904, 4611686018427387904], ws, false⟩
theorem own_get0 (t p m : Nat) (ws : List We) (s : Sr) (hs : s.H = 0) (key : ByteArray) (hk : 1 ≤ key.size ∧ key.size ≤ 255) : getA (owTx t p m ws) s 0 key = (((found (verR s.R key) 4611686018427387904).getD [], (found (verR s.R key) 4611686018427387904).isSome, 0), 1) := by
  unfold getA
  have h2 : readY (owTx t p m ws) 0 = 4611686018427387904 := rfl
  have h4 : ¬ (0 : Int) = ((owTx t p m ws).place : Int) := by show ¬ (0 : Int) = ((1 : Nat) : Int); decide
  rw [show getE (owTx t p m ws).ended (owTx t p m ws).snap 0 key = 0 from own_e0 key hk, h2, if_neg (by decide), if_neg h4, hs, if_neg (by decide)]
theorem own_get1 (t p m : Nat) (e : We) (s : Sr) (key : ByteArray) (hk : 1 ≤ key.size ∧ key.size ≤ 255) (he : e.key = key.data.toList) : getA (owTx t p m (layW [] e)) s 1 key = ((e.bs, !e.dead, 0), 0) := by
  unfold getA
  have hl : look (owTx t p m (layW [] e)).ws key.data.toList = some e := by
    show look [e] key.data.toList = some e
    rw [look_cons, if_pos he]
  rw [show getE (owTx t p m (layW [] e)).ended (owTx t p m (layW [] e)).snap 1 key = 0 from own_e1 key hk, if_neg (by decide), if_pos (show (1 : Int) = ((owTx t p m (layW [] e)).place : Int) from rfl), hl]
def owAc (pend : Int) : Ac := ⟨1048576, 1, 0, pend, 1⟩
theorem own_wr (key : ByteArray) (hk : 1 ≤ key.size ∧ key.size ≤ 255) (nb : Nat) (hn : nb ≤ 4096) (now : Int) (h0 : 0 ≤ now) (h1 : now ≤ 4351) : wrC false 2 1 1 key nb (owAc 0) ((0 : Nat) : Int) now = 0 := by
  unfold wrC
  rw [if_neg (by decide), if_neg (not_not_intro hk), if_neg (by omega), if_neg (by decide)]
  unfold Ac.doCharge owAc
  rw [if_neg (by simp), if_neg (by omega), if_neg (by simp; omega)]

theorem ints_two (w : World) (x y : Int) : IntsAt (w.alloc (.cells #[.int .i64 x, .int .i64 y] 3)) (some ⟨w.heap.size, 0, none⟩) [x, y] := fun i c hc => by
  have hb := Blk.new w 3 #[.int .i64 x, .int .i64 y]
  match i, hc with
  | 0, hc => simp at hc; subst hc; exact ⟨_, 0, rfl, by simp, hb.cellv 0 rfl⟩
  | 1, hc => simp at hc; subst hc; exact ⟨_, 0, rfl, by simp, hb.cellv 1 rfl⟩
  | i + 2, hc => simp at hc
/-- bytes that nothing turns that is told here -/
theorem LawSt.bytes {w u u' : World} {n : Nat} {os : Nat → Ob} {F : Nat → Nat → Prop} {S : Nat → Prop} (h : LawSt w n os F u) (hS : ∀ k, S k → ∃ j, j < n ∧ F j k) {v : World} {A : Option Addr} {bs : List UInt8} (hb : BytesAt v A bs) (hlo : bs ≠ [] → ∀ g off, A = some ⟨g, off, none⟩ → u.heap.size ≤ g) (ho : Only S v u') : BytesAt u' A bs :=
  hb.turn ho fun hne g off hA hs => by
    obtain ⟨j, hj, hf⟩ := hS g hs
    have := h.lt hj hf
    have := hlo hne g off hA
    omega

end Go.Proofs.YtbhihbhjmmeibaaGreat

/-
  Layer 17: Put of a value of any length.
-/
namespace Go.Proofs.YtbhihbhjmmeibaaGreat
open Go.RowKit Go.Shelf
open Qa (Ac AcIs AcPost)

set_option maxRecDepth 100000 in
set_option maxHeartbeats 200000 in
theorem txPut_any (w : World) (t p m place N : Nat) (snap : List Int) (ws : List We) (ended : Bool) (U : Nat → Prop) (h : TxR w t p m U place snap ws ended N) (hN : N < 1048577) (b : Nat) (s : Ac) (ha : AcIs w b s) (ok : s.Ok) (hb : U b)
    (x : Int) (key : ByteArray) (hkl : key.size ≤ maxLen) (Av : Option Addr) (nb cv : Nat) (bs : List UInt8) (hnb : bs.length = nb) (hby : BytesAt w Av bs) (hvb : bs ≠ [] → ∀ g off, Av = some ⟨g, off, none⟩ → g ≠ b) (now : Int) (hnow : wrap64 ((key.size : Int) + nb) = now) :
    Calls Tryz.prog 39 #[.pointer (some ⟨t, 0, none⟩), .int .i64 x, .string key, .slice Av nb cv, .pointer (some ⟨b, 0, none⟩)] w
      (WrPost t p m place N snap ws ended U b s (wrC ended snap.length place x key nb s (weightW ws key.data.toList : Nat) now) ⟨key.data.toList, bs, false⟩ (weightW ws key.data.toList : Nat) now w) := by
  have hbt := h.ult b hb
  have B5 := ((Blk.new w 28 #[.pointer (some ⟨t, 0, none⟩)]).alloc (.cells #[.string key] 9)).alloc (.cells #[.slice Av nb cv] 45)
  have B7 := (Blk.new' (w.alloc (.cells #[.pointer (some ⟨t, 0, none⟩)] 28)) 9 #[.string key] (n := w.heap.size + 1) (by simp)).alloc (.cells #[.slice Av nb cv] 45)
  have B8 := Blk.new' ((w.alloc (.cells #[.pointer (some ⟨t, 0, none⟩)] 28)).alloc (.cells #[.string key] 9)) 45 #[.slice Av nb cv] (n := w.heap.size + 1 + 1) (by simp)
  have HO := Lib.hid ((((Only.refl NoneOf w).alloc (.cells #[.pointer (some ⟨t, 0, none⟩)] 28)).alloc (.cells #[.string key] 9)).alloc (.cells #[.slice Av nb cv] 45))
  obtain ⟨w3, hw3⟩ : ∃ w3, ((w.alloc (.cells #[.pointer (some ⟨t, 0, none⟩)] 28)).alloc (.cells #[.string key] 9)).alloc (.cells #[.slice Av nb cv] 45) = w3 := ⟨_, rfl⟩
  have HW3 := Lib.hid hw3
  rw [hw3] at B5 B7 B8 HO
  have H3 := h.keep HO.out
  have hW := write_is w3 t p m place N snap ws ended U H3 b s (AcIs.only ha HO.out (fun h => h)) ok hb x key hkl Av nb cv now ⟨key.data.toList, bs, false⟩ 68 #[.pointer (some ⟨w.heap.size, 0, none⟩), .pointer (some ⟨w.heap.size + 1, 0, none⟩), .pointer (some ⟨w.heap.size + 1 + 1, 0, none⟩)] (fun _ _ => by kernel_rfl) (fun hk hl u hu =>
    put1_is u t p m place N snap ws ended U (H3.other hu (U' := U) (fun k hk => by rw [hk]; exact hb) (fun k hk => ⟨Nat.lt_of_lt_of_le (H3.ult k hk).1 hu.size, .inl hk⟩)) hN _ _ _ key Av nb cv bs (B5.only hu (by omega)) (B7.only hu (by omega)) (B8.only hu (by omega)) hnb ((hby.keep HO.out).turn hu (fun hne g off hA => hvb hne g off hA)) hl hk)
  have HWR := Lib.hid hW
  have k0 := B5.cellv 0 rfl
  have k1 := B7.cellv 0 rfl
  have k2 := B8.cellv 0 rfl
  obtain ⟨nk, hnk⟩ : ∃ nk, key.size = nk := ⟨_, rfl⟩
  rw [hnk] at hnow
  clear h ha ok hkl hby hvb hW H3 hw3 B5 B7 B8 hbt
  go_enter Tryz.func39, Tryz.ntmps39
  go_wp2_with fail
  rw [HW3.out]
  refine HWR.out.mono ?_
  rintro e w4 hp
  have HPP := Lib.hid hp
  obtain ⟨rfl, _⟩ := hp
  go_wp2_with fail
  go_ret
  exact HPP.out.from HO.out


theorem wr_same {ended : Bool} {n place : Nat} {x : Int} {key : ByteArray} {nb : Nat} {s : Ac} {old a b : Int} (h : 1 ≤ key.size ∧ key.size ≤ 255 → nb ≤ 4096 → a = b) : wrC ended n place x key nb s old a = wrC ended n place x key nb s old b ∧ wrA (wrC ended n place x key nb s old a) s old a = wrA (wrC ended n place x key nb s old b) s old b := by
  by_cases hv : (1 ≤ key.size ∧ key.size ≤ 255) ∧ nb ≤ 4096
  · rw [h hv.1 hv.2]
    exact ⟨rfl, rfl⟩
  · have e : wrC ended n place x key nb s old a = wrC ended n place x key nb s old b := by
      unfold wrC
      by_cases h1 : openC ended n x ≠ 0
      · rw [if_pos h1, if_pos h1]
      · rw [if_neg h1, if_neg h1]
        by_cases h2 : ¬ (1 ≤ key.size ∧ key.size ≤ 255)
        · rw [if_pos h2, if_pos h2]
        · rw [if_neg h2, if_neg h2, if_pos (by omega), if_pos (by omega)]
    have hn : wrC ended n place x key nb s old b ≠ 0 := by
      unfold wrC
      by_cases h1 : openC ended n x ≠ 0
      · rw [if_pos h1]; exact h1
      · rw [if_neg h1]
        by_cases h2 : ¬ (1 ≤ key.size ∧ key.size ≤ 255)
        · rw [if_pos h2]; decide
        · rw [if_neg h2, if_pos (by omega)]; decide
    rw [e]
    exact ⟨rfl, by unfold wrA; rw [if_neg hn, if_neg hn]⟩

theorem sc_putA {n : Nat} {os : Nat → Ob} {F : Nat → Nat → Prop} {w : World} {i j : Nat} {x : Tx} {b : Nat} {a : Ac} (h : Scene n os F w) (hi : i < n) (hj : j < n) (hij : i ≠ j) (ei : os i = .tx x) (ej : os j = .ac b a) (hq : x.ws.length ≤ 1048576) (pl : Int) (key : ByteArray) (hkl : key.size ≤ maxLen) (Av : Option Addr) (nb cv : Nat) (bs : List UInt8) (hnb : bs.length = nb) (hby : BytesAt w Av bs)
    (hvb : bs ≠ [] → ∀ g off, Av = some ⟨g, off, none⟩ → g ≠ b) :
    Calls Tryz.prog 39 #[.pointer (some ⟨x.t, 0, none⟩), .int .i64 pl, .string key, .slice Av nb cv, .pointer (some ⟨b, 0, none⟩)] w fun e w' => e = .returned (.int .i64 (putC x a pl key nb)) ∧
      Scene n (setAt (setAt os i (.tx (wrX x (putC x a pl key nb) ⟨key.data.toList, bs, false⟩))) j (.ac b (wrA (putC x a pl key nb) a (weightW x.ws key.data.toList : Nat) ((key.size : Int) + nb)))) F w' ∧ Only (fun k => F i k ∨ F j k) w w' := by
  obtain ⟨hx, hxF⟩ := h.tx hi ei
  obtain ⟨hA, hok, haF, hau⟩ := h.ac hj ej
  refine (txPut_any w x.t x.p x.m x.place _ x.snap x.ws x.ended _ hx (by omega) b a hA hok ⟨j, hj, hij.symm, (haF b).2 rfl⟩ pl key hkl Av nb cv bs hnb hby hvb (wrap64 ((key.size : Int) + nb)) rfl).mono fun e w' hp => ?_
  have hs := wr_same (ended := x.ended) (n := x.snap.length) (place := x.place) (x := pl) (key := key) (nb := nb) (s := a) (old := (weightW x.ws key.data.toList : Nat)) (a := wrap64 ((key.size : Int) + nb)) (b := (key.size : Int) + nb) (fun h1 h2 => by unfold wrap64; omega)
  obtain ⟨h1, h2, h3, h4⟩ := hp
  rw [hs.2] at h3
  rw [hs.1] at h1 h2
  exact h.wrote hi hj hij ei ej ⟨h1, h2, h3, h4⟩

end Go.Proofs.YtbhihbhjmmeibaaGreat

/-
  Layer 17's law TxnCharge walked.
-/
namespace Go.Proofs.YtbhihbhjmmeibaaGreat
open Go.RowKit Go.Shelf
open Qa (Ac AcIs AcPost)

theorem bytesW_append (a b : List We) : bytesW (a ++ b) = bytesW a + bytesW b := by
  induction a with
  | nil => simp [bytesW]
  | cons x a ih => simp only [List.cons_append, bytesW, ih]; omega
theorem bytesW_take {ws : List We} {i : Nat} {x : We} (h : ws[i]? = some x) : bytesW (ws.take (i + 1)) = bytesW (ws.take i) + (x.key.length + x.bs.length) := by
  rw [List.take_add_one, h, bytesW_append]
  simp [bytesW]
theorem bytesW_take_le (ws : List We) (i : Nat) : bytesW (ws.take i) ≤ bytesW ws := by
  conv => rhs; rw [← List.take_append_drop i ws, bytesW_append]
  omega
theorem len_le_bytes : ∀ {ws : List We}, (∀ e ∈ ws, 1 ≤ e.key.length) → ws.length ≤ bytesW ws
  | [], _ => by simp [bytesW]
  | x :: ws, h => by
    have h1 := h x (List.mem_cons_self)
    have h2 := len_le_bytes (ws := ws) (fun e he => h e (List.mem_cons_of_mem _ he))
    simp only [List.length_cons, bytesW]
    omega

/-- what a transaction and its account keep -/
structure ChOk (q : Int) (x : Tx) (a : Ac) : Prop where
  pend : a.pending = (bytesW x.ws : Nat)
  opn : a.opened = 1
  most : a.most = q
  ended : x.ended = false
theorem ChOk.wrote {q : Int} {x : Tx} {a : Ac} (h : ChOk q x a) (hr : x.ws.Pairwise fun a b => a.key < b.key) (c : Int) (e : We) (now : Int) (hc : c = 0 → (a.doCharge (weightW x.ws e.key : Nat) now).2 = 0 ∧ now = ((e.key.length + e.bs.length : Nat) : Int)) :
    ChOk q (wrX x c e) (wrA c a (weightW x.ws e.key : Nat) now) := by
  unfold wrX wrA wrW
  by_cases h0 : c = 0
  · obtain ⟨h1, h2⟩ := hc h0
    subst h2
    have hb := bytes_lay e hr
    unfold Ac.doCharge at h1 ⊢
    split at h1
    · cases h1
    · split at h1
      · cases h1
      · split at h1
        · cases h1
        · rename_i g1 g2 g3
          rw [if_pos h0, if_pos h0, if_neg g1, if_neg g2, if_neg g3]
          refine ⟨?_, h.opn, h.most, h.ended⟩
          show a.pending + _ = _
          rw [h.pend]
          show _ = ((bytesW (layW x.ws e) : Nat) : Int)
          omega
  · rw [if_neg h0, if_neg h0]
    exact ⟨h.pend, h.opn, h.most, h.ended⟩
theorem wrC_zero {ended : Bool} {n place : Nat} {x : Int} {key : ByteArray} {nb : Nat} {s : Ac} {old now : Int} (h : wrC ended n place x key nb s old now = 0) : (s.doCharge old now).2 = 0 := by
  unfold wrC at h
  split at h
  · rename_i h1; exact absurd h h1
  · split at h
    · cases h
    · split at h
      · cases h
      · split at h
        · cases h
        · exact h

theorem wr_sum2 (a b : Nat) (h : a + b ≤ 1048576) : wrap64 ((a : Int) + b) = (a : Int) + b := by unfold wrap64; omega
theorem wr_sum3 (n a b : Nat) (h : n + (a + b) ≤ 1048576) : wrap64 ((n : Int) + ((a : Int) + b)) = (n : Int) + ((a : Int) + b) := by unfold wrap64; omega
theorem key_len (k : ByteArray) : k.data.toList.length = k.size := Array.length_toList

/-- an account and a transaction -/
def osAT (b : Nat) (a : Ac) (x : Tx) : Nat → Ob
  | 0 => .ac b a
  | _ => .tx x
theorem osAT_set (x x' : Tx) (b : Nat) (a a' : Ac) : ∀ i, i < 2 → setAt (setAt (osAT b a x) 1 (.tx x')) 0 (.ac b a') i = osAT b a' x' i
  | 0, _ => rfl
  | 1, _ => rfl
  | n + 2, h => absurd h (by omega)
def chTx (t p m : Nat) (ws : List We) (ended : Bool) : Tx := ⟨t, p, m, 0, [0], ws, ended⟩
def ChRel (w : World) (q : Int) (n t p m b : Nat) (v : Value) (wr : World) : Prop := ∃ (i : Nat) (F : Nat → Nat → Prop) (ws : List We) (a : Ac), v = .int .i64 i ∧ i ≤ n ∧ LawSt w 2 (osAT b a (chTx t p m ws false)) F wr ∧ ChOk q (chTx t p m ws false) a
theorem ints_one (w : World) (x : Int) : IntsAt (w.alloc (.cells #[.int .i64 x] 3)) (some ⟨w.heap.size, 0, none⟩) [x] := fun i c hc => by
  have hb := Blk.new w 3 #[.int .i64 x]
  match i, hc with
  | 0, hc => simp at hc; subst hc; exact ⟨_, 0, rfl, by simp, hb.cellv 0 rfl⟩
  | i + 1, hc => simp at hc
/-- what stands is few -/
theorem LawSt.few {w u : World} {F : Nat → Nat → Prop} {x : Tx} {b : Nat} {a : Ac} {q : Int} (h : LawSt w 2 (osAT b a x) F u) (ok : ChOk q x a) : x.ws.length ≤ 1048576 ∧ bytesW x.ws ≤ 1048576 ∧ a.live + a.pending ≤ q ∧ a.Ok ∧ x.ws.Pairwise (fun a b => a.key < b.key) := by
  obtain ⟨hx, _⟩ := h.sc.tx (i := 1) (by decide) rfl
  obtain ⟨_, hok, _⟩ := h.sc.ac (i := 0) (by decide) rfl
  have h1 := len_le_bytes (fun e he => (hx.set.good e he).1)
  have h2 := ok.pend
  have h3 := hok.u1
  have h4 := hok.m1
  have h5 := hok.l0
  have h6 := ok.most
  exact ⟨by omega, by omega, by omega, hok, hx.set.rise⟩
abbrev stxC (x : Stx) (A : Option Addr) (n c : Nat) : Array Value := #[.int .i64 x.kind, .int .i64 x.place, .int .i64 x.n, .string x.key, .string x.tt, .string x.vk, .int .i64 x.st, .slice A n c, .bool x.dead, .bool x.none]

/-- the bytes of what it wrote, summed -/
def NRel (w8 : World) (ws : List We) (nk : Nat) (vn vi : Value) (wr : World) : Prop := ∃ k, k ≤ nk ∧ vn = .int .i64 (bytesW (ws.take k) : Nat) ∧ vi = .int .i64 k ∧ Only NoneOf w8 wr

end Go.Proofs.YtbhihbhjmmeibaaGreat

/-
  Layer 17 and its reference: New; whole numbers compared; a transaction's place.
-/
namespace Go.Proofs.YtbhihbhjmmeibaaGreat
open Go.RowKit Go.Shelf

theorem info25 : (Tryz.prog.info? 25).map (·.size) = some 5 := by kernel_rfl
/-- the reference's transaction as cells -/
abbrev rtC (there : Bool) (place : Int) (sn : Value) (wr : Value) (ended : Bool) : Array Value := #[.bool there, .int .i64 place, sn, wr, .bool ended]
abbrev rtZ : Array Value := rtC false 0 (.slice none 0 0) (.slice none 0 0) false

set_option maxRecDepth 100000 in
set_option maxHeartbeats 1000000 in
theorem refNew_ok (w : World) (k : Nat) (A : Option Addr) (c : Nat) (snap : List Int) (hA : IntsAt w A snap) (x : Int) (hx : snap[k]? = some x) (h0 : 0 ≤ x) (hfew : snap.length * 8 ≤ 140737488355328) :
    Calls Tryz.prog 9 #[.int .i64 k, .slice A snap.length c] w fun e w' => ∃ v, e = .returned (.tuple #[.agg (rtC true k v (.slice none 0 0) false), .int .i64 0]) ∧ RowI w' w.heap.size v snap ∧ Only NoneOf w w' := by
  have hk : k < snap.length := (List.getElem?_eq_some_iff.1 hx).1
  obtain ⟨i0, hi, hz0, hz1, hz3⟩ := info_parts info3i
  obtain ⟨g, off, rfl, hg, hc⟩ := hA k x hx
  have HA := Lib.hid hA
  obtain ⟨n, hn⟩ : ∃ n, snap.length = n := ⟨_, rfl⟩
  have HN := Lib.hid hn
  rw [hn] at hk hfew ⊢
  have hk1 : ¬ (k : Int) < 0 := by omega
  have hk2 : ¬ (n : Int) ≤ (k : Int) := by omega
  have hx0 : ¬ x < 0 := by omega
  have hb0 := Blk.new w 25 rtZ
  have hO1 : Only NoneOf w ((w.alloc (.cells rtZ 25)).alloc (.cells #[] 3)) := ((Only.refl NoneOf w).alloc _).alloc _
  have hB0 := hb0.alloc (.cells #[] 3)
  have hown := own_empty (B := w.heap.size + 1) (sz := 1) (Blk.new' (w.alloc (.cells rtZ 25)) 3 #[] (n := w.heap.size + 1) (by simp)) (by simp)
  have HOWN := Lib.hid hown
  have HB0 := Lib.hid hB0
  have HO1 := Lib.hid hO1
  have HAK := Lib.hid (hA.keep hO1)
  clear hA hx hn hown hB0 hO1 hb0
  go_enter Tryz.func9, Tryz.ntmps9
  go_wp2_with (first | (at_builtin; refine wpList_append_any rfl (.tmp 23) (.tmp 24) 22 rfl (w.heap.size + 1) 3 i0 _ 1 8 Tryz.underlying22 hi hz0 hz1 hz3 rfl (by decide) _ 0 [] rfl HOWN.out (some ⟨g, off, none⟩) n c (snap.map intV) rfl (by rw [List.length_map, HN.out, Nat.mul_one]) (fun j u hj => by rw [List.getElem?_map] at hj; obtain ⟨x, hx, rfl⟩ := Option.map_eq_some_iff.1 hj; obtain ⟨g', off', e, _, h1⟩ := HAK.out j x hx; exact ⟨g', off', e, h1⟩) (fun u hu => by obtain ⟨x, _, rfl⟩ := List.mem_map.1 hu; rfl) (by unfold maxLen; omega) (by omega) (by simp) ?_; intro v' w3 hown' ho3 hat; have HOWN2 := Lib.hid hown'; have HO3 := Lib.hid ho3; obtain ⟨Av', cv', rfl⟩ := ownsRow_slice hown'; have HB3 := Lib.hid (HB0.out.only ho3 (fun e => by have := Option.some.inj (show some (w.heap.size + 1) = some w.heap.size from e); omega)); clear hown' ho3 hat) | (refine wpList_store_row rfl 25 (.tmp 4) (.tmp 26) rfl w.heap.size (rtC true (k : Int) (.slice Av' n cv') (.slice none 0 0) false) rfl rfl 25 rtZ HB3.out info25 rfl (by simp [Value.oneCell']) ?_) | fail)
  have HR := HB3.out.row (rtC true (k : Int) (.slice Av' n cv') (.slice none 0 0) false)
  have hO3 : Only NoneOf w w3 := HO1.out.step HO3.out (fun j hj e => by have := Option.some.inj (show some (w.heap.size + 1) = some j from e); omega)
  have hr := HOWN2.out
  rw [Nat.zero_add, List.nil_append] at hr
  have hrow : Only (· = w.heap.size) w3 (w3.setRow w.heap.size (rtC true (k : Int) (.slice Av' n cv') (.slice none 0 0) false)) := (Only.refl (· = w.heap.size) w3).row (.inl rfl) _
  refine bodyPost_ret (v := .tuple #[.agg (rtC true (k : Int) (.slice Av' n cv') (.slice none 0 0) false), .int .i64 0]) (results_row_tmp rfl _ _ w.heap.size 25 _ (0, 0) _ rfl HR Tryz.underlying25 rfl info25 _ rfl) rfl ⟨_, rfl, ?_, hO3.step hrow (fun j hj e => by omega)⟩
  unfold RowI
  rw [HN.out]
  exact ownsRow_base (ownsRow_only hr hrow (fun j hj e => by have := (ownsRow_lt hr hj).1; omega)) (by omega)

theorem refNew_bad (w : World) (x : Int) (A : Option Addr) (n c : Nat) (h : x < 0 ∨ (n : Int) ≤ x ∨ ∃ (k : Nat) (g off : Nat) (y : Int), x = k ∧ k < n ∧ A = some ⟨g, off, none⟩ ∧ w.cell? ⟨g, off + k, none⟩ = some (.int .i64 y) ∧ y < 0) :
    Calls Tryz.prog 9 #[.int .i64 x, .slice A n c] w fun e w' => e = .returned (.tuple #[.agg rtZ, .int .i64 2]) ∧ Only NoneOf w w' := by
  have hb0 := Blk.new w 25 rtZ
  have HB0 := Lib.hid hb0
  have HO := Lib.hid ((Only.refl NoneOf w).alloc (.cells rtZ 25))
  clear hb0
  have HR := Lib.hid (HB0.out.row rtZ)
  have HO2 := Lib.hid (HO.out.row (b := w.heap.size) (.inr (Nat.le_refl _)) rtZ)
  rcases h with h | h | ⟨k, g, off, y, rfl, hk, rfl, hy, h0⟩
  · go_enter Tryz.func9, Tryz.ntmps9
    go_wp2_with (first | (refine wpList_store_row rfl 25 (.tmp 4) (.tmp 21) rfl w.heap.size rtZ rfl rfl 25 rtZ HB0.out info25 rfl (by simp [Value.oneCell']) ?_) | fail)
    exact bodyPost_ret (v := .tuple #[.agg rtZ, .int .i64 2]) (results_row_tmp rfl _ _ w.heap.size 25 _ (0, 0) _ rfl HR.out Tryz.underlying25 rfl info25 _ rfl) rfl ⟨rfl, HO2.out⟩
  · by_cases hx0 : x < 0
    · go_enter Tryz.func9, Tryz.ntmps9
      go_wp2_with (first | (refine wpList_store_row rfl 25 (.tmp 4) (.tmp 21) rfl w.heap.size rtZ rfl rfl 25 rtZ HB0.out info25 rfl (by simp [Value.oneCell']) ?_) | fail)
      exact bodyPost_ret (v := .tuple #[.agg rtZ, .int .i64 2]) (results_row_tmp rfl _ _ w.heap.size 25 _ (0, 0) _ rfl HR.out Tryz.underlying25 rfl info25 _ rfl) rfl ⟨rfl, HO2.out⟩
    · go_enter Tryz.func9, Tryz.ntmps9
      go_wp2_with (first | (refine wpList_store_row rfl 25 (.tmp 4) (.tmp 21) rfl w.heap.size rtZ rfl rfl 25 rtZ HB0.out info25 rfl (by simp [Value.oneCell']) ?_) | fail)
      exact bodyPost_ret (v := .tuple #[.agg rtZ, .int .i64 2]) (results_row_tmp rfl _ _ w.heap.size 25 _ (0, 0) _ rfl HR.out Tryz.underlying25 rfl info25 _ rfl) rfl ⟨rfl, HO2.out⟩
  · have hk1 : ¬ (k : Int) < 0 := by omega
    have hk2 : ¬ (n : Int) ≤ (k : Int) := by omega
    have hyw := (HO.out.cell (p := ⟨g, off + k, none⟩) (World.block_lt_of_cell? _ _ hy) (fun h => h)).trans hy
    go_enter Tryz.func9, Tryz.ntmps9
    go_wp2_with (first | (refine wpList_store_row rfl 25 (.tmp 4) (.tmp 21) rfl w.heap.size rtZ rfl rfl 25 rtZ HB0.out info25 rfl (by simp [Value.oneCell']) ?_) | fail)
    exact bodyPost_ret (v := .tuple #[.agg rtZ, .int .i64 2]) (results_row_tmp rfl _ _ w.heap.size 25 _ (0, 0) _ rfl HR.out Tryz.underlying25 rfl info25 _ rfl) rfl ⟨rfl, HO2.out⟩

set_option maxRecDepth 100000 in
set_option maxHeartbeats 1000000 in
theorem equalI_is (w : World) (A1 A2 : Option Addr) (n1 n2 c1 c2 : Nat) (xs ys : List Int) (hn1 : xs.length = n1) (hn2 : ys.length = n2) (h1 : IntsAt w A1 xs) (h2 : IntsAt w A2 ys) (hl : n1 ≤ 4611686018427387904) :
    Calls Tryz.prog 13 #[.slice A1 n1 c1, .slice A2 n2 c2] w (Told (.bool (decide (xs = ys))) w) := by
  by_cases hne : n1 = n2
  · subst hne
    have H1 := Lib.hid h1
    have H2 := Lib.hid h2
    have HN1 := Lib.hid hn1
    have HN2 := Lib.hid hn2
    clear h1 h2 hn1 hn2
    have hq : ((n1 : Int) == (n1 : Int)) = true := by simp
    go_enter Tryz.func13, Tryz.ntmps13
    go_wp2_with fail
    go_loopw [13] (fun v wr => ∃ i m : Nat, v = .int .i64 i ∧ i ≤ n1 ∧ wr = w.drewN m ∧ ∀ j, j < i → xs[j]? = ys[j]?) (fun v _ => n1 - (intOf v).toNat)
    case atStart => exact ⟨0, 0, rfl, by omega, rfl, fun j hj => by omega⟩
    case round =>
      obtain ⟨i, m, rfl, hi, rfl, heq⟩ := hrel
      by_cases hlt : i < n1
      · have hx : xs[i]? = some (xs[i]'(by rw [HN1.out]; exact hlt)) := List.getElem?_eq_getElem _
        have hy : ys[i]? = some (ys[i]'(by rw [HN2.out]; exact hlt)) := List.getElem?_eq_getElem _
        generalize xs[i]'(by rw [HN1.out]; exact hlt) = x at hx
        generalize ys[i]'(by rw [HN2.out]; exact hlt) = y at hy
        obtain ⟨g1, o1, rfl, hg1, k1⟩ := H1.out i x hx
        obtain ⟨g2, o2, rfl, hg2, k2⟩ := H2.out i y hy
        have HEQ := Lib.hid heq
        clear heq
        go_wp2_with fail
        go_quiet (fail)
        cases hbb : (x != y)
        · have e : x = y := by simpa using hbb
          go_wp2_with fail
          refine ⟨⟨i + 1, _, by rw [show ((i + 1 : Nat) : Int) = (i : Int) + 1 by omega], by omega, rfl, fun j hj => ?_⟩, by simp [intOf]; omega⟩
          rcases Nat.lt_or_ge j i with h | h
          · exact HEQ.out j h
          · obtain rfl : j = i := by omega
            rw [hx, hy, e]
        · have e : x ≠ y := fun e => by subst e; simp at hbb
          have HD := Lib.hid (show decide (xs = ys) = false from decide_eq_false (take_ne hx hy e))
          go_wp2_with fail
          go_ret
          rw [HD.out]
          exact ⟨rfl, _, World.drewN_drewN _ _ _⟩
      · obtain rfl : i = n1 := by omega
        have HALL := Lib.hid (take_all (by rw [HN1.out, HN2.out]) (fun j hj => heq j (by rw [← HN1.out]; exact hj)))
        go_wp2_with fail
        go_ret
        exact ⟨by rw [decide_eq_true HALL.out]; rfl, m, rfl⟩
  · have hq : ((n1 : Int) == (n2 : Int)) = false := beq_eq_false_iff_ne.2 (by omega)
    have hq2 : ¬ (n1 : Int) = (n2 : Int) := by omega
    have hd : decide (xs = ys) = false := decide_eq_false fun e => hne (by rw [← hn1, ← hn2, e])
    rw [hd]
    clear h1 h2
    go_enter Tryz.func13, Tryz.ntmps13
    go_wp2_with fail
    go_ret
    exact ⟨rfl, 0, rfl⟩

theorem place_is (w : World) (t p m place N : Nat) (snap : List Int) (ws : List We) (ended : Bool) (U : Nat → Prop) (h : TxR w t p m U place snap ws ended N) : Calls Tryz.prog 12 #[.pointer (some ⟨t, 0, none⟩)] w fun e w' => e = .returned (.int .i64 place) ∧ w = w' := by
  obtain ⟨A, c, h1, _⟩ := h.blk
  have c0 := h1.cellv 0 rfl
  clear h h1
  go_enter Tryz.func12, Tryz.ntmps12
  go_wp2_with fail
  go_ret
  exact ⟨rfl, rfl⟩
theorem place_nil (w : World) : Calls Tryz.prog 12 #[.pointer none] w fun e w' => e = .returned (.int .i64 0) ∧ w = w' := by
  go_enter Tryz.func12, Tryz.ntmps12
  go_wp2_with fail
  go_ret
  exact ⟨rfl, rfl⟩

end Go.Proofs.YtbhihbhjmmeibaaGreat

/-
  Layer 17's law TxnNew walked.
-/
namespace Go.Proofs.YtbhihbhjmmeibaaGreat
open Go.RowKit Go.Shelf

/-- what region 7 has made -/
def NewT (t k b5 n : Nat) (snap : List Int) (As : Option Addr) (cs : Nat) : Nat → Value → World → Prop
  | 0, x, _ => x = .pointer (some ⟨t, 0, none⟩)
  | 1, x, _ => x = .int .i64 (k : Int)
  | 2, x, _ => x = .pointer (some ⟨b5, 1, none⟩)
  | 3, x, _ => x = .int .i64 (k : Int)
  | 4, x, _ => x = .bool true
  | 5, x, _ => x = .bool true
  | 6, x, _ => x = .pointer (some ⟨t, 0, none⟩)
  | 7, x, u => ∃ A c, x = .slice A n c ∧ IntsAt u A snap
  | 8, x, _ => x = .pointer (some ⟨b5, 2, none⟩)
  | 9, x, _ => x = .slice As n cs
  | 10, x, _ => x = .bool true
  | 11, x, _ => x = .bool true
  | 12, x, _ => x = .bool true
  | 13, x, _ => x = .pointer (some ⟨t, 0, none⟩)
  | 14, x, _ => x = .bool false
  | 15, x, _ => x = .bool true
  | 16, x, _ => x = .bool true
  | 17, x, _ => x = .bool true
  | 18, x, _ => x = .pointer (some ⟨t, 0, none⟩)
  | 19, x, _ => ∃ A c, x = .slice A 0 c
  | 20, x, _ => x = .int .i64 0
  | 21, x, _ => x = .bool true
  | 22, x, _ => x = .bool true
  | _, _, _ => True
theorem NewT_keep (t k b5 n : Nat) (snap : List Int) (As : Option Addr) (cs : Nat) (i : Nat) (x : Value) (w w' : World) (h : NewT t k b5 n snap As cs i x w) (ho : Only NoneOf w w') : NewT t k b5 n snap As cs i x w' :=
  match i, h with
  | 0, h | 1, h | 2, h | 3, h | 4, h | 5, h | 6, h | 8, h | 9, h | 10, h | 11, h | 12, h | 13, h | 14, h | 15, h | 16, h | 17, h | 18, h | 19, h | 20, h | 21, h | 22, h => h
  | 7, ⟨A, c, h1, h2⟩ => ⟨A, c, h1, h2.keep ho⟩
  | _ + 23, _ => trivial

/-- a place and a snapshot that New takes, or not -/
theorem new_cases (w : World) (A : Option Addr) (snap : List Int) (hA : IntsAt w A snap) (x : Int) : (∃ (k : Nat) (y : Int), x = k ∧ snap[k]? = some y ∧ 0 ≤ y) ∨ (x < 0 ∨ (snap.length : Int) ≤ x ∨ ∃ (k : Nat) (g off : Nat) (y : Int), x = k ∧ k < snap.length ∧ A = some ⟨g, off, none⟩ ∧ w.cell? ⟨g, off + k, none⟩ = some (.int .i64 y) ∧ y < 0) := by
  by_cases h1 : x < 0
  · exact .inr (.inl h1)
  · by_cases h2 : (snap.length : Int) ≤ x
    · exact .inr (.inr (.inl h2))
    · obtain ⟨k, rfl⟩ : ∃ k : Nat, x = k := ⟨x.toNat, by omega⟩
      have hk : k < snap.length := by omega
      by_cases h3 : 0 ≤ snap[k]
      · exact .inl ⟨k, snap[k], rfl, List.getElem?_eq_getElem hk, h3⟩
      · obtain ⟨g, off, hA', _, hc⟩ := hA k _ (List.getElem?_eq_getElem hk)
        exact .inr (.inr (.inr ⟨k, g, off, snap[k], rfl, hk, hA', hc, by omega⟩))

set_option maxRecDepth 100000 in
set_option maxHeartbeats 8000000 in
theorem new_walk (x : Int) (A : Option Addr) (cap : Nat) (snap : List Int) (w : World) (hA : IntsAt w A snap) (hfew : snap.length * 8 ≤ 140737488355328) :
    Calls Tryz.prog 3 #[.int .i64 x, .slice A snap.length cap] w (AnsN (.bool true) w) := by
  have HFX := fun u => Lib.hid (fixedTx_is u)
  rcases new_cases w A snap hA x with ⟨kp, y, rfl, hy, hy0⟩ | hbad
  · have HR := Lib.hid (refNew_ok w kp A cap snap hA y hy hy0 hfew)
    have HT := fun (u : World) (hu : Only NoneOf w u) => Lib.hid (txNew_ok u (fun _ => False) (fun _ h => h.elim) kp A cap snap (hA.keep hu) y hy hy0 hfew)
    obtain ⟨n, hn⟩ : ∃ n, snap.length = n := ⟨_, rfl⟩
    have HN := Lib.hid hn
    rw [hn] at hfew HR ⊢
    simp only [hn] at HT
    clear hA hy hn
    go_enter Tryz.func3, Tryz.ntmps3
    go_wp2_with fail
    refine HR.out.mono ?_
    rintro e w1 ⟨v, rfl, hr, ho1⟩
    obtain ⟨As, cs, rfl, hi, hpl⟩ := hr.at
    have hb5 := Blk.new w1 25 rtZ
    obtain ⟨b5, eb5⟩ : ∃ b, w1.heap.size = b := ⟨_, rfl⟩
    rw [eb5] at hb5
    have HB5 := Lib.hid hb5
    have HI := Lib.hid hi
    have HO1 := Lib.hid ho1
    rw [HN.out]
    clear hr hi hpl ho1 hb5
    go_wp2_with (first | (refine wpList_store_row rfl 25 (.tmp 5) (.tmp 13) rfl b5 (rtC true (kp : Int) (.slice As n cs) (.slice none 0 0) false) rfl rfl 25 rtZ HB5.out info25 rfl (by simp [Value.oneCell']) ?_) | fail)
    have hb5' := HB5.out.row (rtC true (kp : Int) (.slice As n cs) (.slice none 0 0) false)
    have hO2 : Only NoneOf w1 ((w1.alloc (.cells rtZ 25)).setRow b5 (rtC true (kp : Int) (.slice As n cs) (.slice none 0 0) false)) := ((Only.refl NoneOf w1).alloc _).row (.inr (by omega)) _
    obtain ⟨w2, hw2⟩ : ∃ w2, (w1.alloc (.cells rtZ 25)).setRow b5 (rtC true (kp : Int) (.slice As n cs) (.slice none 0 0) false) = w2 := ⟨_, rfl⟩
    rw [hw2] at hb5' hO2 ⊢
    have HB := Lib.hid hb5'
    have HO2 := Lib.hid (HO1.out.trans hO2)
    have HI2 := Lib.hid (HI.out.keep hO2)
    clear hb5' hO2 hw2
    refine (HT w2 HO2.out).out.mono ?_
    rintro e w3 ⟨t, p, m, rfl, ht, ho3, ht1, ht2, ht3⟩
    have HTX := Lib.hid ht
    have HO3 := Lib.hid ho3
    have HO4 := Lib.hid (HO2.out.trans ho3)
    clear ht ho3 ht1 ht2 ht3 HT HR
    go_wp2_with fail
    refine (HFX _).out.mono ?_; rintro e w4 ⟨rfl, ho4⟩
    have HTX4 := Lib.hid (HTX.out.keep ho4)
    have HB4 := Lib.hid (HB.out.only (HO3.out.trans ho4) (fun h => h))
    have HI4 := Lib.hid (HI2.out.keep (HO3.out.trans ho4))
    have HO5 := Lib.hid (HO4.out.trans ho4)
    clear ho4
    go_upto_region 7 with (fail)
    refine wp_region_head2 23 60 [5, 12, 17] (fun g => match g with | 5 => some true | 12 => some true | 17 => some true | _ => none) (fun _ => none) NoneOf (fun _ => Only NoneOf w4) (NewT t kp b5 n snap As cs) rfl (by kernel_rfl) (by kernel_rfl) ?hskip ?hgv (NewT_keep _ _ _ _ _ _ _) ((Only.refl _ _).drew) ?hstep ?hend
    case hskip =>
      intro i o hi ho hw k
      have : i = 0 ∨ i = 1 ∨ i = 2 ∨ i = 3 ∨ i = 4 ∨ i = 5 ∨ i = 6 ∨ i = 7 ∨ i = 8 ∨ i = 9 ∨ i = 10 ∨ i = 11 ∨ i = 12 ∨ i = 13 ∨ i = 14 ∨ i = 15 ∨ i = 16 ∨ i = 17 ∨ i = 18 ∨ i = 19 ∨ i = 20 ∨ i = 21 ∨ i = 22 := by omega
      rcases this with rfl | rfl | rfl | rfl | rfl | rfl | rfl | rfl | rfl | rfl | rfl | rfl | rfl | rfl | rfl | rfl | rfl | rfl | rfl | rfl | rfl | rfl | rfl
      · rfl
      · rfl
      · rfl
      · rfl
      · rfl
      · rfl
      · rfl
      · rfl
      · rfl
      · rfl
      · rfl
      · rfl
      · rfl
      · rfl
      · rfl
      · rfl
      · rfl
      · rfl
      · rfl
      · rfl
      · rfl
      · rfl
      · rfl
    case hgv =>
      intro g hg v w h
      have : g = 5 ∨ g = 12 ∨ g = 17 := by simpa using hg
      rcases this with rfl | rfl | rfl
      · obtain rfl : v = .bool true := h; rfl
      · obtain rfl : v = .bool true := h; rfl
      · obtain rfl : v = .bool true := h; rfl
    case hstep =>
      intro i o hi ho a u k hk hik hs ht
      have e7 : a.tmps.getD 7 undef = .pointer (some ⟨t, 0, none⟩) := hs 7 (of_decide_eq_true (by kernel_rfl))
      have e5 : a.tmps.getD 5 undef = .pointer (some ⟨b5, 0, none⟩) := hs 5 (of_decide_eq_true (by kernel_rfl))
      have FB := HB4.out.only hk (fun h => h)
      have d1 := FB.cellv 1 rfl
      have d2 := FB.cellv 2 rfl
      have : i = 0 ∨ i = 1 ∨ i = 2 ∨ i = 3 ∨ i = 4 ∨ i = 5 ∨ i = 6 ∨ i = 7 ∨ i = 8 ∨ i = 9 ∨ i = 10 ∨ i = 11 ∨ i = 12 ∨ i = 13 ∨ i = 14 ∨ i = 15 ∨ i = 16 ∨ i = 17 ∨ i = 18 ∨ i = 19 ∨ i = 20 ∨ i = 21 ∨ i = 22 := by omega
      rcases this with rfl | rfl | rfl | rfl | rfl | rfl | rfl | rfl | rfl | rfl | rfl | rfl | rfl | rfl | rfl | rfl | rfl | rfl | rfl | rfl | rfl | rfl | rfl
      · obtain rfl := Option.some.inj (ho : some _ = some o)
        rw [if_pos (by decide)]
        exact left2_value (.pointer (some ⟨t, 0, none⟩)) (by simp [go_sem, e7]) rfl rfl hk
      · obtain rfl := Option.some.inj (ho : some _ = some o)
        rw [if_pos (by decide)]
        have s0 : a.tmps.getD 37 undef = .pointer (some ⟨t, 0, none⟩) := ht 0 (by omega) (by kernel_rfl)
        refine left2_calls 12 #[.pointer (some ⟨t, 0, none⟩)] (by simp [go_sem, s0]) ((place_is u t p m kp 0 snap [] false _ (HTX4.out.keep hk)).mono ?_) rfl (fun w' hw' => hk.trans hw')
        rintro e u' ⟨rfl, rfl⟩
        exact ⟨_, rfl, rfl, Only.refl _ _⟩
      · obtain rfl := Option.some.inj (ho : some _ = some o)
        rw [if_pos (by decide)]
        exact left2_value (.pointer (some ⟨b5, 1, none⟩)) (by simp [go_sem, e5]) rfl rfl hk
      · obtain rfl := Option.some.inj (ho : some _ = some o)
        rw [if_pos (by decide)]
        have s2 : a.tmps.getD 39 undef = .pointer (some ⟨b5, 1, none⟩) := ht 2 (by omega) (by kernel_rfl)
        exact left2_value (.int .i64 (kp : Int)) (by simp [go_sem, s2, d1]) rfl rfl hk
      · obtain rfl := Option.some.inj (ho : some _ = some o)
        rw [if_pos (by decide)]
        have s1 : a.tmps.getD 38 undef = .int .i64 (kp : Int) := ht 1 (by omega) (by kernel_rfl)
        have s3 : a.tmps.getD 40 undef = .int .i64 (kp : Int) := ht 3 (by omega) (by kernel_rfl)
        exact left2_value (.bool true) (by simp [go_sem, s1, s3]) rfl rfl hk
      · obtain rfl := Option.some.inj (ho : some _ = some o)
        rw [if_pos (by decide)]
        have s1 : a.tmps.getD 38 undef = .int .i64 (kp : Int) := ht 1 (by omega) (by kernel_rfl)
        have s4 : a.tmps.getD 41 undef = .bool true := ht 4 (by omega) (by kernel_rfl)
        exact left2_value (.bool true) (by simp [go_sem, s4]) rfl rfl hk
      · obtain rfl := Option.some.inj (ho : some _ = some o)
        rw [if_pos (by decide)]
        exact left2_value (.pointer (some ⟨t, 0, none⟩)) (by simp [go_sem, e7]) rfl rfl hk
      · obtain rfl := Option.some.inj (ho : some _ = some o)
        rw [if_pos (by decide)]
        have s5 : a.tmps.getD 42 undef = .bool true := ht 5 (by omega) (by kernel_rfl)
        have s6 : a.tmps.getD 43 undef = .pointer (some ⟨t, 0, none⟩) := ht 6 (by omega) (by kernel_rfl)
        have s6 : a.tmps.getD 43 undef = .pointer (some ⟨t, 0, none⟩) := ht 6 (by omega) (by kernel_rfl)
        refine left2_calls 14 #[.pointer (some ⟨t, 0, none⟩)] (by simp [go_sem, s6]) ((snapshot_is u t p m kp 0 snap [] false _ (HTX4.out.keep hk)).mono ?_) rfl (fun w' hw' => hk.trans hw')
        rintro e u' ⟨v, rfl, hr, ho⟩
        obtain ⟨A7, c7, rfl, h7, _⟩ := hr.at
        exact ⟨_, rfl, ⟨A7, c7, by rw [HN.out], h7⟩, ho⟩
      · obtain rfl := Option.some.inj (ho : some _ = some o)
        rw [if_pos (by decide)]
        exact left2_value (.pointer (some ⟨b5, 2, none⟩)) (by simp [go_sem, e5]) rfl rfl hk
      · obtain rfl := Option.some.inj (ho : some _ = some o)
        rw [if_pos (by decide)]
        have s8 : a.tmps.getD 45 undef = .pointer (some ⟨b5, 2, none⟩) := ht 8 (by omega) (by kernel_rfl)
        exact left2_value (.slice As n cs) (by simp [go_sem, s8, d2]) rfl rfl hk
      · obtain rfl := Option.some.inj (ho : some _ = some o)
        rw [if_pos (by decide)]
        have s9 : a.tmps.getD 46 undef = .slice As n cs := ht 9 (by omega) (by kernel_rfl)
        obtain ⟨A7, c7, s7, h7⟩ : ∃ A c, a.tmps.getD 44 undef = .slice A n c ∧ IntsAt u A snap := ht 7 (by omega) (by kernel_rfl)
        refine left2_calls 13 #[.slice A7 n c7, .slice As n cs] (by simp [go_sem, s7, s9]) ((equalI_is u A7 As n n c7 cs snap snap HN.out HN.out h7 (HI4.out.keep hk) (by omega)).mono ?_) rfl (fun w' hw' => hk.trans hw')
        rintro e u' ⟨rfl, mm, rfl⟩
        exact ⟨_, rfl, by rw [decide_eq_true rfl]; rfl, (Only.refl _ _).drewN mm⟩
      · obtain rfl := Option.some.inj (ho : some _ = some o)
        rw [if_pos (by decide)]
        have s5 : a.tmps.getD 42 undef = .bool true := ht 5 (by omega) (by kernel_rfl)
        have s10 : a.tmps.getD 47 undef = .bool true := ht 10 (by omega) (by kernel_rfl)
        exact left2_value (.bool true) (by simp [go_sem, s5, s10]) rfl rfl hk
      · obtain rfl := Option.some.inj (ho : some _ = some o)
        rw [if_pos (by decide)]
        have s10 : a.tmps.getD 47 undef = .bool true := ht 10 (by omega) (by kernel_rfl)
        have s11 : a.tmps.getD 48 undef = .bool true := ht 11 (by omega) (by kernel_rfl)
        exact left2_value (.bool true) (by simp [go_sem, s11]) rfl rfl hk
      · obtain rfl := Option.some.inj (ho : some _ = some o)
        rw [if_pos (by decide)]
        exact left2_value (.pointer (some ⟨t, 0, none⟩)) (by simp [go_sem, e7]) rfl rfl hk
      · obtain rfl := Option.some.inj (ho : some _ = some o)
        rw [if_pos (by decide)]
        have s12 : a.tmps.getD 49 undef = .bool true := ht 12 (by omega) (by kernel_rfl)
        have s13 : a.tmps.getD 50 undef = .pointer (some ⟨t, 0, none⟩) := ht 13 (by omega) (by kernel_rfl)
        refine left2_calls 15 #[.pointer (some ⟨t, 0, none⟩)] (by simp [go_sem, s13]) ((ended_is u t p m kp 0 snap [] false _ (HTX4.out.keep hk)).mono ?_) rfl (fun w' hw' => hk.trans hw')
        rintro e u' ⟨rfl, rfl⟩
        exact ⟨_, rfl, rfl, Only.refl _ _⟩
      · obtain rfl := Option.some.inj (ho : some _ = some o)
        rw [if_pos (by decide)]
        have s14 : a.tmps.getD 51 undef = .bool false := ht 14 (by omega) (by kernel_rfl)
        exact left2_value (.bool true) (by simp [go_sem, s14]) rfl rfl hk
      · obtain rfl := Option.some.inj (ho : some _ = some o)
        rw [if_pos (by decide)]
        have s12 : a.tmps.getD 49 undef = .bool true := ht 12 (by omega) (by kernel_rfl)
        have s15 : a.tmps.getD 52 undef = .bool true := ht 15 (by omega) (by kernel_rfl)
        exact left2_value (.bool true) (by simp [go_sem, s12, s15]) rfl rfl hk
      · obtain rfl := Option.some.inj (ho : some _ = some o)
        rw [if_pos (by decide)]
        have s14 : a.tmps.getD 51 undef = .bool false := ht 14 (by omega) (by kernel_rfl)
        have s16 : a.tmps.getD 53 undef = .bool true := ht 16 (by omega) (by kernel_rfl)
        exact left2_value (.bool true) (by simp [go_sem, s16]) rfl rfl hk
      · obtain rfl := Option.some.inj (ho : some _ = some o)
        rw [if_pos (by decide)]
        exact left2_value (.pointer (some ⟨t, 0, none⟩)) (by simp [go_sem, e7]) rfl rfl hk
      · obtain rfl := Option.some.inj (ho : some _ = some o)
        rw [if_pos (by decide)]
        have s17 : a.tmps.getD 54 undef = .bool true := ht 17 (by omega) (by kernel_rfl)
        have s18 : a.tmps.getD 55 undef = .pointer (some ⟨t, 0, none⟩) := ht 18 (by omega) (by kernel_rfl)
        have s18 : a.tmps.getD 55 undef = .pointer (some ⟨t, 0, none⟩) := ht 18 (by omega) (by kernel_rfl)
        refine left2_calls 16 #[.pointer (some ⟨t, 0, none⟩)] (by simp [go_sem, s18]) ((txWrites_is u t p m kp 0 snap [] false _ (HTX4.out.keep hk) (by decide)).mono ?_) rfl (fun w' hw' => hk.trans hw')
        rintro e u' ⟨v, rs, rfl, hr, hpl, ho⟩
        obtain rfl : rs = [] := List.map_eq_nil_iff.1 hpl
        obtain ⟨A9, c9, rfl⟩ := ownsRow_slice hr.own
        exact ⟨_, rfl, ⟨A9, c9, rfl⟩, ho⟩
      · obtain rfl := Option.some.inj (ho : some _ = some o)
        rw [if_pos (by decide)]
        obtain ⟨A9, c9, s19⟩ : ∃ A c, a.tmps.getD 56 undef = .slice A 0 c := ht 19 (by omega) (by kernel_rfl)
        exact left2_value (.int .i64 0) (by simp [go_sem, s19]) rfl rfl hk
      · obtain rfl := Option.some.inj (ho : some _ = some o)
        rw [if_pos (by decide)]
        have s20 : a.tmps.getD 57 undef = .int .i64 0 := ht 20 (by omega) (by kernel_rfl)
        exact left2_value (.bool true) (by simp [go_sem, s20]) rfl rfl hk
      · obtain rfl := Option.some.inj (ho : some _ = some o)
        rw [if_pos (by decide)]
        have s17 : a.tmps.getD 54 undef = .bool true := ht 17 (by omega) (by kernel_rfl)
        have s21 : a.tmps.getD 58 undef = .bool true := ht 21 (by omega) (by kernel_rfl)
        exact left2_value (.bool true) (by simp [go_sem, s17, s21]) rfl rfl hk
    case hend =>
      intro V' u k hk hkt hV'
      have v0 : V' 0 = .pointer (some ⟨t, 0, none⟩) := hV' 0 (by omega)
      have v1 : V' 1 = .int .i64 (kp : Int) := hV' 1 (by omega)
      have v2 : V' 2 = .pointer (some ⟨b5, 1, none⟩) := hV' 2 (by omega)
      have v3 : V' 3 = .int .i64 (kp : Int) := hV' 3 (by omega)
      have v4 : V' 4 = .bool true := hV' 4 (by omega)
      have v5 : V' 5 = .bool true := hV' 5 (by omega)
      have v6 : V' 6 = .pointer (some ⟨t, 0, none⟩) := hV' 6 (by omega)
      obtain ⟨A7, c7, v7, _⟩ : ∃ A c, V' 7 = .slice A n c ∧ IntsAt u A snap := hV' 7 (by omega)
      have v8 : V' 8 = .pointer (some ⟨b5, 2, none⟩) := hV' 8 (by omega)
      have v9 : V' 9 = .slice As n cs := hV' 9 (by omega)
      have v10 : V' 10 = .bool true := hV' 10 (by omega)
      have v11 : V' 11 = .bool true := hV' 11 (by omega)
      have v12 : V' 12 = .bool true := hV' 12 (by omega)
      have v13 : V' 13 = .pointer (some ⟨t, 0, none⟩) := hV' 13 (by omega)
      have v14 : V' 14 = .bool false := hV' 14 (by omega)
      have v15 : V' 15 = .bool true := hV' 15 (by omega)
      have v16 : V' 16 = .bool true := hV' 16 (by omega)
      have v17 : V' 17 = .bool true := hV' 17 (by omega)
      have v18 : V' 18 = .pointer (some ⟨t, 0, none⟩) := hV' 18 (by omega)
      obtain ⟨A9, c9, v19⟩ : ∃ A c, V' 19 = .slice A 0 c := hV' 19 (by omega)
      have v20 : V' 20 = .int .i64 0 := hV' 20 (by omega)
      have v21 : V' 21 = .bool true := hV' 21 (by omega)
      have v22 : V' 22 = .bool true := hV' 22 (by omega)
      change wpList _ _ _ _ (Act.put (Act.put (Act.put (Act.put (Act.put (Act.put (Act.put (Act.put (Act.put (Act.put (Act.put (Act.put (Act.put (Act.put (Act.put (Act.put (Act.put (Act.put (Act.put (Act.put (Act.put (Act.put (Act.put _ (some 37) (V' 0)) (some 38) (V' 1)) (some 39) (V' 2)) (some 40) (V' 3)) (some 41) (V' 4)) (some 42) (V' 5)) (some 43) (V' 6)) (some 44) (V' 7)) (some 45) (V' 8)) (some 46) (V' 9)) (some 47) (V' 10)) (some 48) (V' 11)) (some 49) (V' 12)) (some 50) (V' 13)) (some 51) (V' 14)) (some 52) (V' 15)) (some 53) (V' 16)) (some 54) (V' 17)) (some 55) (V' 18)) (some 56) (V' 19)) (some 57) (V' 20)) (some 58) (V' 21)) (some 59) (V' 22)) _
      rw [v0, v1, v2, v3, v4, v5, v6, v7, v8, v9, v10, v11, v12, v13, v14, v15, v16, v17, v18, v19, v20, v21, v22]
      simp only [Act.put, List.setIfInBounds_toArray, List.set_cons_zero, List.set_cons_succ]
      simp only [List.drop_succ_cons, List.drop_zero]
      clear hV' v0 v1 v2 v3 v4 v5 v6 v7 v8 v9 v10 v11 v12 v13 v14 v15 v16 v17 v18 v19 v20 v21 v22
      go_wp2_with fail
      go_ret
      exact ⟨rfl, HO5.out.trans hk⟩
  · have HR := Lib.hid (refNew_bad w x A snap.length cap hbad)
    have HT := fun (u : World) (hu : Only NoneOf w u) => Lib.hid (txNew_bad u x A snap.length cap (by
      rcases hbad with h | h | ⟨k, g, off, y, h1, h2, h3, h4, h5⟩
      · exact .inl h
      · exact .inr (.inl h)
      · exact .inr (.inr ⟨k, g, off, y, h1, h2, h3, (hu.cell (p := ⟨g, off + k, none⟩) (World.block_lt_of_cell? _ _ h4) (fun h => h)).trans h4, h5⟩)))
    obtain ⟨n, hn⟩ : ∃ n, snap.length = n := ⟨_, rfl⟩
    rw [hn] at HR ⊢
    simp only [hn] at HT
    clear hA hn hbad
    go_enter Tryz.func3, Tryz.ntmps3
    go_wp2_with fail
    refine HR.out.mono ?_
    rintro e w1 ⟨rfl, ho1⟩
    have hb5 := Blk.new w1 25 rtZ
    obtain ⟨b5, eb5⟩ : ∃ b, w1.heap.size = b := ⟨_, rfl⟩
    rw [eb5] at hb5
    have HB5 := Lib.hid hb5
    have HO1 := Lib.hid ho1
    clear ho1 hb5
    go_wp2_with (first | (refine wpList_store_row rfl 25 (.tmp 5) (.tmp 13) rfl b5 rtZ rfl rfl 25 rtZ HB5.out info25 rfl (by simp [Value.oneCell']) ?_) | fail)
    have hO2 : Only NoneOf w1 ((w1.alloc (.cells rtZ 25)).setRow b5 rtZ) := ((Only.refl NoneOf w1).alloc _).row (.inr (by omega)) _
    obtain ⟨w2, hw2⟩ : ∃ w2, (w1.alloc (.cells rtZ 25)).setRow b5 rtZ = w2 := ⟨_, rfl⟩
    rw [hw2] at hO2 ⊢
    have HO2 := Lib.hid (HO1.out.trans hO2)
    clear hO2 hw2
    refine (HT w2 HO2.out).out.mono ?_
    rintro e w3 ⟨rfl, ho3⟩
    have HO3 := Lib.hid (show Only NoneOf w w3 by rw [← ho3]; exact HO2.out)
    clear ho3 HT HR
    go_wp2_with fail
    refine (HFX _).out.mono ?_; rintro e w4 ⟨rfl, ho4⟩
    have HO4 := Lib.hid (HO3.out.trans ho4)
    clear ho4
    go_wp2_with fail
    go_ret
    exact ⟨rfl, HO4.out⟩

end Go.Proofs.YtbhihbhjmmeibaaGreat

/-
  Layer 17's laws: a slice of whole numbers that comes in, opened.
-/
namespace Go.Proofs.YtbhihbhjmmeibaaGreat
open Go.ChangeShapes Go.WideShapes Go.ChangeAt Go.RowKit Go.Deep

theorem open_ints {H : Type} {enc : TypeId × Value → H} {w : World} {held : Bool} {v : Value} {d : DataW H} {p : List MemPlace} (hv : ∃ a len cap, v = .slice a len cap) (h : DataW.Trod enc Tryz.prog w 0 (fun _ => true) held 22 v d p) :
    ∃ A cap, ∃ xs : List Int, v = .slice A xs.length cap ∧ (A = none ∧ xs.length = 0 ∧ cap = 0 ∨ ∃ D S, d = .slice D S ∧ D.length = xs.length ∧ D.length + S.length = cap) ∧ IntsAt w A xs := by
  obtain ⟨A, n, cap, rfl, hl, _, hdd, hi⟩ := open_elems (sz := 1) Tryz.underlying22 (by kernel_rfl) (by omega) hv h
  have hx : ∀ i, i < n → ∃ x : Int, ∃ g off, A = some ⟨g, off, none⟩ ∧ g < w.heap.size ∧ w.cell? ⟨g, off + i, none⟩ = some (.int .i64 x) := by
    intro i hlt
    obtain ⟨blk, off, cs, m, y, hA, hb, hlen, hc, ht⟩ := hi i hlt
    match cs, hlen with
    | [c], _ =>
      obtain ⟨x, rfl, hw⟩ := field_int Tryz.underlying3 ht
      refine ⟨x, blk, off, hA, hb, ?_⟩
      have h0 := hc 0 _ rfl
      rw [Nat.mul_one, Nat.add_zero] at h0
      exact h0
  obtain ⟨xs, hxs, hp⟩ := list_of n hx
  subst hxs
  exact ⟨A, cap, xs, rfl, hdd, fun i c hc => by obtain ⟨g, off, h1, h2, h3⟩ := hp i c hc; exact ⟨g, off, h1, h2, h3⟩⟩
theorem ints_few {H : Type} {ts : List TypeId} {ds : List (DataW H)} {A : Option Addr} {n cap : Nat} {d : DataW H} (j : Nat) (h : (DataW.weightsEach Tryz.prog ts ds).all (· ≤ reachBytes) = true) (ht : ts[j]? = some 22) (hj : ds[j]? = some d)
    (hd : A = none ∧ n = 0 ∧ cap = 0 ∨ ∃ D S, d = .slice D S ∧ D.length = n ∧ D.length + S.length = cap) : n * 8 ≤ 140737488355328 := by
  rcases hd with ⟨_, h0, _⟩ | ⟨D, S, rfl, hD, _⟩
  · omega
  · have := sized_slice h ht hj Tryz.underlying22
    rw [show Tryz.prog.bytesOf 3 = 8 by kernel_rfl] at this
    unfold reachBytes at this
    omega

end Go.Proofs.YtbhihbhjmmeibaaGreat

