/-
  Texts of this proof, laid together: S32, S33, S34, S35, S36, S37, S38, S39, S40.
-/
import Derived.Test.YtnonnencdhogiaaM4
import Derived.Test.YtnonnencdhogiaaM5
/-
  Layer 14's laws: filled; two stores beside one another.
-/
namespace Go.Proofs.Ytnonnencdhogiaa
open Go.RowKit

/-- what came, of a list of versions -/
def fillR (xs : List KV) : List KV := xs.foldl (fun R x => afterR R x.1 x.2) []
theorem fillR_snoc (xs : List KV) (x : KV) : fillR (xs ++ [x]) = afterR (fillR xs) x.1 x.2 := by simp [fillR, List.foldl_append]
theorem fillR_take {xs : List KV} {i : Nat} {x : KV} (h : xs[i]? = some x) : fillR (xs.take (i + 1)) = afterR (fillR (xs.take i)) x.1 x.2 := by
  rw [List.take_add_one, h]
  exact fillR_snoc _ _

def FillPost (xs : List KV) (U : Nat → Prop) (w : World) (e : Ending) (w' : World) : Prop := ∃ s T, e = .returned (.pointer (some ⟨s, 0, none⟩)) ∧ StoR w' s T U (fillR xs) xs.length ∧ Only NoneOf w w' ∧ ∀ k, T k → w.heap.size ≤ k

set_option maxRecDepth 100000 in
set_option maxHeartbeats 4000000 in
theorem filled_is (w : World) (A : Option Addr) (cap : Nat) (xs : List KV) (U : Nat → Prop) (hA : VersAt w A xs) (hfew : xs.length ≤ 2513169434843) (hU : ∀ k, U k → k < w.heap.size) : Calls Try.prog 18 #[.slice A xs.length cap] w (FillPost xs U w) := by
  have HA := Lib.hid hA
  obtain ⟨n, hn⟩ : ∃ n, xs.length = n := ⟨_, rfl⟩
  have HN := Lib.hid hn
  have HNW := Lib.hid (newR w U hU)
  rw [hn] at hfew ⊢
  clear hA hn
  go_enter Try.func18, Try.ntmps18
  go_wp2_with fail
  refine HNW.out.mono ?_; rintro e w1 ⟨rfl, T1, h1, ho1, ht1⟩
  have H1 := Lib.hid h1
  have HO1 := Lib.hid ho1
  have HT1 := Lib.hid ht1
  clear h1 ho1 ht1
  go_wp2_with fail
  go_loopw [9] (fun v wr => ∃ (i : Nat) (T : Nat → Prop), v = .int .i64 i ∧ i ≤ n ∧ StoR wr (w.heap.size + 1) T U (fillR (xs.take i)) i ∧ Only NoneOf w wr ∧ ∀ k, T k → w.heap.size ≤ k) (fun v _ => n - (intOf v).toNat)
  case atStart => exact ⟨0, T1, rfl, by omega, H1.out, HO1.out, HT1.out⟩
  case round =>
    obtain ⟨i, T, rfl, hi, h, hO, hT⟩ := hrel
    have HO := Lib.hid hO
    have HS := Lib.hid h
    have HT := Lib.hid hT
    clear hO h hT
    by_cases hlt : i < n
    · have hx : xs[i]? = some (xs[i]'(by rw [HN.out]; exact hlt)) := List.getElem?_eq_getElem _
      generalize xs[i]'(by rw [HN.out]; exact hlt) = x at hx
      obtain ⟨g, off, Ab, cb, rfl, hg, d0, d1, d2, d3, hby, hks⟩ := (HA.out.keep HO.out) i x hx
      have HTK := Lib.hid (fillR_take hx)
      obtain ⟨key, st, bs, dead⟩ := x
      simp only at d0 d1 d2 d3 hby hks
      obtain ⟨nn, hnn⟩ : ∃ nn, bs.length = nn := ⟨_, rfl⟩
      rw [hnn] at d2
      have HAP := Lib.hid (applyR _ _ _ _ _ _ (HS.out.keep ((Only.refl NoneOf wr).alloc (.cells (verC key st (.slice Ab nn cb) dead) 27))) (by unfold NMAX; omega) key st Ab nn cb dead bs hnn (hby.keep ((Only.refl _ _).alloc _)))
      have HOA := Lib.hid (HO.out.alloc (.cells (verC key st (.slice Ab nn cb) dead) 27))
      have hwr := HO.out.size
      clear hby hx
      go_wp2_with fail
      refine HAP.out.mono ?_; rintro e w2 ⟨rfl, T2, h2, ho2, ht2⟩
      have H2 := Lib.hid h2
      have HO2 := Lib.hid (HOA.out.step ho2 (fun k hk hh => by have := HT.out k hh; omega))
      have HT2 := Lib.hid (show ∀ k, T2 k → w.heap.size ≤ k from fun k hk => by
        rcases ht2 k hk with h | h
        · exact HT.out k h
        · simp at h; omega)
      clear h2 ho2 ht2
      go_wp2_with fail
      exact ⟨⟨i + 1, T2, by rw [show ((i + 1 : Nat) : Int) = (i : Int) + 1 by omega], by omega, by rw [HTK.out]; exact H2.out, HO2.out, HT2.out⟩, by simp [intOf]; omega⟩
    · obtain rfl : i = n := by omega
      have e1 : xs.take i = xs := by rw [← HN.out, List.take_length]
      have H3 := HS.out
      rw [e1] at H3
      have HS3 := Lib.hid H3
      clear H3 e1
      go_wp2_with fail
      go_ret
      exact ⟨_, T, rfl, by rw [HN.out]; exact HS3.out, HO.out, HT.out⟩

/-- What a call of one store leaves of another. -/
theorem StoR.beside {w w' : World} {s t N M : Nat} {T1 T1' T2 : Nat → Prop} {R1 R2 : List KV} (h2 : StoR w t T2 T1 R2 M) (h1' : StoR w' s T1' T2 R1 N) (ho : Only T1 w w') (hT : ∀ k, T1' k → T1 k ∨ w.heap.size ≤ k) : StoR w' t T2 T1' R2 M :=
  h2.other ho (fun _ h => h) (fun k hk => ⟨h1'.lt hk, hT k hk⟩)

end Go.Proofs.Ytnonnencdhogiaa

/-
  Layer 14's laws: one call of two stores, one behind the other.
-/
namespace Go.Proofs.Ytnonnencdhogiaa
open Go.RowKit

theorem info29 : (Try.prog.info? 29).map (·.size) = some 6 := by kernel_rfl

theorem Only.both {S S' : Nat → Prop} {w w' w'' : World} (h : Only S w w') (k : Only S' w' w'') : Only (fun b => S b ∨ S' b) w w'' := (h.mono (fun _ _ h => Or.inl h)).step k (fun _ _ h => Or.inr h)
theorem TStay.low {lo lo' : Nat} {w : World} {cs : Array Value} {x : An} (h : TStay lo w cs x) (hl : lo' ≤ lo) : TStay lo' w cs x := fun S w' ho hS => h S w' ho (fun k hk => Nat.lt_of_lt_of_le (hS k hk) hl)
theorem TStay.turn {lo : Nat} {w w' : World} {cs : Array Value} {x : An} {S : Nat → Prop} (h : TStay lo w cs x) (ho : Only S w w') (hS : ∀ k, S k → k < lo) : TStay lo w' cs x := fun S' w'' ho' hS' => h (fun b => S b ∨ S' b) w'' (ho.both ho') (fun k hk => hk.elim (hS k) (hS' k))
theorem TStay.keep {lo : Nat} {w w' : World} {cs : Array Value} {x : An} (h : TStay lo w cs x) (ho : Only NoneOf w w') : TStay lo w' cs x := h.turn ho (fun _ h => h.elim)

/-- Two stores, and the call that both are asked. -/
def TwoG (w0 : World) (s t : Nat) (T1 T2 : Nat → Prop) (R1 R2 : List KV) (x : Stp) (N M b : Nat) (row : Array Value) : Nat → World → Prop
  | 0, w => StoR w s T1 T2 R1 N ∧ StoR w t T2 T1 R2 M ∧ Only NoneOf w0 w ∧ Blk w b 29 row
  | 1, w => ∃ T1', StoR w s T1' T2 (stepR R1 x) (N + 1) ∧ StoR w t T2 T1' R2 M ∧ Only NoneOf w0 w ∧ Blk w b 29 row ∧ ∀ k, T1' k → w0.heap.size ≤ k
  | _, w => ∃ T1' T2', StoR w s T1' T2' (stepR R1 x) (N + 1) ∧ StoR w t T2' T1' (stepR R2 x) (M + 1) ∧ Only NoneOf w0 w ∧ Blk w b 29 row ∧ (∀ k, T1' k → w0.heap.size ≤ k) ∧ ∀ k, T2' k → w0.heap.size ≤ k
/-- what a call told -/
def TellV (lo : Nat) (x : An) (v : Value) (w : World) : Prop := ∃ cs, v = .agg cs ∧ TStay lo w cs x

theorem TwoG.drew {w0 : World} {s t : Nat} {T1 T2 : Nat → Prop} {R1 R2 : List KV} {x : Stp} {N M b : Nat} {row : Array Value} {w : World} (h : TwoG w0 s t T1 T2 R1 R2 x N M b row 0 w) : TwoG w0 s t T1 T2 R1 R2 x N M b row 0 { w with drawn := w.drawn + 1 } := by
  have hd : Only NoneOf w { w with drawn := w.drawn + 1 } := (Only.refl _ _).drew
  exact ⟨h.1.keep hd, h.2.1.keep hd, h.2.2.1.trans hd, h.2.2.2.only hd (fun h => h)⟩
theorem TwoG.row {w0 : World} {s t : Nat} {T1 T2 : Nat → Prop} {R1 R2 : List KV} {x : Stp} {N M b : Nat} {row : Array Value} {k : Nat} {w : World} (h : TwoG w0 s t T1 T2 R1 R2 x N M b row k w) : Blk w b 29 row := by
  match k, h with
  | 0, h => exact h.2.2.2
  | 1, ⟨_, _, _, _, h, _⟩ => exact h
  | _ + 2, ⟨_, _, _, _, _, h, _⟩ => exact h
theorem TwoG.end {w0 : World} {s t : Nat} {T1 T2 : Nat → Prop} {R1 R2 : List KV} {x : Stp} {N M b : Nat} {row : Array Value} {k : Nat} {w : World} (h : TwoG w0 s t T1 T2 R1 R2 x N M b row k w) (hk : 1 < k) :
    ∃ T1' T2', StoR w s T1' T2' (stepR R1 x) (N + 1) ∧ StoR w t T2' T1' (stepR R2 x) (M + 1) ∧ Only NoneOf w0 w ∧ (∀ k, T1' k → w0.heap.size ≤ k) ∧ ∀ k, T2' k → w0.heap.size ≤ k := by
  match k, h, hk with
  | _ + 2, ⟨T1', T2', h1, h2, h3, _, h5, h6⟩, _ => exact ⟨T1', T2', h1, h2, h3, h5, h6⟩

theorem two_first {w0 u : World} {s t : Nat} {T1 T2 : Nat → Prop} {R1 R2 : List KV} {x : Stp} {N M b lo : Nat} {row : Array Value} (h : TwoG w0 s t T1 T2 R1 R2 x N M b row 0 u) (A : Option Addr) (cc : Nat) (hN : N < NMAX) (hkey : x.key.size ≤ maxLen) (hby : BytesAt w0 A x.bs)
    (hT1 : ∀ k, T1 k → w0.heap.size ≤ k) (hb : ¬ T1 b) (hlo : lo ≤ u.heap.size) :
    Calls Try.prog 17 #[.pointer (some ⟨s, 0, none⟩), .agg (stepC x.kind x.key x.st (.slice A x.bs.length cc) x.dead x.tt)] u fun e w' => ∃ v, e = .returned v ∧ TellV lo (ansR R1 x) v w' ∧ TwoG w0 s t T1 T2 R1 R2 x N M b row (0 + 1) w' ∧ Only (fun k => T1 k ∨ T2 k) u w' := by
  obtain ⟨h1, h2, h3, h4⟩ := h
  refine (call_is u s N T1 T2 R1 h1 hN x A cc hkey (hby.keep h3)).mono ?_
  rintro e w' ⟨cs, T1', rfl, hst, hs, ho, hk⟩
  have h3' : Only NoneOf w0 w' := h3.step ho (fun k hk' ht => by have := hT1 k ht; omega)
  refine ⟨_, rfl, ⟨cs, rfl, hst.low hlo⟩, ⟨T1', hs, h2.beside hs ho hk, h3', h4.only ho hb, fun k hk' => ?_⟩, ho.mono (fun _ _ h => .inl h)⟩
  rcases hk k hk' with h | h
  · exact hT1 k h
  · have := h3.size; omega
theorem two_second {w0 u : World} {s t : Nat} {T1 T2 : Nat → Prop} {R1 R2 : List KV} {x : Stp} {N M b lo : Nat} {row : Array Value} (h : TwoG w0 s t T1 T2 R1 R2 x N M b row 1 u) (A : Option Addr) (cc : Nat) (hM : M < NMAX) (hkey : x.key.size ≤ maxLen) (hby : BytesAt w0 A x.bs)
    (hT2 : ∀ k, T2 k → w0.heap.size ≤ k) (hb : ¬ T2 b) (hlo : lo ≤ u.heap.size) :
    Calls Try.prog 17 #[.pointer (some ⟨t, 0, none⟩), .agg (stepC x.kind x.key x.st (.slice A x.bs.length cc) x.dead x.tt)] u fun e w' => ∃ v, e = .returned v ∧ TellV lo (ansR R2 x) v w' ∧ TwoG w0 s t T1 T2 R1 R2 x N M b row (1 + 1) w' ∧ Only (fun k => T1 k ∨ T2 k) u w' := by
  obtain ⟨T1', h1, h2, h3, h4, h5⟩ := h
  refine (call_is u t M T2 T1' R2 h2 hM x A cc hkey (hby.keep h3)).mono ?_
  rintro e w' ⟨cs, T2', rfl, hst, hs, ho, hk⟩
  have h3' : Only NoneOf w0 w' := h3.step ho (fun k hk' ht => by have := hT2 k ht; omega)
  refine ⟨_, rfl, ⟨cs, rfl, hst.low hlo⟩, ⟨T1', T2', h1.beside hs ho hk, hs, h3', h4.only ho hb, h5, fun k hk' => ?_⟩, ho.mono (fun _ _ h => .inr h)⟩
  rcases hk k hk' with h | h
  · exact hT2 k h
  · have := h3.size; omega

/-- An answer's sizes are a machine's. -/
theorem ansR_fit {w : World} {s N : Nat} {T U : Nat → Prop} {R : List KV} (h : StoR w s T U R N) (hN : N ≤ NMAX) (x : Stp) : (ansR R x).Fit := by
  obtain ⟨m, n, D, C, _, _, hg, _, hl⟩ := h
  unfold NMAX at hN
  have hz : ∀ e n m is, (An.Fit { e := e, n := n, m := m, is := is }) := fun _ _ _ _ => ⟨by simp, by simp, fun p h => by simp at h, by simp, fun p h => by simp at h⟩
  unfold ansR
  split
  · exact hz _ _ _ _
  split
  · split
    · exact hz _ _ _ _
    · rename_i b hb
      obtain ⟨y, hy, rfl⟩ := found_mem hb
      have := hg.bs _ (verR_mem.1 hy)
      exact ⟨by simp only at this ⊢; omega, by simp, fun p h => by simp at h, by simp, fun p h => by simp at h⟩
  split
  · split <;> exact hz _ _ _ _
  split
  · refine ⟨by simp, ?_, fun p hp => ?_, by simp, fun p h => by simp at h⟩
    · have h1 : (scanR R x.key x.tt x.st).length ≤ (keysR R).length := List.length_filterMap_le _ _
      have := keysR_length R
      simp only
      omega
    · obtain ⟨k, _, hk⟩ := List.mem_filterMap.1 hp
      unfold scanKey at hk
      split at hk
      · cases hk
      · obtain ⟨b, hb, rfl⟩ := Option.map_eq_some_iff.1 hk
        obtain ⟨y, hy, rfl⟩ := found_mem hb
        have := hg.bs _ (verR_mem.1 hy)
        simp only at this ⊢
        omega
  split
  · exact hz _ _ _ _
  split
  · exact hz _ _ _ _
  split
  · exact hz _ _ _ _
  split
  · refine ⟨by simp, by simp, fun p h => by simp at h, ?_, fun p hp => ?_⟩
    · simp only [versR_length]
      omega
    · obtain ⟨k, _, hk⟩ := List.mem_flatMap.1 hp
      obtain ⟨y, hy, rfl⟩ := List.mem_map.1 hk
      have := hg.bs _ (verR_mem.1 hy)
      simp only at this ⊢
      omega
  · exact hz _ _ _ _

end Go.Proofs.Ytnonnencdhogiaa

/-
  Layer 14's law StoreApart, plain: what is told of a key hangs on its own versions.
-/
namespace Go.Proofs.Ytnonnencdhogiaa

/-- R2 holds of R1 just what is of the key. -/
def ApartR (key : ByteArray) (R1 R2 : List KV) : Prop := verR R1 key = verR R2 key ∧ ∀ p ∈ R2, p.1 = key

theorem ApartR.nil (key : ByteArray) : ApartR key [] [] := ⟨rfl, fun _ h => by cases h⟩
theorem ApartR.code {key : ByteArray} {R1 R2 : List KV} (h : ApartR key R1 R2) (x : Ver) : codeR R1 key x = codeR R2 key x := by unfold codeR; rw [h.1]
theorem ApartR.after {key : ByteArray} {R1 R2 : List KV} (h : ApartR key R1 R2) (x : Ver) : ApartR key (afterR R1 key x) (afterR R2 key x) := by
  unfold afterR
  rw [h.code]
  split
  · refine ⟨by rw [verR_append, verR_append, h.1], fun p hp => ?_⟩
    rcases List.mem_append.1 hp with hp | hp
    · exact h.2 p hp
    · obtain rfl : p = (key, x) := by simpa using hp
      rfl
  · exact h
theorem ApartR.other {key k : ByteArray} {R1 R2 : List KV} (h : ApartR key R1 R2) (hk : k ≠ key) (x : Ver) : ApartR key (afterR R1 k x) R2 := by
  refine ⟨?_, h.2⟩
  unfold afterR
  split
  · rw [verR_append, verR_one, if_neg hk, List.append_nil]; exact h.1
  · exact h.1
theorem ApartR.vac {key : ByteArray} {R1 R2 : List KV} (h : ApartR key R1 R2) (h1 : GoodR R1) (h2 : GoodR R2) (hz : Int) : ApartR key (vacR R1 hz) (vacR R2 hz) :=
  ⟨by rw [verR_vac h1, verR_vac h2, h.1], fun p hp => h.2 p (List.mem_filter.1 hp).1⟩
theorem ApartR.ans {key : ByteArray} {R1 R2 : List KV} (h : ApartR key R1 R2) (x : Stp) (hx : x.key = key) (hk : 0 ≤ x.kind ∧ x.kind ≤ 2) : ansR R1 x = ansR R2 x := by
  have : x.kind = 0 ∨ x.kind = 1 ∨ x.kind = 2 := by omega
  unfold ansR
  rw [hx]
  rcases this with e | e | e <;> simp only [e]
  · simp [h.code]
  · simp [h.1]
  · simp [h.1]
theorem ApartR.step {key : ByteArray} {R1 R2 : List KV} (h : ApartR key R1 R2) (x : Stp) (hx : x.key = key) (hk : 0 ≤ x.kind ∧ x.kind ≤ 2) : ApartR key (stepR R1 x) (stepR R2 x) := by
  have : x.kind = 0 ∨ x.kind = 1 ∨ x.kind = 2 := by omega
  unfold stepR
  rw [hx]
  rcases this with e | e | e <;> simp only [e]
  · simpa using h.after _
  · simpa using h
  · simpa using h

theorem filter_group (key : ByteArray) (f : List UInt8 → List KV) (hf : ∀ k, ∀ p ∈ f k, p.1 = keyB k) : ∀ (ks : List (List UInt8)), ks.Nodup →
    (ks.flatMap f).filter (fun p => decide (p.1 = key)) = if key.data.toList ∈ ks then f key.data.toList else []
  | [], _ => rfl
  | k :: ks, hn => by
    obtain ⟨h1, h2⟩ := List.nodup_cons.1 hn
    have ih := filter_group key f hf ks h2
    rw [List.flatMap_cons, List.filter_append, ih]
    by_cases e : k = key.data.toList
    · subst e
      rw [if_neg h1, List.append_nil, if_pos (by simp)]
      exact List.filter_eq_self.2 fun p hp => by rw [hf _ p hp, keyB_list]; simp
    · have h0 : (f k).filter (fun p => decide (p.1 = key)) = [] := List.filter_eq_nil_iff.2 fun p hp => by
        rw [hf _ p hp]
        simp only [decide_eq_true_eq]
        exact fun e' => e (by rw [← e'])
      rw [h0, List.nil_append]
      by_cases hk : key.data.toList ∈ ks
      · rw [if_pos hk, if_pos (by simp [hk])]
      · rw [if_neg hk, if_neg (by simp [hk, Ne.symm e])]
theorem versR_filter (R : List KV) (key : ByteArray) : (versR R).filter (fun p => decide (p.1 = key)) = (verR R key).map fun x => (key, x) := by
  have hf : ∀ k, ∀ p ∈ ((verR R (keyB k)).map fun x => ((keyB k, x) : KV)), p.1 = keyB k := fun k p hp => by
    obtain ⟨x, _, rfl⟩ := List.mem_map.1 hp
    rfl
  unfold versR
  rw [filter_group key _ hf (keysR R) (sorted_nodup (keysR_sorted _)), keyB_list]
  split
  · rfl
  · rename_i hk
    have : verR R key = [] := by
      cases hc : verR R key with
      | nil => rfl
      | cons y ys =>
        obtain ⟨z, hz⟩ := verR_ne.1 (show verR R key ≠ [] by rw [hc]; simp)
        exact absurd (keysR_mem.2 ⟨z, by rw [keyB_list]; exact hz⟩) hk
    rw [this]
    rfl
theorem versR_mem {R : List KV} {p : KV} (h : p ∈ versR R) : p ∈ R := by
  obtain ⟨k, _, hk⟩ := List.mem_flatMap.1 h
  obtain ⟨x, hx, rfl⟩ := List.mem_map.1 hk
  exact verR_mem.1 hx
theorem ApartR.vers {key : ByteArray} {R1 R2 : List KV} (h : ApartR key R1 R2) : (versR R1).filter (fun p => decide (p.1 = key)) = versR R2 := by
  have e : (versR R2).filter (fun p => decide (p.1 = key)) = versR R2 := List.filter_eq_self.2 fun p hp => by simp [h.2 p (versR_mem hp)]
  rw [← e, versR_filter, versR_filter, h.1]

end Go.Proofs.Ytnonnencdhogiaa

/-
  Layer 14's law StoreApart walked.
-/
namespace Go.Proofs.Ytnonnencdhogiaa
open Go.RowKit

/-- the values of a region that asks both stores the same -/
def TwoT (x : Stp) (A : Option Addr) (c : Nat) (s t : Nat) (R1 R2 : List KV) (lo : Nat) : Nat → Value → World → Prop
  | 0, v, _ => v = .pointer (some ⟨s, 0, none⟩)
  | 1, v, _ => v = .agg (stepC x.kind x.key x.st (.slice A x.bs.length c) x.dead x.tt)
  | 2, v, w => TellV lo (ansR R1 x) v w
  | 3, v, _ => v = .pointer (some ⟨t, 0, none⟩)
  | 4, v, _ => v = .agg (stepC x.kind x.key x.st (.slice A x.bs.length c) x.dead x.tt)
  | 5, v, w => TellV lo (ansR R2 x) v w
  | _, _, _ => True
theorem TwoT_keep (x : Stp) (A : Option Addr) (c : Nat) (s t : Nat) (R1 R2 : List KV) (lo : Nat) {S : Nat → Prop} (hS : ∀ k, S k → k < lo) (i : Nat) (v : Value) (w w' : World) (h : TwoT x A c s t R1 R2 lo i v w) (ho : Only S w w') : TwoT x A c s t R1 R2 lo i v w' :=
  match i, h with
  | 0, h | 1, h | 3, h | 4, h => h
  | 2, ⟨cs, h1, h2⟩ => ⟨cs, h1, h2.turn ho hS⟩
  | 5, ⟨cs, h1, h2⟩ => ⟨cs, h1, h2.turn ho hS⟩
  | _ + 6, _ => trivial
theorem TwoG.only {w0 : World} {s t : Nat} {T1 T2 : Nat → Prop} {R1 R2 : List KV} {x : Stp} {N M b : Nat} {row : Array Value} {k : Nat} {w : World} (h : TwoG w0 s t T1 T2 R1 R2 x N M b row k w) : Only NoneOf w0 w := by
  match k, h with
  | 0, h => exact h.2.2.1
  | 1, ⟨_, _, _, h, _⟩ => exact h
  | _ + 2, ⟨_, _, _, _, h, _⟩ => exact h

/-- two stores beside one another -/
def TwoSt (w0 : World) (s t : Nat) (R1 R2 : List KV) (N : Nat) (w : World) : Prop :=
  ∃ T1 T2, StoR w s T1 T2 R1 N ∧ StoR w t T2 T1 R2 N ∧ Only NoneOf w0 w ∧ (∀ k, T1 k → w0.heap.size ≤ k) ∧ ∀ k, T2 k → w0.heap.size ≤ k
theorem TwoSt.keep {w0 : World} {s t : Nat} {R1 R2 : List KV} {N : Nat} {w w' : World} (h : TwoSt w0 s t R1 R2 N w) (ho : Only NoneOf w w') : TwoSt w0 s t R1 R2 N w' := by
  obtain ⟨T1, T2, h1, h2, h3, h4, h5⟩ := h
  exact ⟨T1, T2, h1.keep ho, h2.keep ho, h3.trans ho, h4, h5⟩
theorem TwoSt.more {w0 : World} {s t : Nat} {R1 R2 : List KV} {N N' : Nat} {w : World} (h : TwoSt w0 s t R1 R2 N w) (hN : N ≤ N') : TwoSt w0 s t R1 R2 N' w := by
  obtain ⟨T1, T2, h1, h2, h3⟩ := h
  exact ⟨T1, T2, h1.more hN, h2.more hN, h3⟩
theorem TwoSt.good {w0 : World} {s t : Nat} {R1 R2 : List KV} {N : Nat} {w : World} (h : TwoSt w0 s t R1 R2 N w) : GoodR R1 ∧ GoodR R2 := by
  obtain ⟨T1, T2, h1, h2, _⟩ := h
  exact ⟨h1.good, h2.good⟩
/-- a call of the first that turns it -/
theorem TwoSt.turn {w0 : World} {s t : Nat} {T1 T1' T2 : Nat → Prop} {R1' R2 : List KV} {N N' : Nat} {w w' : World} (h2 : StoR w t T2 T1 R2 N) (ho0 : Only NoneOf w0 w) (hT1 : ∀ k, T1 k → w0.heap.size ≤ k) (hT2 : ∀ k, T2 k → w0.heap.size ≤ k)
    (h1' : StoR w' s T1' T2 R1' N') (ho : Only T1 w w') (hk : ∀ k, T1' k → T1 k ∨ w.heap.size ≤ k) (hN : N ≤ N') : TwoSt w0 s t R1' R2 N' w' :=
  ⟨T1', T2, h1', (h2.beside h1' ho hk).more hN, ho0.step ho (fun k hk' ht => by have := hT1 k ht; omega), fun k hk' => by
    rcases hk k hk' with h | h
    · exact hT1 k h
    · have := ho0.size; omega, hT2⟩
theorem TwoSt.swap {w0 : World} {s t : Nat} {R1 R2 : List KV} {N : Nat} {w : World} (h : TwoSt w0 s t R1 R2 N w) : TwoSt w0 t s R2 R1 N w := by
  obtain ⟨T1, T2, h1, h2, h3, h4, h5⟩ := h
  exact ⟨T2, T1, h2, h1, h3, h5, h4⟩
theorem two_vacuum {w0 w w1 : World} {s t : Nat} {R1 R2 : List KV} {N : Nat} (h : TwoSt w0 s t R1 R2 N w) (h01 : Only NoneOf w w1) (hN : N ≤ NMAX) (hz : Int) :
    Calls Try.prog 20 #[.pointer (some ⟨s, 0, none⟩), .int .i64 hz] w1 fun e w' => e = .returned (.int .i64 ((R1.length - (vacR R1 hz).length : Nat) : Int)) ∧ TwoSt w0 s t (vacR R1 hz) R2 N w' ∧ Only (fun k => k < w.heap.size) w1 w' := by
  obtain ⟨T1, T2, h1, h2, h3, h4, h5⟩ := h
  refine (vacuumR w1 s N T1 T2 R1 (h1.keep h01) hN hz).mono ?_
  rintro e w' ⟨he, T1', hs, ho, hk⟩
  exact ⟨he, TwoSt.turn (h2.keep h01) (h3.trans h01) h4 h5 hs ho hk (Nat.le_refl _), ho.mono (fun k _ hk => h1.lt hk)⟩
theorem two_apply {w0 w : World} {s t : Nat} {R1 R2 : List KV} {N : Nat} (h : TwoSt w0 s t R1 R2 N w) (hN : N < NMAX) (key : ByteArray) (st : Int) (A : Option Addr) (nn cc : Nat) (dead : Bool) (bs : List UInt8) (hnn : bs.length = nn) (hby : BytesAt w A bs) :
    Calls Try.prog 21 #[.pointer (some ⟨s, 0, none⟩), .agg (verC key st (.slice A nn cc) dead)] w fun e w' => e = .returned (.int .i64 (codeR R1 key ⟨st, bs, dead⟩)) ∧ TwoSt w0 s t (afterR R1 key ⟨st, bs, dead⟩) R2 (N + 1) w' := by
  obtain ⟨T1, T2, h1, h2, h3, h4, h5⟩ := h
  refine (applyR w s N T1 T2 R1 h1 hN key st A nn cc dead bs hnn hby).mono ?_
  rintro e w' ⟨he, T1', hs, ho, hk⟩
  exact ⟨he, TwoSt.turn h2 h3 h4 h5 hs ho hk (by omega)⟩
theorem two_new (w0 w : World) (h0 : Only NoneOf w0 w) : Calls Try.prog 29 #[] w fun e w' => e = .returned (.pointer (some ⟨w.heap.size + 1, 0, none⟩)) ∧ ∃ T, StoR w' (w.heap.size + 1) T NoneOf [] 0 ∧ Only NoneOf w0 w' ∧ ∀ k, T k → w0.heap.size ≤ k :=
  (newR w NoneOf (fun _ h => h.elim)).mono fun _ _ ⟨he, T, h1, h2, h3⟩ => ⟨he, T, h1, h0.trans h2, fun k hk => Nat.le_trans h0.size (h3 k hk)⟩
theorem two_new2 (w0 w : World) (s N : Nat) (T1 : Nat → Prop) (R1 : List KV) (h1 : StoR w s T1 NoneOf R1 N) (h0 : Only NoneOf w0 w) (hT : ∀ k, T1 k → w0.heap.size ≤ k) :
    Calls Try.prog 29 #[] w fun e w' => e = .returned (.pointer (some ⟨w.heap.size + 1, 0, none⟩)) ∧ TwoSt w0 s (w.heap.size + 1) R1 [] N w' :=
  (newR w T1 (fun _ h => h1.lt h)).mono fun _ _ ⟨he, T2, h2, ho, h3⟩ => ⟨he, T1, T2, h1.other ho (fun _ h => h.elim) (fun k hk => ⟨h2.lt hk, .inr (h3 k hk)⟩), h2.more (Nat.zero_le _), h0.trans ho, hT, fun k hk => Nat.le_trans h0.size (h3 k hk)⟩

theorem flat_cell {w : World} {base g n c : Nat} {rs : List VRow} (h : w.ownsRow base 27 4 (.slice (some ⟨g, 0, none⟩) n c) rs.length (vflat rs)) {i : Nat} {r : VRow} (hr : rs[i]? = some r) {j : Nat} (hj : j < 4) : w.cell? ⟨g, i * 4 + j, none⟩ = r.cells[j]? := by
  rcases h.2 with ⟨h0, _⟩ | ⟨g', cap', cur', hv', _, hb', hle, _, hs, hcur'⟩
  · cases h0
  · injection hv' with hv1 hn _
    injection hv1 with hv1
    injection hv1 with hv1 _ _
    subst hv1
    have hil : i < rs.length := (List.getElem?_eq_some_iff.1 hr).1
    rw [Blk.cell (t := 27) (cs := cur') hb', ← flatMap_get VRow.cells 4 (fun _ => rfl) rs i j r hr hj]
    change _ = (vflat rs)[i * 4 + j]?
    rw [← hcur', List.getElem?_take_of_lt (by omega), Array.getElem?_toList]
theorem listAt_rows {w : World} {base : Nat} {v : Value} {rs : List VRow} (h : w.ownsRow base 27 4 v rs.length (vflat rs)) (hv : ∀ r ∈ rs, BytesV w r.val r.bs) : ListAt 4 VerE w v (rs.map VRow.plain) := by
  obtain ⟨A, c, rfl⟩ := ownsRow_slice h
  refine ⟨A, c, by simp, fun i x hx => ?_⟩
  rw [List.getElem?_map] at hx
  obtain ⟨r, hr, rfl⟩ := Option.map_eq_some_iff.1 hx
  obtain ⟨g, rfl⟩ : ∃ g, A = some ⟨g, 0, none⟩ := by
    rcases h.2 with ⟨h0, h1⟩ | ⟨g, cap, cur, hv, _⟩
    · rw [List.eq_nil_of_length_eq_zero h1] at hr; cases hr
    · injection hv with hv1; exact ⟨g, hv1⟩
  obtain ⟨A', c', hv', hb⟩ := hv r (List.mem_of_getElem? hr)
  refine ⟨g, 0, r.cells, rfl, (ownsRow_lt h (g := g) rfl).2, fun j c hj => ?_, rfl, A', c', by simp [VRow.cells, VRow.plain, hv'], hb⟩
  have hj2 : j < 4 := (List.getElem?_eq_some_iff.1 hj).1
  rw [Nat.zero_add, flat_cell h hr hj2]
  exact hj

theorem StoR.len {w : World} {s N : Nat} {T U : Nat → Prop} {R : List KV} (h : StoR w s T U R N) : R.length ≤ N := by
  obtain ⟨m, n, D, C, _, _, _, _, h⟩ := h
  exact h
/-- the loop over the versions: those of the key -/
def OwnRel (W : World) (key : ByteArray) (rs : List VRow) (v vi : Value) (wr : World) : Prop :=
  ∃ (i : Nat) (sel : List VRow), i ≤ rs.length ∧ vi = .int .i64 i ∧ Only NoneOf W wr ∧ wr.ownsRow W.heap.size 27 4 v sel.length (vflat sel) ∧ sel.length ≤ i ∧ sel.map VRow.plain = ((rs.take i).map VRow.plain).filter (fun p => decide (p.1 = key)) ∧ ∀ r ∈ sel, r ∈ rs

/-- the loop over the script -/
def ApRel (w0 : World) (s t : Nat) (key : ByteArray) (n : Nat) (v : Value) (wr : World) : Prop := ∃ (i : Nat) (R1 R2 : List KV), v = .int .i64 i ∧ i ≤ n ∧ TwoSt w0 s t R1 R2 i wr ∧ ApartR key R1 R2

set_option maxRecDepth 100000 in
set_option maxHeartbeats 8000000 in
theorem apart_walk (key : ByteArray) (A : Option Addr) (cap : Nat) (xs : List Stp) (w : World) (hA : StepsAt w A xs) (hfew : xs.length ≤ 1759218604390) : Calls Try.prog 8 #[.string key, .slice A xs.length cap] w (Ans (.bool true) w) := by
  have HA := Lib.hid hA
  obtain ⟨n, hn⟩ : ∃ n, xs.length = n := ⟨_, rfl⟩
  have HN := Lib.hid hn
  rw [hn] at hfew ⊢
  clear hA hn
  have HW := Lib.hid (two_new w w (Only.refl _ _))
  go_enter Try.func8, Try.ntmps8
  go_wp2_with fail
  refine HW.out.mono ?_; rintro e w1 ⟨rfl, T1, h1, ho1, ht1⟩
  have HW2 := Lib.hid (two_new2 w w1 _ 0 T1 [] h1 ho1 ht1)
  clear h1 ho1 ht1
  go_wp2_with fail
  refine HW2.out.mono ?_; rintro e w2 ⟨rfl, htw⟩
  have HTW := Lib.hid htw
  clear htw
  go_wp2_with fail
  obtain ⟨s, hs⟩ : ∃ s, s = w.heap.size + 1 := ⟨_, rfl⟩
  obtain ⟨t, ht⟩ : ∃ t, t = w1.heap.size + 1 := ⟨_, rfl⟩
  rw [← hs, ← ht] at HTW ⊢
  clear HW HW2 hs ht
  go_loopw [16] (fun v wr => ApRel w s t key n v wr) (fun v _ => n - (intOf v).toNat)
  case atStart => exact ⟨0, [], [], rfl, by omega, HTW.out, ApartR.nil key⟩
  case round =>
    obtain ⟨i, R1, R2, rfl, hi, htw, hap⟩ := hrel
    have HTW := Lib.hid htw
    have HAP := Lib.hid hap
    obtain ⟨_, _, _, _, hO, _⟩ := htw
    have HO := Lib.hid hO
    clear hap hO
    by_cases hlt : i < n
    · have hx : xs[i]? = some (xs[i]'(by rw [HN.out]; exact hlt)) := List.getElem?_eq_getElem _
      generalize xs[i]'(by rw [HN.out]; exact hlt) = x at hx
      obtain ⟨g, off, Ab, cb, rfl, hg, d0, d1, d2, d3, d4, d5, _, hks⟩ := (HA.out.keep HO.out) i x hx
      have HBY := Lib.hid (show BytesAt w Ab x.bs from by
        obtain ⟨g2, off2, Ab2, cb2, hA2, hg2, e0, e1, e2, e3, e4, e5, hby2, _⟩ := HA.out i x hx
        injection hA2 with hA2
        injection hA2 with h1 h2 _
        subst h1; subst h2
        have := (HO.out.cell (p := ⟨g, off + i * 6 + 3, none⟩) hg2 (fun h => h)).trans e3
        rw [d3] at this
        injection this with this
        injection this with h1 _ _
        rw [h1]
        exact hby2)
      have HTA := Lib.hid (HTW.out.keep ((Only.refl NoneOf wr).alloc (.cells (stepC x.kind x.key x.st (.slice Ab x.bs.length cb) x.dead x.tt) 29)))
      have hlt' : i < NMAX := by unfold NMAX; omega
      have fin : ∀ u R1' R2', TwoSt w s t R1' R2' (i + 1) u → ApartR key R1' R2' → ApRel w s t key n (.int .i64 ((i : Int) + 1)) u := fun u R1' R2' h1 h2 =>
        ⟨i + 1, R1', R2', by rw [show ((i + 1 : Nat) : Int) = (i : Int) + 1 by omega], by omega, h1, h2⟩
      have FIN := Lib.hid fin
      clear fin
      cases q4 : (x.kind == 4)
      · cases qk : (x.key.toList == key.toList)
        · have hne : x.key ≠ key := fun e => by rw [e] at qk; simp at qk
          cases q0 : (x.kind == 0)
          · go_wp2_with fail
            exact ⟨FIN.out _ _ _ (HTA.out.more (by omega)) HAP.out, by simp [intOf]; omega⟩
          · have HAP2 := Lib.hid (two_apply HTA.out hlt' x.key x.st Ab x.bs.length cb x.dead x.bs rfl (HBY.out.keep (HO.out.alloc _)))
            go_wp2_with fail
            refine HAP2.out.mono ?_; rintro e u1 ⟨rfl, hu1⟩
            have HU1 := Lib.hid hu1
            clear hu1
            go_wp2_with fail
            exact ⟨FIN.out _ _ _ HU1.out (HAP.out.other hne _), by simp [intOf]; omega⟩
        · have hkk : x.key = key := by rw [bytes_beq] at qk; exact of_decide_eq_true qk
          have HKK := Lib.hid hkk
          have hrng : (decide (0 ≤ x.kind) = true ∧ decide (x.kind ≤ 2) = true) ∨ ((x.kind == 0) = false ∧ (decide (0 ≤ x.kind) = false ∨ decide (0 ≤ x.kind) = true ∧ decide (x.kind ≤ 2) = false)) := by
            rcases Int.lt_or_le x.kind 0 with h | h
            · exact .inr ⟨beq_eq_false_iff_ne.2 (by omega), .inl (decide_eq_false (by omega))⟩
            · rcases Int.lt_or_le 2 x.kind with h' | h'
              · exact .inr ⟨beq_eq_false_iff_ne.2 (by omega), .inr ⟨decide_eq_true h, decide_eq_false (by omega)⟩⟩
              · exact .inl ⟨decide_eq_true h, decide_eq_true h'⟩
          rcases hrng with ⟨qa, qb⟩ | ⟨q0, qa | ⟨qa, qb⟩⟩
          · have HRG := Lib.hid (show 0 ≤ x.kind ∧ x.kind ≤ 2 from ⟨of_decide_eq_true qa, of_decide_eq_true qb⟩)
            obtain ⟨T1, T2, h1, h2, h3, h4, h5⟩ := HTW.out
            have hal : Only NoneOf wr (wr.alloc (.cells (stepC x.kind x.key x.st (.slice Ab x.bs.length cb) x.dead x.tt) 29)) := (Only.refl _ _).alloc _
            have HG0 := Lib.hid (show TwoG w s t T1 T2 R1 R2 x i i wr.heap.size (stepC x.kind x.key x.st (.slice Ab x.bs.length cb) x.dead x.tt) 0 (wr.alloc (.cells (stepC x.kind x.key x.st (.slice Ab x.bs.length cb) x.dead x.tt) 29)) from
              ⟨h1.keep hal, h2.keep hal, h3.trans hal, Blk.new _ _ _⟩)
            have HT1 := Lib.hid h4
            have HT2 := Lib.hid h5
            have hb1 : ¬ T1 wr.heap.size := fun h => by have := h1.lt h; omega
            have hb2 : ¬ T2 wr.heap.size := fun h => by have := h2.lt h; omega
            have hlo : ∀ k, T1 k ∨ T2 k → k < wr.heap.size := fun k hk => hk.elim (fun h => h1.lt h) (fun h => h2.lt h)
            have HF := Lib.hid (ansR_fit h1 (by omega) x)
            have HAN := Lib.hid (HAP.out.ans x hkk HRG.out)
            clear h1 h2 h3 h4 h5 hal hkk
            go_upto_region 9 with (fail)
            refine wp_region_head2 6 90 [] (fun _ => none) (fun i => match i with | 2 => some 0 | 5 => some 1 | _ => none) (fun k => T1 k ∨ T2 k) (TwoG w s t T1 T2 R1 R2 x i i wr.heap.size (stepC x.kind x.key x.st (.slice Ab x.bs.length cb) x.dead x.tt)) (TwoT x Ab cb s t R1 R2 wr.heap.size) rfl (by kernel_rfl) (by kernel_rfl) ?hskip ?hgv (TwoT_keep _ _ _ _ _ _ _ _ hlo) HG0.out.drew ?hstep ?hend
            case hskip =>
              intro i o hi ho hw k
              have : i = 0 ∨ i = 1 ∨ i = 2 ∨ i = 3 ∨ i = 4 ∨ i = 5 := by omega
              rcases this with rfl | rfl | rfl | rfl | rfl | rfl
              · rfl
              · rfl
              · obtain rfl := Option.some.inj (ho : some _ = some o); exact absurd (show true = false from hw) (by decide)
              · rfl
              · rfl
              · obtain rfl := Option.some.inj (ho : some _ = some o); exact absurd (show true = false from hw) (by decide)
            case hgv =>
              intro g hg v w h
              cases hg
            case hstep =>
              intro i o hi ho a u k hk hik hs ht
              have e5 : a.tmps.getD 5 undef = .pointer (some ⟨s, 0, none⟩) := hs 5 (of_decide_eq_true (by kernel_rfl))
              have e6 : a.tmps.getD 6 undef = .pointer (some ⟨t, 0, none⟩) := hs 6 (of_decide_eq_true (by kernel_rfl))
              have e8 : a.tmps.getD 8 undef = .pointer (some ⟨wr.heap.size, 0, none⟩) := hs 8 (of_decide_eq_true (by kernel_rfl))
              have : i = 0 ∨ i = 1 ∨ i = 2 ∨ i = 3 ∨ i = 4 ∨ i = 5 := by omega
              rcases this with rfl | rfl | rfl | rfl | rfl | rfl
              · obtain rfl := Option.some.inj (ho : some _ = some o)
                rw [if_pos (by decide)]
                exact left2_value (.pointer (some ⟨s, 0, none⟩)) (by simp [go_sem, e5]) rfl rfl hk
              · obtain rfl := Option.some.inj (ho : some _ = some o)
                rw [if_pos (by decide)]
                exact left2_load 29 (.tmp 8) wr.heap.size 29 _ _ rfl e8 hk.row Try.underlying29 rfl info29 rfl rfl hk
              · obtain rfl := Option.some.inj (ho : some _ = some o)
                rw [if_pos (by decide)]
                have s0 : a.tmps.getD 50 undef = .pointer (some ⟨s, 0, none⟩) := ht 0 (by omega) (by kernel_rfl)
                have s0c : a.tmps.getD 50 undef = .pointer (some ⟨s, 0, none⟩) := ht 0 (by omega) (by kernel_rfl)
                have s1c : a.tmps.getD 51 undef = .agg (stepC x.kind x.key x.st (.slice Ab x.bs.length cb) x.dead x.tt) := ht 1 (by omega) (by kernel_rfl)
                obtain rfl : k = 0 := by
                  rcases hik with h | h
                  · cases h
                  · injection h with h; exact h.symm
                refine left2_turns 17 #[.pointer (some ⟨s, 0, none⟩), .agg (stepC x.kind x.key x.st (.slice Ab x.bs.length cb) x.dead x.tt)] (by simp [go_sem, s0c, s1c]) ?_ rfl
                exact two_first hk Ab cb (by omega) hks HBY.out HT1.out hb1 (Nat.le_of_lt hk.row.lt)
              · obtain rfl := Option.some.inj (ho : some _ = some o)
                rw [if_pos (by decide)]
                exact left2_value (.pointer (some ⟨t, 0, none⟩)) (by simp [go_sem, e6]) rfl rfl hk
              · obtain rfl := Option.some.inj (ho : some _ = some o)
                rw [if_pos (by decide)]
                exact left2_load 29 (.tmp 8) wr.heap.size 29 _ _ rfl e8 hk.row Try.underlying29 rfl info29 rfl rfl hk
              · obtain rfl := Option.some.inj (ho : some _ = some o)
                rw [if_pos (by decide)]
                have s3 : a.tmps.getD 53 undef = .pointer (some ⟨t, 0, none⟩) := ht 3 (by omega) (by kernel_rfl)
                have s3c : a.tmps.getD 53 undef = .pointer (some ⟨t, 0, none⟩) := ht 3 (by omega) (by kernel_rfl)
                have s4c : a.tmps.getD 54 undef = .agg (stepC x.kind x.key x.st (.slice Ab x.bs.length cb) x.dead x.tt) := ht 4 (by omega) (by kernel_rfl)
                obtain rfl : k = 1 := by
                  rcases hik with h | h
                  · cases h
                  · injection h with h; exact h.symm
                refine left2_turns 17 #[.pointer (some ⟨t, 0, none⟩), .agg (stepC x.kind x.key x.st (.slice Ab x.bs.length cb) x.dead x.tt)] (by simp [go_sem, s3c, s4c]) ?_ rfl
                exact two_second hk Ab cb (by omega) hks HBY.out HT2.out hb2 (Nat.le_of_lt hk.row.lt)
            case hend =>
              intro V' u k hk hkt hV'
              have v0 : V' 0 = .pointer (some ⟨s, 0, none⟩) := hV' 0 (by omega)
              have v1 : V' 1 = .agg (stepC x.kind x.key x.st (.slice Ab x.bs.length cb) x.dead x.tt) := hV' 1 (by omega)
              obtain ⟨cs0, v2, hcs0⟩ : TellV wr.heap.size (ansR R1 x) (V' 2) u := hV' 2 (by omega)
              have v3 : V' 3 = .pointer (some ⟨t, 0, none⟩) := hV' 3 (by omega)
              have v4 : V' 4 = .agg (stepC x.kind x.key x.st (.slice Ab x.bs.length cb) x.dead x.tt) := hV' 4 (by omega)
              obtain ⟨cs1, v5, hcs1⟩ : TellV wr.heap.size (ansR R2 x) (V' 5) u := hV' 5 (by omega)
              have hk0 : 0 < k := hkt 2 0 (by omega) rfl
              have hk1 : 1 < k := hkt 5 1 (by omega) rfl
              change wpList _ _ _ _ (Act.put (Act.put (Act.put (Act.put (Act.put (Act.put _ (some 50) (V' 0)) (some 51) (V' 1)) (some 52) (V' 2)) (some 53) (V' 3)) (some 54) (V' 4)) (some 55) (V' 5)) _
              rw [v0, v1, v2, v3, v4, v5]
              simp only [Act.put, List.setIfInBounds_toArray, List.set_cons_zero, List.set_cons_succ]
              simp only [List.drop_succ_cons, List.drop_zero]
              clear hV' v0 v1 v2 v3 v4 v5
              have hend := hk.end hk1
              have HAL := Lib.hid (alike_same u cs0 cs1 (ansR R1 x) HF.out hcs0.at (by rw [HAN.out]; exact hcs1.at))
              have HEND := Lib.hid hend
              clear hk hkt hk0 hk1 hend hcs0 hcs1
              go_wp2_with fail
              refine HAL.out.mono ?_; rintro e u2 ⟨rfl, ho2⟩
              have HO2 := Lib.hid ho2
              clear ho2
              go_wp2_with fail
              obtain ⟨T1', T2', h1, h2, h3, h4, h5⟩ := HEND.out
              exact ⟨FIN.out _ _ _ (TwoSt.keep ⟨T1', T2', h1, h2, h3, h4, h5⟩ HO2.out) (HAP.out.step x HKK.out HRG.out), by simp [intOf]; omega⟩
          all_goals
            clear hkk
            go_wp2_with fail
            exact ⟨FIN.out _ _ _ (HTA.out.more (by omega)) HAP.out, by simp [intOf]; omega⟩
      · have HV1 := Lib.hid (two_vacuum HTW.out ((Only.refl NoneOf wr).alloc (.cells (stepC x.kind x.key x.st (.slice Ab x.bs.length cb) x.dead x.tt) 29)) (by omega) x.st)
        go_wp2_with fail
        refine HV1.out.mono ?_; rintro e u1 ⟨rfl, hu1, hou1⟩
        have HV2 := Lib.hid (two_vacuum hu1.swap (Only.refl _ _) (by omega) x.st)
        have hb := (Blk.new wr 29 (stepC x.kind x.key x.st (.slice Ab x.bs.length cb) x.dead x.tt)).only hou1 (by omega)
        have c2 := hb.cellv 2 rfl
        clear hu1 hb
        go_wp2_with fail
        refine HV2.out.mono ?_; rintro e u2 ⟨rfl, hu2, _⟩
        have HU2 := Lib.hid hu2.swap
        clear hu2
        go_wp2_with fail
        exact ⟨FIN.out _ _ _ (HU2.out.more (by omega)) (HAP.out.vac HTW.out.good.1 HTW.out.good.2 _), by simp [intOf]; omega⟩
    · obtain rfl : i = n := by omega
      obtain ⟨T1, T2, h1, h2, h3, h4, h5⟩ := HTW.out
      have HVS := Lib.hid (versionsR wr s i T1 T2 R1 h1 (by unfold NMAX; omega))
      have hlen := h1.len
      have H2 := Lib.hid h2
      have H3 := Lib.hid h3
      clear hlt h1 h2 h3 h4 h5
      go_wp2_with fail
      refine HVS.out.mono ?_; rintro e w3 ⟨v, rs, rfl, hr, hpl, ho3⟩
      obtain ⟨Av, cv, rfl⟩ := ownsRow_slice hr.own
      have HR := Lib.hid hr
      have HPL := Lib.hid hpl
      have HO3 := Lib.hid (H3.out.trans ho3)
      have H23 := Lib.hid (H2.out.keep ho3)
      have hrl : rs.length ≤ 2513169434916 := by
        have := congrArg List.length hpl
        rw [List.length_map, versR_length] at this
        omega
      have HRL := Lib.hid (show (versR R1).length = rs.length by rw [← hpl, List.length_map])
      clear hr hpl ho3 HVS
      obtain ⟨i0, hi0, hz0, hz1, hz3⟩ := info_parts info27'
      go_wp2_with fail
      go_loopw [9, 70] (fun v vi wr => OwnRel w3 key rs v vi wr) (fun _ vi _ => rs.length - (intOf vi).toNat)
      case atStart => exact ⟨0, [], by omega, rfl, Only.refl _ _, ⟨rfl, .inl ⟨rfl, rfl⟩⟩, by simp, rfl, fun _ h => by cases h⟩
      case round =>
        obtain ⟨j, sel, hj, rfl, hO, hR, hsl, hpl, hsub⟩ := hrel
        obtain ⟨Ao, co, rfl⟩ := ownsRow_slice hR
        by_cases hlt : j < rs.length
        · have hr : rs[j]? = some (rs[j]'hlt) := List.getElem?_eq_getElem _
          generalize rs[j]'hlt = r at hr
          have hrB := HR.out.val _ (List.mem_of_getElem? hr)
          obtain ⟨rk, rst, rv, rb, rd⟩ := r
          simp only at hrB
          obtain ⟨Ar, cr, rfl⟩ := ownsRow_slice hrB
          obtain ⟨g, rfl⟩ : ∃ g, Av = some ⟨g, 0, none⟩ := by
            rcases HR.out.own.2 with ⟨h0, h1⟩ | ⟨g, cap, cur, hv, _⟩
            · omega
            · injection hv with hv1
              exact ⟨g, hv1⟩
          have hRw := HR.out.only hO (fun _ _ h => h)
          have d0 : wr.cell? ⟨g, j * 4, none⟩ = some (.string rk) := hRw.cell hr (j := 0) (by omega)
          have d1 : wr.cell? ⟨g, j * 4 + 1, none⟩ = some (.int .i64 rst) := hRw.cell hr (j := 1) (by omega)
          have d2 : wr.cell? ⟨g, j * 4 + 2, none⟩ = some (.slice Ar rb.length cr) := hRw.cell hr (j := 2) (by omega)
          have d3 : wr.cell? ⟨g, j * 4 + 3, none⟩ = some (.bool rd) := hRw.cell hr (j := 3) (by omega)
          have HO := Lib.hid hO
          have HSEL := Lib.hid hR
          have HPS := Lib.hid hpl
          have HSUB := Lib.hid hsub
          have HTK := Lib.hid (show rs.take (j + 1) = rs.take j ++ [⟨rk, rst, .slice Ar rb.length cr, rb, rd⟩] by rw [List.take_add_one, hr]; rfl)
          have HMEM := Lib.hid (List.mem_of_getElem? hr)
          clear hO hR hpl hsub hRw hrB
          cases qk : (rk.toList == key.toList)
          · have hne : rk ≠ key := fun e => by rw [e] at qk; simp at qk
            have HNE := Lib.hid hne
            clear hne
            go_wp2_with fail
            refine ⟨⟨j + 1, sel, by omega, by rw [show ((j + 1 : Nat) : Int) = (j : Int) + 1 by omega], HO.out.alloc _, ownsRow_only HSEL.out ((Only.refl NoneOf wr).alloc _) (fun _ _ h => h), by omega, ?_, HSUB.out⟩, by simp [intOf]; omega⟩
            rw [HPS.out, HTK.out, List.map_append, List.filter_append]
            simp [VRow.plain, HNE.out]
          · have hkk : rk = key := by rw [bytes_beq] at qk; exact of_decide_eq_true qk
            have HKK := Lib.hid hkk
            clear hkk
            have hN1 : wr.heap.size + 1 ≤ (wr.alloc (.cells #[.string rk, .int .i64 rst, .slice Ar rb.length cr, .bool rd] 27)).heap.size := by simp
            have HN := Lib.hid (Blk.new' (wr.alloc (.cells #[.string rk, .int .i64 rst, .slice Ar rb.length cr, .bool rd] 27)) 27 #[.string rk, .int .i64 rst, .slice Ar rb.length cr, .bool rd] (n := wr.heap.size + 1) (by simp))
            have HSA := Lib.hid (ownsRow_only HSEL.out (((Only.refl NoneOf wr).alloc (.cells #[.string rk, .int .i64 rst, .slice Ar rb.length cr, .bool rd] 27)).alloc (.cells #[.string rk, .int .i64 rst, .slice Ar rb.length cr, .bool rd] 27)) (fun _ _ h => h))
            have hsz := HO.out.size
            go_wp2_with (first | (at_builtin; refine wpList_append_own_at _ rfl (.tmp 78) (.tmp 80) 31 rfl w3.heap.size 27 i0 _ 4 56 Try.underlying31 hi0 hz0 hz1 hz3 rfl (by decide) (.slice Ao sel.length co) sel.length (vflat sel) rfl HSA.out ⟨wr.heap.size + 1, 0, none⟩ 1 1 [.string rk, .int .i64 rst, .slice Ar rb.length cr, .bool rd] rfl rfl (World.news_of_block HN.out) (by simp [Value.oneCell']) (by unfold maxLen; omega) (by omega) (by simp; omega) ?_; intro v' w4 hown' hgr _ hat) | fail)
            have hg2 : Only NoneOf w3 w4 := (HO.out.alloc _ |>.alloc _).step (only_grown hgr) (fun k hk e => by have := (ownsRow_lt HSA.out e).1; omega)
            refine ⟨⟨j + 1, sel ++ [⟨rk, rst, .slice Ar rb.length cr, rb, rd⟩], by omega, by rw [show ((j + 1 : Nat) : Int) = (j : Int) + 1 by omega], hg2, by rw [List.length_append]; simpa [VRow.cells] using hown', by simp; omega, ?_, fun r hr' => ?_⟩, by simp [intOf]; omega⟩
            · rw [HTK.out, List.map_append, List.map_append, List.filter_append, HPS.out]
              simp [VRow.plain, HKK.out]
            · rcases List.mem_append.1 hr' with h | h
              · exact HSUB.out r h
              · obtain rfl : r = ⟨rk, rst, .slice Ar rb.length cr, rb, rd⟩ := by simpa using h
                exact HMEM.out
        · obtain rfl : j = rs.length := by omega
          rw [List.take_length, HPL.out, HAP.out.vers] at hpl
          have HLA := Lib.hid (listAt_rows hR (fun r hr' => ((HR.out.val r (hsub r hr')).only hO (fun _ _ h => h)).bytesV))
          have HO := Lib.hid hO
          have H2w := Lib.hid (H23.out.keep hO)
          have HPS := Lib.hid hpl
          have HVS2 := Lib.hid (versionsR wr t i T2 T1 R2 (H23.out.keep hO) (by unfold NMAX; omega))
          have hl2 := H23.out.len
          clear hlt hR hO hpl
          go_wp2_with fail
          refine HVS2.out.mono ?_; rintro e w5 ⟨v5, rs5, rfl, hr5, hpl5, ho5⟩
          have hfit : ∀ x ∈ versR R2, x.2.bs.length ≤ 4611686018427387904 := fun x hx => by
            have := H23.out.good.bs x (versR_mem hx)
            omega
          have HVA := Lib.hid (versions_alike w5 (.slice Ao sel.length co) v5 (versR R2) (versR R2) (by rw [← HPS.out]; exact HLA.out.keep (fun x cs => VerE.keep ho5 x cs) ho5) (by rw [← hpl5]; exact listAt_vers hr5) (by rw [versR_length]; omega) hfit)
          have HO5 := Lib.hid ((HO3.out.trans HO.out).trans ho5)
          have HFX := fun u => Lib.hid (fixed_is u)
          simp only [decide_true] at HVA
          clear hr5 hpl5 ho5
          go_wp2_with fail
          refine HVA.out.mono ?_; rintro e w6 ⟨rfl, hw6⟩
          have HO6 := Lib.hid (HO5.out.trans (drewN_only hw6))
          clear hw6
          go_wp2_with fail
          refine (HFX _).out.mono ?_; rintro e w7 ⟨rfl, ho7⟩
          have HO7 := Lib.hid (HO6.out.trans ho7)
          clear ho7
          go_wp2_with fail
          go_ret
          exact ⟨rfl, HO7.out⟩

end Go.Proofs.Ytnonnencdhogiaa

/-
  Layer 14's law StoreEarlier, plain: later versions are not seen.
-/
namespace Go.Proofs.Ytnonnencdhogiaa

theorem found_snoc {xs : List Ver} {v : Ver} {st : Int} (h : st < v.st) : found (xs ++ [v]) st = found xs st := by
  have : newest (xs ++ [v]) st = newest xs st := by
    unfold newest
    congr 1
    induction xs with
    | nil => simp only [List.nil_append, List.takeWhile_cons, List.takeWhile_nil]; rw [if_neg (by simp; omega)]
    | cons x xs ih => simp only [List.cons_append, List.takeWhile_cons]; split <;> simp [ih]
  unfold found
  rw [this]
theorem scan_new {R : List KV} {key : ByteArray} {v : Ver} {st : Int} (h : st < v.st) (fr tt : ByteArray) : scanR (R ++ [(key, v)]) fr tt st = scanR R fr tt st := by
  have hk : ∀ k, scanKey (verR (R ++ [(key, v)])) fr tt st k = scanKey (verR R) fr tt st k := fun k => by
    unfold scanKey
    have : found (verR (R ++ [(key, v)]) ⟨k.toArray⟩) st = found (verR R ⟨k.toArray⟩) st := by
      rw [verR_append, verR_one]
      split
      · exact found_snoc h
      · rw [List.append_nil]
    rw [this]
  have hf : scanKey (verR (R ++ [(key, v)])) fr tt st = scanKey (verR R) fr tt st := funext hk
  unfold scanR
  rw [hf]
  rcases keysR_snoc R key v with ⟨_, e⟩ | ⟨hn, hp⟩
  · rw [e]
  · have hnone : scanKey (verR R) fr tt st key.data.toList = none := by
      have hv : verR R (keyB key.data.toList) = [] := by
        cases hc : verR R (keyB key.data.toList) with
        | nil => rfl
        | cons y ys =>
          obtain ⟨z, hz⟩ := verR_ne.1 (show verR R (keyB key.data.toList) ≠ [] by rw [hc]; simp)
          exact absurd (keysR_mem.2 ⟨z, hz⟩) hn
      unfold scanKey
      rw [hv]
      split <;> rfl
    have hs : (keysR (R ++ [(key, v)])).filter (fun k => decide (k ≠ key.data.toList)) = keysR R := by
      refine sorted_unique _ _ ((keysR_sorted _).filter _) (keysR_sorted _) fun k => ?_
      rw [List.mem_filter, hp.mem_iff, List.mem_cons]
      constructor
      · rintro ⟨h | h, h2⟩
        · simp [h] at h2
        · exact h
      · intro hk'
        exact ⟨.inr hk', by simp only [decide_eq_true_eq]; exact fun e => hn (e ▸ hk')⟩
    rw [← hs]
    generalize keysR (R ++ [(key, v)]) = ks
    induction ks with
    | nil => rfl
    | cons k ks ih =>
      by_cases e : k = key.data.toList
      · subst e
        rw [List.filter_cons_of_neg (by simp), List.filterMap_cons, hnone]
        exact ih
      · rw [List.filter_cons_of_pos (by simpa using e), List.filterMap_cons, List.filterMap_cons, ih]
theorem earlier_ans {R : List KV} {key : ByteArray} {v : Ver} {x : Stp} (h : x.st < v.st) (hk : x.kind = 1 ∨ x.kind = 3) : ansR (afterR R key v) x = ansR R x := by
  unfold afterR
  split
  · unfold ansR
    rcases hk with e | e <;> simp only [e]
    · have : found (verR (R ++ [(key, v)]) x.key) x.st = found (verR R x.key) x.st := by
        rw [verR_append, verR_one]
        split
        · exact found_snoc h
        · rw [List.append_nil]
      simp [this]
    · simp [scan_new h]
  · rfl
theorem quiet_step {R : List KV} {x : Stp} (hk : x.kind = 1 ∨ x.kind = 3) : stepR R x = R := by
  unfold stepR
  rcases hk with e | e <;> simp [e]

end Go.Proofs.Ytnonnencdhogiaa

/-
  Layer 14's laws: the calls that ask and change nothing.
-/
namespace Go.Proofs.Ytnonnencdhogiaa
open Go.RowKit

/-- what a call told that changed nothing -/
def CallQ (R : List KV) (x : Stp) (w : World) (e : Ending) (w' : World) : Prop :=
  ∃ cs, e = .returned (.agg cs) ∧ TStay w.heap.size w' cs (ansR R x) ∧ Only NoneOf w w'

set_option maxRecDepth 100000 in
set_option maxHeartbeats 4000000 in
theorem callq_1 (w : World) (s N : Nat) (T U : Nat → Prop) (R : List KV) (h : StoR w s T U R N) (_ : N < NMAX) (x : Stp) (A : Option Addr) (cc : Nat) (hk : x.kind = 1) (hkey : x.key.size ≤ maxLen) (hby : BytesAt w A x.bs) :
    Calls Try.prog 17 #[.pointer (some ⟨s, 0, none⟩), .agg (stepC x.kind x.key x.st (.slice A x.bs.length cc) x.dead x.tt)] w (CallQ R x w) := by
  obtain ⟨kind, key, st, bs, dead, tt⟩ := x
  simp only at hk hkey hby ⊢
  subst hk
  obtain ⟨nn, hnn⟩ : ∃ nn, bs.length = nn := ⟨_, rfl⟩
  rw [hnn]
  have hlt := fun k hk => h.lt (k := k) hk
  have hO : Only NoneOf w (((w.alloc (.cells (stepC 1 key st (.slice A nn cc) dead tt) 29)).alloc (.cells (tellC 0 0 0 false (.slice none 0 0) (.slice none 0 0) (.slice none 0 0)) 33)).alloc (.cells (tellC 0 0 0 false (.slice none 0 0) (.slice none 0 0) (.slice none 0 0)) 33)) := (((Only.refl _ _).alloc _).alloc _).alloc _
  have hB3 := ((Blk.new w 29 (stepC 1 key st (.slice A nn cc) dead tt)).alloc (.cells (tellC 0 0 0 false (.slice none 0 0) (.slice none 0 0) (.slice none 0 0)) 33)).alloc (.cells (tellC 0 0 0 false (.slice none 0 0) (.slice none 0 0) (.slice none 0 0)) 33)
  have hB4 := (Blk.new' (w.alloc (.cells (stepC 1 key st (.slice A nn cc) dead tt) 29)) 33 (tellC 0 0 0 false (.slice none 0 0) (.slice none 0 0) (.slice none 0 0)) (n := w.heap.size + 1) (by simp)).alloc (.cells (tellC 0 0 0 false (.slice none 0 0) (.slice none 0 0) (.slice none 0 0)) 33)
  have hB5 := Blk.new' ((w.alloc (.cells (stepC 1 key st (.slice A nn cc) dead tt) 29)).alloc (.cells (tellC 0 0 0 false (.slice none 0 0) (.slice none 0 0) (.slice none 0 0)) 33)) 33 (tellC 0 0 0 false (.slice none 0 0) (.slice none 0 0) (.slice none 0 0)) (n := w.heap.size + 1 + 1) (by simp)
  have HO := Lib.hid hO
  have HS := Lib.hid (h.keep hO)
  have HB4 := Lib.hid hB4
  have HB5 := Lib.hid hB5
  have HBY := Lib.hid (hby.keep hO)
  have c0 := hB3.cellv 0 rfl
  have c1 := hB3.cellv 1 rfl
  have c2 := hB3.cellv 2 rfl
  have c3 := hB3.cellv 3 rfl
  have c4 := hB3.cellv 4 rfl
  have c5 := hB3.cellv 5 rfl
  have h0 := h
  clear hO hB3 hB4 hB5 hby h
  go_enter Try.func17, Try.ntmps17
  go_wp2_with fail
  refine (getR _ s N T _ R HS.out key st hkey).mono ?_; rintro e w4 ⟨hget, hO4⟩
  have HO4 := Lib.hid hO4
  have hsz4 := hO4.size
  have hz4 : w.heap.size + 3 ≤ w4.heap.size := by simpa using hsz4
  have B4 := HB4.out.only hO4 (fun h => h)
  have B5 := HB5.out.only hO4 (fun h => h)
  obtain ⟨f, hf⟩ : ∃ f, found (verR R key) st = f := ⟨_, rfl⟩
  rw [hf] at hget
  have HF := Lib.hid hf
  clear hf
  cases f with
  | none =>
    obtain rfl := hget
    have f4 := B5.free 4
    have k4 := B5.cellv 4 rfl
    have f3 := B5.free 3
    have k3 := B5.cellv 3 rfl
    have F5 := Lib.hid ((B5.put 4 (.slice none 0 0)).put 3 (.bool false))
    have F4 := Lib.hid ((B4.far (p := ⟨w.heap.size + 1 + 1, 4, none⟩) (by simp) (.slice none 0 0)).far (p := ⟨w.heap.size + 1 + 1, 3, none⟩) (by simp) (.bool false))
    have FR := Lib.hid (F4.out.row #[.int .i64 0, .int .i64 0, .int .i64 0, .bool false, .slice none 0 0, .slice none 0 0, .slice none 0 0])
    have FO := Lib.hid ((((Only.refl (fun k => k = w.heap.size + 1 ∨ k = w.heap.size + 1 + 1) w4).put (p := ⟨w.heap.size + 1 + 1, 4, none⟩) (.inl (.inr rfl)) (.slice none 0 0)).put (p := ⟨w.heap.size + 1 + 1, 3, none⟩) (.inl (.inr rfl)) (.bool false)).row (b := w.heap.size + 1) (.inl (.inl rfl)) #[.int .i64 0, .int .i64 0, .int .i64 0, .bool false, .slice none 0 0, .slice none 0 0, .slice none 0 0])
    clear B4 B5 hO4
    go_wp2_with (first | (refine wpList_load_row rfl 33 (.tmp 5) rfl (w.heap.size + 1 + 1) rfl 33 _ (0, 0) _ F5.out Try.underlying33 rfl info33 ?_) | (refine wpList_store_row rfl 33 (.tmp 4) (.tmp 82) rfl (w.heap.size + 1) #[.int .i64 0, .int .i64 0, .int .i64 0, .bool false, .slice none 0 0, .slice none 0 0, .slice none 0 0] rfl rfl 33 (tellC 0 0 0 false (.slice none 0 0) (.slice none 0 0) (.slice none 0 0)) F4.out info33 rfl (by simp [Value.oneCell']) ?_) | fail)
    refine bodyPost_ret (v := .agg #[.int .i64 0, .int .i64 0, .int .i64 0, .bool false, .slice none 0 0, .slice none 0 0, .slice none 0 0]) (results_cell_row rfl _ _ _ 33 _ (0, 0) _ rfl FR.out Try.underlying33 rfl info33) rfl ⟨_, rfl, ?_, ?_⟩
    · have e : ansR R ⟨1, key, st, bs, dead, tt⟩ = {} := by simp [ansR, HF.out]
      rw [e]
      exact tstay_plain _ _ _ _ _ _
    · exact ((HO.out.trans HO4.out).step FO.out (fun k hk e => by omega))
  | some b =>
    obtain ⟨vb, rfl, hvb⟩ := hget
    obtain ⟨Ab, cb, rfl⟩ := ownsRow_slice hvb
    have HVB := Lib.hid hvb
    clear hvb
    have f4 := B5.free 4
    have k4 := B5.cellv 4 rfl
    have f3 := B5.free 3
    have k3 := B5.cellv 3 rfl
    have F5 := Lib.hid ((B5.put 4 (.slice Ab b.length cb)).put 3 (.bool true))
    have F4 := Lib.hid ((B4.far (p := ⟨w.heap.size + 1 + 1, 4, none⟩) (by simp) (.slice Ab b.length cb)).far (p := ⟨w.heap.size + 1 + 1, 3, none⟩) (by simp) (.bool true))
    have FR := Lib.hid (F4.out.row #[.int .i64 0, .int .i64 0, .int .i64 0, .bool true, .slice Ab b.length cb, .slice none 0 0, .slice none 0 0])
    have FO := Lib.hid ((((Only.refl (fun k => k = w.heap.size + 1 ∨ k = w.heap.size + 1 + 1) w4).put (p := ⟨w.heap.size + 1 + 1, 4, none⟩) (.inl (.inr rfl)) (.slice Ab b.length cb)).put (p := ⟨w.heap.size + 1 + 1, 3, none⟩) (.inl (.inr rfl)) (.bool true)).row (b := w.heap.size + 1) (.inl (.inl rfl)) #[.int .i64 0, .int .i64 0, .int .i64 0, .bool true, .slice Ab b.length cb, .slice none 0 0, .slice none 0 0])
    clear B4 B5 hO4
    go_wp2_with (first | (refine wpList_load_row rfl 33 (.tmp 5) rfl (w.heap.size + 1 + 1) rfl 33 _ (0, 0) _ F5.out Try.underlying33 rfl info33 ?_) | (refine wpList_store_row rfl 33 (.tmp 4) (.tmp 82) rfl (w.heap.size + 1) #[.int .i64 0, .int .i64 0, .int .i64 0, .bool true, .slice Ab b.length cb, .slice none 0 0, .slice none 0 0] rfl rfl 33 (tellC 0 0 0 false (.slice none 0 0) (.slice none 0 0) (.slice none 0 0)) F4.out info33 rfl (by simp [Value.oneCell']) ?_) | fail)
    refine bodyPost_ret (v := .agg #[.int .i64 0, .int .i64 0, .int .i64 0, .bool true, .slice Ab b.length cb, .slice none 0 0, .slice none 0 0]) (results_cell_row rfl _ _ _ 33 _ (0, 0) _ rfl FR.out Try.underlying33 rfl info33) rfl ⟨_, rfl, ?_, ?_⟩
    · have e : ansR R ⟨1, key, st, bs, dead, tt⟩ = { b := b, is := true } := by simp [ansR, HF.out]
      rw [e]
      intro S w'' hS hlow
      have hsz3 : w.heap.size + 3 ≤ (((w.alloc (.cells (stepC 1 key st (.slice A nn cc) dead tt) 29)).alloc (.cells (tellC 0 0 0 false (.slice none 0 0) (.slice none 0 0) (.slice none 0 0)) 33)).alloc (.cells (tellC 0 0 0 false (.slice none 0 0) (.slice none 0 0) (.slice none 0 0)) 33)).heap.size := by simp
      have hlo := fun g hg => (ownsRow_lt HVB.out (g := g) hg).1
      exact ⟨_, _, _, rfl, ((HVB.out.only FO.out (fun g hg e => by have := hlo g hg; omega)).only hS (fun g hg e => by have := hlo g hg; have := hlow g e; omega)).bytesV, listAt_nil _ _ _, listAt_nil _ _ _⟩
    · exact ((HO.out.trans HO4.out).step FO.out (fun k hk e => by omega))

set_option maxRecDepth 100000 in
set_option maxHeartbeats 4000000 in
theorem callq_3 (w : World) (s N : Nat) (T U : Nat → Prop) (R : List KV) (h : StoR w s T U R N) (hN : N < NMAX) (x : Stp) (A : Option Addr) (cc : Nat) (hk : x.kind = 3) (hkey : x.key.size ≤ maxLen) (hby : BytesAt w A x.bs) :
    Calls Try.prog 17 #[.pointer (some ⟨s, 0, none⟩), .agg (stepC x.kind x.key x.st (.slice A x.bs.length cc) x.dead x.tt)] w (CallQ R x w) := by
  obtain ⟨kind, key, st, bs, dead, tt⟩ := x
  simp only at hk hkey hby ⊢
  subst hk
  obtain ⟨nn, hnn⟩ : ∃ nn, bs.length = nn := ⟨_, rfl⟩
  rw [hnn]
  have hlt := fun k hk => h.lt (k := k) hk
  have hO : Only NoneOf w (((w.alloc (.cells (stepC 3 key st (.slice A nn cc) dead tt) 29)).alloc (.cells (tellC 0 0 0 false (.slice none 0 0) (.slice none 0 0) (.slice none 0 0)) 33)).alloc (.cells (tellC 0 0 0 false (.slice none 0 0) (.slice none 0 0) (.slice none 0 0)) 33)) := (((Only.refl _ _).alloc _).alloc _).alloc _
  have hB3 := ((Blk.new w 29 (stepC 3 key st (.slice A nn cc) dead tt)).alloc (.cells (tellC 0 0 0 false (.slice none 0 0) (.slice none 0 0) (.slice none 0 0)) 33)).alloc (.cells (tellC 0 0 0 false (.slice none 0 0) (.slice none 0 0) (.slice none 0 0)) 33)
  have hB4 := (Blk.new' (w.alloc (.cells (stepC 3 key st (.slice A nn cc) dead tt) 29)) 33 (tellC 0 0 0 false (.slice none 0 0) (.slice none 0 0) (.slice none 0 0)) (n := w.heap.size + 1) (by simp)).alloc (.cells (tellC 0 0 0 false (.slice none 0 0) (.slice none 0 0) (.slice none 0 0)) 33)
  have hB5 := Blk.new' ((w.alloc (.cells (stepC 3 key st (.slice A nn cc) dead tt) 29)).alloc (.cells (tellC 0 0 0 false (.slice none 0 0) (.slice none 0 0) (.slice none 0 0)) 33)) 33 (tellC 0 0 0 false (.slice none 0 0) (.slice none 0 0) (.slice none 0 0)) (n := w.heap.size + 1 + 1) (by simp)
  have HO := Lib.hid hO
  have HS := Lib.hid (h.keep hO)
  have HB4 := Lib.hid hB4
  have HB5 := Lib.hid hB5
  have HBY := Lib.hid (hby.keep hO)
  have c0 := hB3.cellv 0 rfl
  have c1 := hB3.cellv 1 rfl
  have c2 := hB3.cellv 2 rfl
  have c3 := hB3.cellv 3 rfl
  have c4 := hB3.cellv 4 rfl
  have c5 := hB3.cellv 5 rfl
  have h0 := h
  clear hO hB3 hB4 hB5 hby h
  go_enter Try.func17, Try.ntmps17
  go_wp2_with fail
  refine (scannedR _ s N T _ R HS.out (by omega) key tt st).mono ?_; rintro e w4 ⟨vp, rs, rfl, hvb, hpl, hO4⟩
  have HO4 := Lib.hid hO4
  have hsz4 := hO4.size
  have hz4 : w.heap.size + 3 ≤ w4.heap.size := by simpa using hsz4
  have B4 := HB4.out.only hO4 (fun h => h)
  have B5 := HB5.out.only hO4 (fun h => h)
  obtain ⟨Ab, cb, rfl⟩ := ownsRow_slice hvb.own
  have HVB := Lib.hid hvb
  have HPL := Lib.hid hpl
  clear hvb hpl
  have f5 := B5.free 5
  have k5 := B5.cellv 5 rfl
  have F5 := Lib.hid (B5.put 5 (.slice Ab rs.length cb))
  have F4 := Lib.hid (B4.far (p := ⟨w.heap.size + 1 + 1, 5, none⟩) (by simp) (.slice Ab rs.length cb))
  have FR := Lib.hid (F4.out.row #[.int .i64 0, .int .i64 0, .int .i64 0, .bool false, .slice none 0 0, .slice Ab rs.length cb, .slice none 0 0])
  have FO := Lib.hid (((Only.refl (fun k => k = w.heap.size + 1 ∨ k = w.heap.size + 1 + 1) w4).put (p := ⟨w.heap.size + 1 + 1, 5, none⟩) (.inl (.inr rfl)) (.slice Ab rs.length cb)).row (b := w.heap.size + 1) (.inl (.inl rfl)) #[.int .i64 0, .int .i64 0, .int .i64 0, .bool false, .slice none 0 0, .slice Ab rs.length cb, .slice none 0 0])
  clear B4 B5 hO4
  go_wp2_with (first | (refine wpList_load_row rfl 33 (.tmp 5) rfl (w.heap.size + 1 + 1) rfl 33 _ (0, 0) _ F5.out Try.underlying33 rfl info33 ?_) | (refine wpList_store_row rfl 33 (.tmp 4) (.tmp 82) rfl (w.heap.size + 1) #[.int .i64 0, .int .i64 0, .int .i64 0, .bool false, .slice none 0 0, .slice Ab rs.length cb, .slice none 0 0] rfl rfl 33 (tellC 0 0 0 false (.slice none 0 0) (.slice none 0 0) (.slice none 0 0)) F4.out info33 rfl (by simp [Value.oneCell']) ?_) | fail)
  refine bodyPost_ret (v := .agg #[.int .i64 0, .int .i64 0, .int .i64 0, .bool false, .slice none 0 0, .slice Ab rs.length cb, .slice none 0 0]) (results_cell_row rfl _ _ _ 33 _ (0, 0) _ rfl FR.out Try.underlying33 rfl info33) rfl ⟨_, rfl, ?_, ?_⟩
  · have e : ansR R ⟨3, key, st, bs, dead, tt⟩ = { pairs := rs.map PRow.plain } := by simp [ansR, HPL.out]
    rw [e]
    intro S w'' hS hlow
    have hsz3 : w.heap.size + 3 ≤ (((w.alloc (.cells (stepC 3 key st (.slice A nn cc) dead tt) 29)).alloc (.cells (tellC 0 0 0 false (.slice none 0 0) (.slice none 0 0) (.slice none 0 0)) 33)).alloc (.cells (tellC 0 0 0 false (.slice none 0 0) (.slice none 0 0) (.slice none 0 0)) 33)).heap.size := by simp
    have hlo := fun g hg => (HVB.out.lt (k := g) hg).1
    exact ⟨_, _, _, rfl, bytesV_nil _, listAt_pairs ((HVB.out.only FO.out (fun g hg e => by have := hlo g hg; omega)).only hS (fun g hg e => by have := hlo g hg; have := hlow g e; omega)), listAt_nil _ _ _⟩
  · exact ((HO.out.trans HO4.out).step FO.out (fun k hk e => by omega))

theorem callq (w : World) (s N : Nat) (T U : Nat → Prop) (R : List KV) (h : StoR w s T U R N) (hN : N < NMAX) (x : Stp) (A : Option Addr) (cc : Nat) (hk : x.kind = 1 ∨ x.kind = 3) (hkey : x.key.size ≤ maxLen) (hby : BytesAt w A x.bs) :
    Calls Try.prog 17 #[.pointer (some ⟨s, 0, none⟩), .agg (stepC x.kind x.key x.st (.slice A x.bs.length cc) x.dead x.tt)] w (CallQ R x w) :=
  hk.elim (fun hk => callq_1 w s N T U R h hN x A cc hk hkey hby) (fun hk => callq_3 w s N T U R h hN x A cc hk hkey hby)

end Go.Proofs.Ytnonnencdhogiaa

/-
  Layer 14's law StoreEarlier walked.
-/
namespace Go.Proofs.Ytnonnencdhogiaa
open Go.RowKit

/-- two stores beside one another, and a call's row -/
structure QG (w0 : World) (s t : Nat) (T1 T2 : Nat → Prop) (R1 R2 : List KV) (N b : Nat) (row : Array Value) (w : World) : Prop where
  one : StoR w s T1 T2 R1 N
  two : StoR w t T2 T1 R2 N
  only : Only NoneOf w0 w
  row : Blk w b 29 row
theorem QG.keep {w0 : World} {s t : Nat} {T1 T2 : Nat → Prop} {R1 R2 : List KV} {N b : Nat} {row : Array Value} {w w' : World} (h : QG w0 s t T1 T2 R1 R2 N b row w) (ho : Only NoneOf w w') : QG w0 s t T1 T2 R1 R2 N b row w' :=
  ⟨h.one.keep ho, h.two.keep ho, h.only.trans ho, h.row.only ho (fun h => h)⟩
theorem quiet_tell {u : World} {s N : Nat} {T U : Nat → Prop} {R : List KV} (h : StoR u s T U R N) (x : Stp) (A : Option Addr) (cc : Nat) (hN : N < NMAX) (hk : x.kind = 1 ∨ x.kind = 3) (hkey : x.key.size ≤ maxLen) (hby : BytesAt u A x.bs) :
    Calls Try.prog 17 #[.pointer (some ⟨s, 0, none⟩), .agg (stepC x.kind x.key x.st (.slice A x.bs.length cc) x.dead x.tt)] u fun e w' => ∃ v, e = .returned v ∧ TellV 0 (ansR R x) v w' ∧ Only NoneOf u w' :=
  (callq u s N T U R h hN x A cc hk hkey hby).mono fun _ _ ⟨cs, he, hst, ho⟩ => ⟨_, he, ⟨cs, rfl, hst.low (Nat.zero_le _)⟩, ho⟩

/-- the values of StoreEarlier's question -/
def EarT (x : Stp) (vst : Int) (A : Option Addr) (c s t b10 b4 : Nat) (R1 R2 : List KV) (B1 B2 B3 g : Bool) : Nat → Value → World → Prop
  | 0, v, _ => v = .pointer (some ⟨b10, 1, none⟩)
  | 1, v, _ => v = .pointer (some ⟨b10, 2, none⟩)
  | 2, v, _ => v = .int .i64 x.st
  | 3, v, _ => v = .pointer (some ⟨b4, 1, none⟩)
  | 4, v, _ => v = .int .i64 vst
  | 5, v, _ => v = .bool B1
  | 6, v, _ => v = .bool B1
  | 7, v, _ => v = cond B1 (.pointer (some ⟨b10, 0, none⟩)) undef
  | 8, v, _ => v = cond B1 (.int .i64 x.kind) undef
  | 9, v, _ => v = cond B1 (.bool B2) undef
  | 10, v, _ => v = cond B1 (.bool B2) undef
  | 11, v, _ => v = cond (B1 && !B2) (.pointer (some ⟨b10, 0, none⟩)) undef
  | 12, v, _ => v = cond (B1 && !B2) (.int .i64 x.kind) undef
  | 13, v, _ => v = cond (B1 && !B2) (.bool B3) undef
  | 14, v, _ => v = cond B1 (.bool (B2 || B3)) undef
  | 15, v, _ => v = .bool g
  | 16, v, _ => v = .bool g
  | 17, v, _ => v = cond g (.pointer (some ⟨s, 0, none⟩)) undef
  | 18, v, _ => v = cond g (.agg (stepC x.kind x.key x.st (.slice A x.bs.length c) x.dead x.tt)) undef
  | 19, v, w => cond g (TellV 0 (ansR R1 x) v w) (v = undef)
  | 20, v, _ => v = cond g (.pointer (some ⟨t, 0, none⟩)) undef
  | 21, v, _ => v = cond g (.agg (stepC x.kind x.key x.st (.slice A x.bs.length c) x.dead x.tt)) undef
  | 22, v, w => cond g (TellV 0 (ansR R2 x) v w) (v = undef)
  | 23, v, _ => v = cond g (.bool true) undef
  | 24, v, _ => v = cond g (.bool false) undef
  | 25, v, _ => v = .bool false
  | _, _, _ => True
theorem EarT_keep (x : Stp) (vst : Int) (A : Option Addr) (c s t b10 b4 : Nat) (R1 R2 : List KV) (B1 B2 B3 g : Bool) (i : Nat) (v : Value) (w w' : World) (h : EarT x vst A c s t b10 b4 R1 R2 B1 B2 B3 g i v w) (ho : Only NoneOf w w') : EarT x vst A c s t b10 b4 R1 R2 B1 B2 B3 g i v w' := by
  have tell : ∀ R, cond g (TellV 0 (ansR R x) v w) (v = undef) → cond g (TellV 0 (ansR R x) v w') (v = undef) := fun R h => by
    cases g
    · exact h
    · obtain ⟨cs, h1, h2⟩ := h
      exact ⟨cs, h1, h2.keep ho⟩
  match i, h with
  | 0, h | 1, h | 2, h | 3, h | 4, h | 5, h | 6, h | 7, h | 8, h | 9, h | 10, h | 11, h | 12, h | 13, h | 14, h | 15, h | 16, h | 17, h | 18, h | 20, h | 21, h | 23, h | 24, h | 25, h => exact h
  | 19, h => exact tell _ h
  | 22, h => exact tell _ h
  | _ + 26, _ => exact trivial

/-- the loop over what is asked -/
def EarRel (w0 : World) (s t : Nat) (T1 T2 : Nat → Prop) (R1 R2 : List KV) (N n : Nat) (v : Value) (wr : World) : Prop := ∃ i : Nat, v = .int .i64 i ∧ i ≤ n ∧ StoR wr s T1 T2 R1 N ∧ StoR wr t T2 T1 R2 N ∧ Only NoneOf w0 wr

set_option maxRecDepth 100000 in
set_option maxHeartbeats 8000000 in
theorem earlier_walk (A : Option Addr) (cap : Nat) (vs : List KV) (key : ByteArray) (st : Int) (Av : Option Addr) (cv : Nat) (bs : List UInt8) (dead : Bool) (A3 : Option Addr) (cap3 : Nat) (xs : List Stp) (w : World)
    (hV : VersAt w A vs) (hfv : vs.length ≤ 2513169434843) (hby : BytesAt w Av bs) (hX : StepsAt w A3 xs) (hfx : xs.length ≤ 1759218604390) :
    Calls Try.prog 6 #[.slice A vs.length cap, .agg (verC key st (.slice Av bs.length cv) dead), .slice A3 xs.length cap3] w (Ans (.bool true) w) := by
  have HV := Lib.hid hV
  have HX := Lib.hid hX
  have HBY := Lib.hid hby
  obtain ⟨n, hn⟩ : ∃ n, xs.length = n := ⟨_, rfl⟩
  have HN := Lib.hid hn
  rw [hn] at hfx ⊢
  obtain ⟨nv, hnv⟩ : ∃ nv, vs.length = nv := ⟨_, rfl⟩
  have HNV := Lib.hid hnv
  rw [hnv] at hfv ⊢
  obtain ⟨nb, hnb⟩ : ∃ nb, bs.length = nb := ⟨_, rfl⟩
  have HNB := Lib.hid hnb
  rw [hnb] at ⊢
  clear hV hX hby hn hnv hnb
  have HFX := fun u => Lib.hid (fixed_is u)
  go_enter Try.func6, Try.ntmps6
  go_wp2_with fail
  refine (HFX _).out.mono ?_; rintro e w1 ⟨rfl, ho1⟩
  have HO1 := Lib.hid (((Only.refl NoneOf w).alloc (.cells (verC key st (.slice Av nb cv) dead) 27)).trans ho1)
  have HB1 := Lib.hid ((Blk.new w 27 (verC key st (.slice Av nb cv) dead)).only ho1 (fun h => h))
  have HF1 := filled_is w1 A cap vs NoneOf (HV.out.keep HO1.out) (by rw [HNV.out]; exact hfv) (fun _ h => h.elim)
  rw [HNV.out] at HF1
  have HF1 := Lib.hid HF1
  clear ho1
  go_wp2_with fail
  refine HF1.out.mono ?_; rintro e w2 ⟨s, T1, rfl, h1, ho2, ht1⟩
  have HF2 := filled_is w2 A cap vs T1 (HV.out.keep (HO1.out.trans ho2)) (by rw [HNV.out]; exact hfv) (fun k hk => h1.lt hk)
  rw [HNV.out] at HF2
  have HF2 := Lib.hid HF2
  have H1 := Lib.hid h1
  have HO2 := Lib.hid ho2
  have HT1 := Lib.hid ht1
  clear h1 ho2 ht1 HF1
  go_wp2_with fail
  refine HF2.out.mono ?_; rintro e w3 ⟨t, T2, rfl, h2, ho3, ht2⟩
  have HTW := Lib.hid (show TwoSt w1 s t (fillR vs) (fillR vs) nv w3 from by
    rw [← HNV.out]
    exact ⟨T1, T2, H1.out.other ho3 (fun _ h => h.elim) (fun k hk => ⟨h2.lt hk, .inr (ht2 k hk)⟩), h2, HO2.out.trans ho3, HT1.out, fun k hk => Nat.le_trans HO2.out.size (ht2 k hk)⟩)
  have HO3 := Lib.hid (HO2.out.trans ho3)
  have HB3 := Lib.hid (HB1.out.only HO3.out (fun h => h))
  have c0 := HB3.out.cellv 0 rfl
  have c1 := HB3.out.cellv 1 rfl
  have c2 := HB3.out.cellv 2 rfl
  have c3 := HB3.out.cellv 3 rfl
  have HAP := Lib.hid (two_apply HTW.out (by unfold NMAX; omega) key st Av nb cv dead bs HNB.out (HBY.out.keep (HO1.out.trans HO3.out)))
  clear h2 ho3 ht2 HF2 H1 HT1 HO2
  go_wp2_with fail
  refine HAP.out.mono ?_; rintro e w4 ⟨rfl, T1', T2', h1, h2, h3, h4, h5⟩
  have H1 := Lib.hid h1
  have H2 := Lib.hid h2
  have HO4 := Lib.hid (HO1.out.trans h3)
  have HB4 := Lib.hid (HB1.out.only h3 (fun h => h))
  clear h1 h2 h3 h4 h5 c0 c1 c2 c3 HTW HAP HB3 HO3
  go_wp2_with fail
  go_loopw [22] (fun v wr => EarRel w4 s t T1' T2' (afterR (fillR vs) key ⟨st, bs, dead⟩) (fillR vs) (nv + 1) n v wr) (fun v _ => n - (intOf v).toNat)
  case atStart => exact ⟨0, rfl, by omega, H1.out, H2.out, Only.refl _ _⟩
  case round =>
    obtain ⟨i, rfl, hi, h1, h2, hO⟩ := hrel
    have HO := Lib.hid hO
    have HS1 := Lib.hid h1
    have HS2 := Lib.hid h2
    clear hO h1 h2
    by_cases hlt : i < n
    · have hx : xs[i]? = some (xs[i]'(by rw [HN.out]; exact hlt)) := List.getElem?_eq_getElem _
      generalize xs[i]'(by rw [HN.out]; exact hlt) = x at hx
      obtain ⟨g, off, Ab, cb, rfl, hg, d0, d1, d2, d3, d4, d5, hbx, hks⟩ := (HX.out.keep (HO4.out.trans HO.out)) i x hx
      have HBX := Lib.hid hbx
      have hal : Only NoneOf wr (wr.alloc (.cells (stepC x.kind x.key x.st (.slice Ab x.bs.length cb) x.dead x.tt) 29)) := (Only.refl _ _).alloc _
      have HG0 := Lib.hid (show QG wr s t T1' T2' (afterR (fillR vs) key ⟨st, bs, dead⟩) (fillR vs) (nv + 1) wr.heap.size (stepC x.kind x.key x.st (.slice Ab x.bs.length cb) x.dead x.tt) (wr.alloc (.cells (stepC x.kind x.key x.st (.slice Ab x.bs.length cb) x.dead x.tt) 29)) from
        ⟨HS1.out.keep hal, HS2.out.keep hal, hal, Blk.new _ _ _⟩)
      have HBW := Lib.hid (HB4.out.only HO.out (fun h => h))
      have HF := Lib.hid (ansR_fit HS1.out (by unfold NMAX; omega) x)
      have hend : ∀ u, QG wr s t T1' T2' (afterR (fillR vs) key ⟨st, bs, dead⟩) (fillR vs) (nv + 1) wr.heap.size (stepC x.kind x.key x.st (.slice Ab x.bs.length cb) x.dead x.tt) u →
          EarRel w4 s t T1' T2' (afterR (fillR vs) key ⟨st, bs, dead⟩) (fillR vs) (nv + 1) n (.int .i64 ((i : Int) + 1)) u := fun u h => ⟨i + 1, by rw [show ((i + 1 : Nat) : Int) = (i : Int) + 1 by omega], by omega, h.one, h.two, HO.out.trans h.only⟩
      have HEND := Lib.hid hend
      clear hbx hal hend hx
      cases q1 : decide (x.st < st)
      · go_upto_region 8 with (fail)
        refine wp_region_head2 26 53 [6, 10, 16] (fun g => match g with | 6 => some false | 16 => some false | _ => none) (fun _ => none) NoneOf (fun _ => QG wr s t T1' T2' (afterR (fillR vs) key ⟨st, bs, dead⟩) (fillR vs) (nv + 1) wr.heap.size (stepC x.kind x.key x.st (.slice Ab x.bs.length cb) x.dead x.tt)) (EarT x st Ab cb s t wr.heap.size w.heap.size (afterR (fillR vs) key ⟨st, bs, dead⟩) (fillR vs) false false false false) rfl (by kernel_rfl) (by kernel_rfl) ?hskip ?hgv (EarT_keep _ _ _ _ _ _ _ _ _ _ _ _ _ _) (HG0.out.keep ((Only.refl _ _).drew)) ?hstep ?hend
        case hskip =>
          intro i o hi ho hw k
          have : i = 0 ∨ i = 1 ∨ i = 2 ∨ i = 3 ∨ i = 4 ∨ i = 5 ∨ i = 6 ∨ i = 7 ∨ i = 8 ∨ i = 9 ∨ i = 10 ∨ i = 11 ∨ i = 12 ∨ i = 13 ∨ i = 14 ∨ i = 15 ∨ i = 16 ∨ i = 17 ∨ i = 18 ∨ i = 19 ∨ i = 20 ∨ i = 21 ∨ i = 22 ∨ i = 23 ∨ i = 24 ∨ i = 25 := by omega
          rcases this with rfl | rfl | rfl | rfl | rfl | rfl | rfl | rfl | rfl | rfl | rfl | rfl | rfl | rfl | rfl | rfl | rfl | rfl | rfl | rfl | rfl | rfl | rfl | rfl | rfl | rfl
          · rfl
          · rfl
          · rfl
          · rfl
          · rfl
          · rfl
          · rfl
          · rfl
          · rfl
          · rfl
          · rfl
          · rfl
          · rfl
          · rfl
          · rfl
          · rfl
          · rfl
          · rfl
          · rfl
          · rfl
          · rfl
          · rfl
          · rfl
          · rfl
          · rfl
          · rfl
        case hgv =>
          intro g hg v w h
          have : g = 6 ∨ g = 10 ∨ g = 16 := by simpa using hg
          rcases this with rfl | rfl | rfl
          · obtain rfl : v = .bool false := h; rfl
          · obtain rfl : v = undef := h; rfl
          · obtain rfl : v = .bool false := h; rfl
        case hstep =>
          intro i o hi ho a u k hk hik hs ht
          have e7 : a.tmps.getD 7 undef = .pointer (some ⟨s, 0, none⟩) := hs 7 (of_decide_eq_true (by kernel_rfl))
          have e8 : a.tmps.getD 8 undef = .pointer (some ⟨t, 0, none⟩) := hs 8 (of_decide_eq_true (by kernel_rfl))
          have e10 : a.tmps.getD 10 undef = .pointer (some ⟨wr.heap.size, 0, none⟩) := hs 10 (of_decide_eq_true (by kernel_rfl))
          have e4 : a.tmps.getD 4 undef = .pointer (some ⟨w.heap.size, 0, none⟩) := hs 4 (of_decide_eq_true (by kernel_rfl))
          have F4 := HBW.out.only hk.only (fun h => h)
          have d0 := hk.row.cellv 0 rfl
          have d2 := hk.row.cellv 2 rfl
          have c1 := F4.cellv 1 rfl
          have : i = 0 ∨ i = 1 ∨ i = 2 ∨ i = 3 ∨ i = 4 ∨ i = 5 ∨ i = 6 ∨ i = 7 ∨ i = 8 ∨ i = 9 ∨ i = 10 ∨ i = 11 ∨ i = 12 ∨ i = 13 ∨ i = 14 ∨ i = 15 ∨ i = 16 ∨ i = 17 ∨ i = 18 ∨ i = 19 ∨ i = 20 ∨ i = 21 ∨ i = 22 ∨ i = 23 ∨ i = 24 ∨ i = 25 := by omega
          rcases this with rfl | rfl | rfl | rfl | rfl | rfl | rfl | rfl | rfl | rfl | rfl | rfl | rfl | rfl | rfl | rfl | rfl | rfl | rfl | rfl | rfl | rfl | rfl | rfl | rfl | rfl
          · obtain rfl := Option.some.inj (ho : some _ = some o)
            rw [if_pos (by decide)]
            exact left2_value (.pointer (some ⟨wr.heap.size, 1, none⟩)) (by simp [go_sem, e10]) rfl rfl hk
          · obtain rfl := Option.some.inj (ho : some _ = some o)
            rw [if_pos (by decide)]
            have s0 : a.tmps.getD 26 undef = .pointer (some ⟨wr.heap.size, 1, none⟩) := ht 0 (by omega) (by kernel_rfl)
            exact left2_value (.pointer (some ⟨wr.heap.size, 2, none⟩)) (by simp [go_sem, s0]) rfl rfl hk
          · obtain rfl := Option.some.inj (ho : some _ = some o)
            rw [if_pos (by decide)]
            have s1 : a.tmps.getD 27 undef = .pointer (some ⟨wr.heap.size, 2, none⟩) := ht 1 (by omega) (by kernel_rfl)
            exact left2_value (.int .i64 x.st) (by simp [go_sem, s1, d2]) rfl rfl hk
          · obtain rfl := Option.some.inj (ho : some _ = some o)
            rw [if_pos (by decide)]
            exact left2_value (.pointer (some ⟨w.heap.size, 1, none⟩)) (by simp [go_sem, e4]) rfl rfl hk
          · obtain rfl := Option.some.inj (ho : some _ = some o)
            rw [if_pos (by decide)]
            have s3 : a.tmps.getD 29 undef = .pointer (some ⟨w.heap.size, 1, none⟩) := ht 3 (by omega) (by kernel_rfl)
            exact left2_value (.int .i64 st) (by simp [go_sem, s3, c1]) rfl rfl hk
          · obtain rfl := Option.some.inj (ho : some _ = some o)
            rw [if_pos (by decide)]
            have s2 : a.tmps.getD 28 undef = .int .i64 x.st := ht 2 (by omega) (by kernel_rfl)
            have s4 : a.tmps.getD 30 undef = .int .i64 st := ht 4 (by omega) (by kernel_rfl)
            exact left2_value (.bool false) (by simp [go_sem, s2, s4, q1]) rfl rfl hk
          · obtain rfl := Option.some.inj (ho : some _ = some o)
            rw [if_pos (by decide)]
            have s5 : a.tmps.getD 31 undef = .bool false := ht 5 (by omega) (by kernel_rfl)
            exact left2_value (.bool false) (by simp [go_sem, s5]) rfl rfl hk
          · obtain rfl := Option.some.inj (ho : some _ = some o)
            rw [if_neg (by decide)]
            exact rfl
          · obtain rfl := Option.some.inj (ho : some _ = some o)
            rw [if_neg (by decide)]
            exact rfl
          · obtain rfl := Option.some.inj (ho : some _ = some o)
            rw [if_neg (by decide)]
            exact rfl
          · obtain rfl := Option.some.inj (ho : some _ = some o)
            rw [if_neg (by decide)]
            exact rfl
          · obtain rfl := Option.some.inj (ho : some _ = some o)
            rw [if_neg (by decide)]
            exact rfl
          · obtain rfl := Option.some.inj (ho : some _ = some o)
            rw [if_neg (by decide)]
            exact rfl
          · obtain rfl := Option.some.inj (ho : some _ = some o)
            rw [if_neg (by decide)]
            exact rfl
          · obtain rfl := Option.some.inj (ho : some _ = some o)
            rw [if_neg (by decide)]
            exact rfl
          · obtain rfl := Option.some.inj (ho : some _ = some o)
            rw [if_pos (by decide)]
            have s6 : a.tmps.getD 32 undef = .bool false := ht 6 (by omega) (by kernel_rfl)
            have s14 : a.tmps.getD 40 undef = undef := ht 14 (by omega) (by kernel_rfl)
            exact left2_value (.bool false) (by simp [go_sem, s6, s14]) rfl rfl hk
          · obtain rfl := Option.some.inj (ho : some _ = some o)
            rw [if_pos (by decide)]
            have s10 : a.tmps.getD 36 undef = undef := ht 10 (by omega) (by kernel_rfl)
            have s15 : a.tmps.getD 41 undef = .bool false := ht 15 (by omega) (by kernel_rfl)
            exact left2_value (.bool false) (by simp [go_sem, s15]) rfl rfl hk
          · obtain rfl := Option.some.inj (ho : some _ = some o)
            rw [if_neg (by decide)]
            exact rfl
          · obtain rfl := Option.some.inj (ho : some _ = some o)
            rw [if_neg (by decide)]
            exact rfl
          · obtain rfl := Option.some.inj (ho : some _ = some o)
            rw [if_neg (by decide)]
            exact rfl
          · obtain rfl := Option.some.inj (ho : some _ = some o)
            rw [if_neg (by decide)]
            exact rfl
          · obtain rfl := Option.some.inj (ho : some _ = some o)
            rw [if_neg (by decide)]
            exact rfl
          · obtain rfl := Option.some.inj (ho : some _ = some o)
            rw [if_neg (by decide)]
            exact rfl
          · obtain rfl := Option.some.inj (ho : some _ = some o)
            rw [if_neg (by decide)]
            exact rfl
          · obtain rfl := Option.some.inj (ho : some _ = some o)
            rw [if_neg (by decide)]
            exact rfl
          · obtain rfl := Option.some.inj (ho : some _ = some o)
            rw [if_pos (by decide)]
            have s16 : a.tmps.getD 42 undef = .bool false := ht 16 (by omega) (by kernel_rfl)
            have s24 : a.tmps.getD 50 undef = undef := ht 24 (by omega) (by kernel_rfl)
            exact left2_value (.bool false) (by simp [go_sem, s16, s24]) rfl rfl hk
        case hend =>
          intro V' u k hk hkt hV'
          have v0 : V' 0 = .pointer (some ⟨wr.heap.size, 1, none⟩) := hV' 0 (by omega)
          have v1 : V' 1 = .pointer (some ⟨wr.heap.size, 2, none⟩) := hV' 1 (by omega)
          have v2 : V' 2 = .int .i64 x.st := hV' 2 (by omega)
          have v3 : V' 3 = .pointer (some ⟨w.heap.size, 1, none⟩) := hV' 3 (by omega)
          have v4 : V' 4 = .int .i64 st := hV' 4 (by omega)
          have v5 : V' 5 = .bool false := hV' 5 (by omega)
          have v6 : V' 6 = .bool false := hV' 6 (by omega)
          have v7 : V' 7 = undef := hV' 7 (by omega)
          have v8 : V' 8 = undef := hV' 8 (by omega)
          have v9 : V' 9 = undef := hV' 9 (by omega)
          have v10 : V' 10 = undef := hV' 10 (by omega)
          have v11 : V' 11 = undef := hV' 11 (by omega)
          have v12 : V' 12 = undef := hV' 12 (by omega)
          have v13 : V' 13 = undef := hV' 13 (by omega)
          have v14 : V' 14 = undef := hV' 14 (by omega)
          have v15 : V' 15 = .bool false := hV' 15 (by omega)
          have v16 : V' 16 = .bool false := hV' 16 (by omega)
          have v17 : V' 17 = undef := hV' 17 (by omega)
          have v18 : V' 18 = undef := hV' 18 (by omega)
          have v19 : V' 19 = undef := hV' 19 (by omega)
          have v20 : V' 20 = undef := hV' 20 (by omega)
          have v21 : V' 21 = undef := hV' 21 (by omega)
          have v22 : V' 22 = undef := hV' 22 (by omega)
          have v23 : V' 23 = undef := hV' 23 (by omega)
          have v24 : V' 24 = undef := hV' 24 (by omega)
          have v25 : V' 25 = .bool false := hV' 25 (by omega)
          change wpList _ _ _ _ (Act.put (Act.put (Act.put (Act.put (Act.put (Act.put (Act.put (Act.put (Act.put (Act.put (Act.put (Act.put (Act.put (Act.put (Act.put (Act.put (Act.put (Act.put (Act.put (Act.put (Act.put (Act.put (Act.put (Act.put (Act.put (Act.put _ (some 26) (V' 0)) (some 27) (V' 1)) (some 28) (V' 2)) (some 29) (V' 3)) (some 30) (V' 4)) (some 31) (V' 5)) (some 32) (V' 6)) (some 33) (V' 7)) (some 34) (V' 8)) (some 35) (V' 9)) (some 36) (V' 10)) (some 37) (V' 11)) (some 38) (V' 12)) (some 39) (V' 13)) (some 40) (V' 14)) (some 41) (V' 15)) (some 42) (V' 16)) (some 43) (V' 17)) (some 44) (V' 18)) (some 45) (V' 19)) (some 46) (V' 20)) (some 47) (V' 21)) (some 48) (V' 22)) (some 49) (V' 23)) (some 50) (V' 24)) (some 51) (V' 25)) _
          rw [v0, v1, v2, v3, v4, v5, v6, v7, v8, v9, v10, v11, v12, v13, v14, v15, v16, v17, v18, v19, v20, v21, v22, v23, v24, v25]
          simp only [Act.put, List.setIfInBounds_toArray, List.set_cons_zero, List.set_cons_succ]
          simp only [List.drop_succ_cons, List.drop_zero]
          clear hV' v0 v1 v2 v3 v4 v5 v6 v7 v8 v9 v10 v11 v12 v13 v14 v15 v16 v17 v18 v19 v20 v21 v22 v23 v24 v25
          have HU := Lib.hid (HEND.out u hk)
          clear hk hkt
          go_wp2_with fail
          exact ⟨HU.out, by simp [intOf]; omega⟩
      · have HLT := Lib.hid (of_decide_eq_true q1)
        cases q2 : (x.kind == 1)
        · cases q3 : (x.kind == 3)
          · go_upto_region 8 with (fail)
            refine wp_region_head2 26 53 [6, 10, 16] (fun g => match g with | 6 => some true | 10 => some false | 16 => some false | _ => none) (fun _ => none) NoneOf (fun _ => QG wr s t T1' T2' (afterR (fillR vs) key ⟨st, bs, dead⟩) (fillR vs) (nv + 1) wr.heap.size (stepC x.kind x.key x.st (.slice Ab x.bs.length cb) x.dead x.tt)) (EarT x st Ab cb s t wr.heap.size w.heap.size (afterR (fillR vs) key ⟨st, bs, dead⟩) (fillR vs) true false false false) rfl (by kernel_rfl) (by kernel_rfl) ?hskip ?hgv (EarT_keep _ _ _ _ _ _ _ _ _ _ _ _ _ _) (HG0.out.keep ((Only.refl _ _).drew)) ?hstep ?hend
            case hskip =>
              intro i o hi ho hw k
              have : i = 0 ∨ i = 1 ∨ i = 2 ∨ i = 3 ∨ i = 4 ∨ i = 5 ∨ i = 6 ∨ i = 7 ∨ i = 8 ∨ i = 9 ∨ i = 10 ∨ i = 11 ∨ i = 12 ∨ i = 13 ∨ i = 14 ∨ i = 15 ∨ i = 16 ∨ i = 17 ∨ i = 18 ∨ i = 19 ∨ i = 20 ∨ i = 21 ∨ i = 22 ∨ i = 23 ∨ i = 24 ∨ i = 25 := by omega
              rcases this with rfl | rfl | rfl | rfl | rfl | rfl | rfl | rfl | rfl | rfl | rfl | rfl | rfl | rfl | rfl | rfl | rfl | rfl | rfl | rfl | rfl | rfl | rfl | rfl | rfl | rfl
              · rfl
              · rfl
              · rfl
              · rfl
              · rfl
              · rfl
              · rfl
              · rfl
              · rfl
              · rfl
              · rfl
              · rfl
              · rfl
              · rfl
              · rfl
              · rfl
              · rfl
              · rfl
              · rfl
              · rfl
              · rfl
              · rfl
              · rfl
              · rfl
              · rfl
              · rfl
            case hgv =>
              intro g hg v w h
              have : g = 6 ∨ g = 10 ∨ g = 16 := by simpa using hg
              rcases this with rfl | rfl | rfl
              · obtain rfl : v = .bool true := h; rfl
              · obtain rfl : v = .bool false := h; rfl
              · obtain rfl : v = .bool false := h; rfl
            case hstep =>
              intro i o hi ho a u k hk hik hs ht
              have e7 : a.tmps.getD 7 undef = .pointer (some ⟨s, 0, none⟩) := hs 7 (of_decide_eq_true (by kernel_rfl))
              have e8 : a.tmps.getD 8 undef = .pointer (some ⟨t, 0, none⟩) := hs 8 (of_decide_eq_true (by kernel_rfl))
              have e10 : a.tmps.getD 10 undef = .pointer (some ⟨wr.heap.size, 0, none⟩) := hs 10 (of_decide_eq_true (by kernel_rfl))
              have e4 : a.tmps.getD 4 undef = .pointer (some ⟨w.heap.size, 0, none⟩) := hs 4 (of_decide_eq_true (by kernel_rfl))
              have F4 := HBW.out.only hk.only (fun h => h)
              have d0 := hk.row.cellv 0 rfl
              have d2 := hk.row.cellv 2 rfl
              have c1 := F4.cellv 1 rfl
              have : i = 0 ∨ i = 1 ∨ i = 2 ∨ i = 3 ∨ i = 4 ∨ i = 5 ∨ i = 6 ∨ i = 7 ∨ i = 8 ∨ i = 9 ∨ i = 10 ∨ i = 11 ∨ i = 12 ∨ i = 13 ∨ i = 14 ∨ i = 15 ∨ i = 16 ∨ i = 17 ∨ i = 18 ∨ i = 19 ∨ i = 20 ∨ i = 21 ∨ i = 22 ∨ i = 23 ∨ i = 24 ∨ i = 25 := by omega
              rcases this with rfl | rfl | rfl | rfl | rfl | rfl | rfl | rfl | rfl | rfl | rfl | rfl | rfl | rfl | rfl | rfl | rfl | rfl | rfl | rfl | rfl | rfl | rfl | rfl | rfl | rfl
              · obtain rfl := Option.some.inj (ho : some _ = some o)
                rw [if_pos (by decide)]
                exact left2_value (.pointer (some ⟨wr.heap.size, 1, none⟩)) (by simp [go_sem, e10]) rfl rfl hk
              · obtain rfl := Option.some.inj (ho : some _ = some o)
                rw [if_pos (by decide)]
                have s0 : a.tmps.getD 26 undef = .pointer (some ⟨wr.heap.size, 1, none⟩) := ht 0 (by omega) (by kernel_rfl)
                exact left2_value (.pointer (some ⟨wr.heap.size, 2, none⟩)) (by simp [go_sem, s0]) rfl rfl hk
              · obtain rfl := Option.some.inj (ho : some _ = some o)
                rw [if_pos (by decide)]
                have s1 : a.tmps.getD 27 undef = .pointer (some ⟨wr.heap.size, 2, none⟩) := ht 1 (by omega) (by kernel_rfl)
                exact left2_value (.int .i64 x.st) (by simp [go_sem, s1, d2]) rfl rfl hk
              · obtain rfl := Option.some.inj (ho : some _ = some o)
                rw [if_pos (by decide)]
                exact left2_value (.pointer (some ⟨w.heap.size, 1, none⟩)) (by simp [go_sem, e4]) rfl rfl hk
              · obtain rfl := Option.some.inj (ho : some _ = some o)
                rw [if_pos (by decide)]
                have s3 : a.tmps.getD 29 undef = .pointer (some ⟨w.heap.size, 1, none⟩) := ht 3 (by omega) (by kernel_rfl)
                exact left2_value (.int .i64 st) (by simp [go_sem, s3, c1]) rfl rfl hk
              · obtain rfl := Option.some.inj (ho : some _ = some o)
                rw [if_pos (by decide)]
                have s2 : a.tmps.getD 28 undef = .int .i64 x.st := ht 2 (by omega) (by kernel_rfl)
                have s4 : a.tmps.getD 30 undef = .int .i64 st := ht 4 (by omega) (by kernel_rfl)
                exact left2_value (.bool true) (by simp [go_sem, s2, s4, q1]) rfl rfl hk
              · obtain rfl := Option.some.inj (ho : some _ = some o)
                rw [if_pos (by decide)]
                have s5 : a.tmps.getD 31 undef = .bool true := ht 5 (by omega) (by kernel_rfl)
                exact left2_value (.bool true) (by simp [go_sem, s5]) rfl rfl hk
              · obtain rfl := Option.some.inj (ho : some _ = some o)
                rw [if_pos (by decide)]
                exact left2_value (.pointer (some ⟨wr.heap.size, 0, none⟩)) (by simp [go_sem, e10]) rfl rfl hk
              · obtain rfl := Option.some.inj (ho : some _ = some o)
                rw [if_pos (by decide)]
                have s7 : a.tmps.getD 33 undef = .pointer (some ⟨wr.heap.size, 0, none⟩) := ht 7 (by omega) (by kernel_rfl)
                exact left2_value (.int .i64 x.kind) (by simp [go_sem, s7, d0]) rfl rfl hk
              · obtain rfl := Option.some.inj (ho : some _ = some o)
                rw [if_pos (by decide)]
                have s8 : a.tmps.getD 34 undef = .int .i64 x.kind := ht 8 (by omega) (by kernel_rfl)
                exact left2_value (.bool false) (by simp [go_sem, s8, q2]) rfl rfl hk
              · obtain rfl := Option.some.inj (ho : some _ = some o)
                rw [if_pos (by decide)]
                have s6 : a.tmps.getD 32 undef = .bool true := ht 6 (by omega) (by kernel_rfl)
                have s9 : a.tmps.getD 35 undef = .bool false := ht 9 (by omega) (by kernel_rfl)
                exact left2_value (.bool false) (by simp [go_sem, s9]) rfl rfl hk
              · obtain rfl := Option.some.inj (ho : some _ = some o)
                rw [if_pos (by decide)]
                exact left2_value (.pointer (some ⟨wr.heap.size, 0, none⟩)) (by simp [go_sem, e10]) rfl rfl hk
              · obtain rfl := Option.some.inj (ho : some _ = some o)
                rw [if_pos (by decide)]
                have s11 : a.tmps.getD 37 undef = .pointer (some ⟨wr.heap.size, 0, none⟩) := ht 11 (by omega) (by kernel_rfl)
                exact left2_value (.int .i64 x.kind) (by simp [go_sem, s11, d0]) rfl rfl hk
              · obtain rfl := Option.some.inj (ho : some _ = some o)
                rw [if_pos (by decide)]
                have s12 : a.tmps.getD 38 undef = .int .i64 x.kind := ht 12 (by omega) (by kernel_rfl)
                exact left2_value (.bool false) (by simp [go_sem, s12, q3]) rfl rfl hk
              · obtain rfl := Option.some.inj (ho : some _ = some o)
                rw [if_pos (by decide)]
                have s10 : a.tmps.getD 36 undef = .bool false := ht 10 (by omega) (by kernel_rfl)
                have s13 : a.tmps.getD 39 undef = .bool false := ht 13 (by omega) (by kernel_rfl)
                exact left2_value (.bool false) (by simp [go_sem, s10, s13]) rfl rfl hk
              · obtain rfl := Option.some.inj (ho : some _ = some o)
                rw [if_pos (by decide)]
                have s6 : a.tmps.getD 32 undef = .bool true := ht 6 (by omega) (by kernel_rfl)
                have s14 : a.tmps.getD 40 undef = .bool false := ht 14 (by omega) (by kernel_rfl)
                exact left2_value (.bool false) (by simp [go_sem, s6, s14]) rfl rfl hk
              · obtain rfl := Option.some.inj (ho : some _ = some o)
                rw [if_pos (by decide)]
                have s10 : a.tmps.getD 36 undef = .bool false := ht 10 (by omega) (by kernel_rfl)
                have s15 : a.tmps.getD 41 undef = .bool false := ht 15 (by omega) (by kernel_rfl)
                exact left2_value (.bool false) (by simp [go_sem, s15]) rfl rfl hk
              · obtain rfl := Option.some.inj (ho : some _ = some o)
                rw [if_neg (by decide)]
                exact rfl
              · obtain rfl := Option.some.inj (ho : some _ = some o)
                rw [if_neg (by decide)]
                exact rfl
              · obtain rfl := Option.some.inj (ho : some _ = some o)
                rw [if_neg (by decide)]
                exact rfl
              · obtain rfl := Option.some.inj (ho : some _ = some o)
                rw [if_neg (by decide)]
                exact rfl
              · obtain rfl := Option.some.inj (ho : some _ = some o)
                rw [if_neg (by decide)]
                exact rfl
              · obtain rfl := Option.some.inj (ho : some _ = some o)
                rw [if_neg (by decide)]
                exact rfl
              · obtain rfl := Option.some.inj (ho : some _ = some o)
                rw [if_neg (by decide)]
                exact rfl
              · obtain rfl := Option.some.inj (ho : some _ = some o)
                rw [if_neg (by decide)]
                exact rfl
              · obtain rfl := Option.some.inj (ho : some _ = some o)
                rw [if_pos (by decide)]
                have s16 : a.tmps.getD 42 undef = .bool false := ht 16 (by omega) (by kernel_rfl)
                have s24 : a.tmps.getD 50 undef = undef := ht 24 (by omega) (by kernel_rfl)
                exact left2_value (.bool false) (by simp [go_sem, s16, s24]) rfl rfl hk
            case hend =>
              intro V' u k hk hkt hV'
              have v0 : V' 0 = .pointer (some ⟨wr.heap.size, 1, none⟩) := hV' 0 (by omega)
              have v1 : V' 1 = .pointer (some ⟨wr.heap.size, 2, none⟩) := hV' 1 (by omega)
              have v2 : V' 2 = .int .i64 x.st := hV' 2 (by omega)
              have v3 : V' 3 = .pointer (some ⟨w.heap.size, 1, none⟩) := hV' 3 (by omega)
              have v4 : V' 4 = .int .i64 st := hV' 4 (by omega)
              have v5 : V' 5 = .bool true := hV' 5 (by omega)
              have v6 : V' 6 = .bool true := hV' 6 (by omega)
              have v7 : V' 7 = .pointer (some ⟨wr.heap.size, 0, none⟩) := hV' 7 (by omega)
              have v8 : V' 8 = .int .i64 x.kind := hV' 8 (by omega)
              have v9 : V' 9 = .bool false := hV' 9 (by omega)
              have v10 : V' 10 = .bool false := hV' 10 (by omega)
              have v11 : V' 11 = .pointer (some ⟨wr.heap.size, 0, none⟩) := hV' 11 (by omega)
              have v12 : V' 12 = .int .i64 x.kind := hV' 12 (by omega)
              have v13 : V' 13 = .bool false := hV' 13 (by omega)
              have v14 : V' 14 = .bool false := hV' 14 (by omega)
              have v15 : V' 15 = .bool false := hV' 15 (by omega)
              have v16 : V' 16 = .bool false := hV' 16 (by omega)
              have v17 : V' 17 = undef := hV' 17 (by omega)
              have v18 : V' 18 = undef := hV' 18 (by omega)
              have v19 : V' 19 = undef := hV' 19 (by omega)
              have v20 : V' 20 = undef := hV' 20 (by omega)
              have v21 : V' 21 = undef := hV' 21 (by omega)
              have v22 : V' 22 = undef := hV' 22 (by omega)
              have v23 : V' 23 = undef := hV' 23 (by omega)
              have v24 : V' 24 = undef := hV' 24 (by omega)
              have v25 : V' 25 = .bool false := hV' 25 (by omega)
              change wpList _ _ _ _ (Act.put (Act.put (Act.put (Act.put (Act.put (Act.put (Act.put (Act.put (Act.put (Act.put (Act.put (Act.put (Act.put (Act.put (Act.put (Act.put (Act.put (Act.put (Act.put (Act.put (Act.put (Act.put (Act.put (Act.put (Act.put (Act.put _ (some 26) (V' 0)) (some 27) (V' 1)) (some 28) (V' 2)) (some 29) (V' 3)) (some 30) (V' 4)) (some 31) (V' 5)) (some 32) (V' 6)) (some 33) (V' 7)) (some 34) (V' 8)) (some 35) (V' 9)) (some 36) (V' 10)) (some 37) (V' 11)) (some 38) (V' 12)) (some 39) (V' 13)) (some 40) (V' 14)) (some 41) (V' 15)) (some 42) (V' 16)) (some 43) (V' 17)) (some 44) (V' 18)) (some 45) (V' 19)) (some 46) (V' 20)) (some 47) (V' 21)) (some 48) (V' 22)) (some 49) (V' 23)) (some 50) (V' 24)) (some 51) (V' 25)) _
              rw [v0, v1, v2, v3, v4, v5, v6, v7, v8, v9, v10, v11, v12, v13, v14, v15, v16, v17, v18, v19, v20, v21, v22, v23, v24, v25]
              simp only [Act.put, List.setIfInBounds_toArray, List.set_cons_zero, List.set_cons_succ]
              simp only [List.drop_succ_cons, List.drop_zero]
              clear hV' v0 v1 v2 v3 v4 v5 v6 v7 v8 v9 v10 v11 v12 v13 v14 v15 v16 v17 v18 v19 v20 v21 v22 v23 v24 v25
              have HU := Lib.hid (HEND.out u hk)
              clear hk hkt
              go_wp2_with fail
              exact ⟨HU.out, by simp [intOf]; omega⟩
          · have hkd : x.kind = 1 ∨ x.kind = 3 := .inr (eq_of_beq q3)
            have HAN := Lib.hid (earlier_ans (R := fillR vs) (key := key) (v := ⟨st, bs, dead⟩) HLT.out hkd)
            have HKD := Lib.hid hkd
            clear hkd
            go_upto_region 8 with (fail)
            refine wp_region_head2 26 53 [6, 10, 16] (fun g => match g with | 6 => some true | 10 => some false | 16 => some true | _ => none) (fun _ => none) NoneOf (fun _ => QG wr s t T1' T2' (afterR (fillR vs) key ⟨st, bs, dead⟩) (fillR vs) (nv + 1) wr.heap.size (stepC x.kind x.key x.st (.slice Ab x.bs.length cb) x.dead x.tt)) (EarT x st Ab cb s t wr.heap.size w.heap.size (afterR (fillR vs) key ⟨st, bs, dead⟩) (fillR vs) true false true true) rfl (by kernel_rfl) (by kernel_rfl) ?hskip ?hgv (EarT_keep _ _ _ _ _ _ _ _ _ _ _ _ _ _) (HG0.out.keep ((Only.refl _ _).drew)) ?hstep ?hend
            case hskip =>
              intro i o hi ho hw k
              have : i = 0 ∨ i = 1 ∨ i = 2 ∨ i = 3 ∨ i = 4 ∨ i = 5 ∨ i = 6 ∨ i = 7 ∨ i = 8 ∨ i = 9 ∨ i = 10 ∨ i = 11 ∨ i = 12 ∨ i = 13 ∨ i = 14 ∨ i = 15 ∨ i = 16 ∨ i = 17 ∨ i = 18 ∨ i = 19 ∨ i = 20 ∨ i = 21 ∨ i = 22 ∨ i = 23 ∨ i = 24 ∨ i = 25 := by omega
              rcases this with rfl | rfl | rfl | rfl | rfl | rfl | rfl | rfl | rfl | rfl | rfl | rfl | rfl | rfl | rfl | rfl | rfl | rfl | rfl | rfl | rfl | rfl | rfl | rfl | rfl | rfl
              · rfl
              · rfl
              · rfl
              · rfl
              · rfl
              · rfl
              · rfl
              · rfl
              · rfl
              · rfl
              · rfl
              · rfl
              · rfl
              · rfl
              · rfl
              · rfl
              · rfl
              · rfl
              · rfl
              · rfl
              · rfl
              · rfl
              · rfl
              · rfl
              · rfl
              · rfl
            case hgv =>
              intro g hg v w h
              have : g = 6 ∨ g = 10 ∨ g = 16 := by simpa using hg
              rcases this with rfl | rfl | rfl
              · obtain rfl : v = .bool true := h; rfl
              · obtain rfl : v = .bool false := h; rfl
              · obtain rfl : v = .bool true := h; rfl
            case hstep =>
              intro i o hi ho a u k hk hik hs ht
              have e7 : a.tmps.getD 7 undef = .pointer (some ⟨s, 0, none⟩) := hs 7 (of_decide_eq_true (by kernel_rfl))
              have e8 : a.tmps.getD 8 undef = .pointer (some ⟨t, 0, none⟩) := hs 8 (of_decide_eq_true (by kernel_rfl))
              have e10 : a.tmps.getD 10 undef = .pointer (some ⟨wr.heap.size, 0, none⟩) := hs 10 (of_decide_eq_true (by kernel_rfl))
              have e4 : a.tmps.getD 4 undef = .pointer (some ⟨w.heap.size, 0, none⟩) := hs 4 (of_decide_eq_true (by kernel_rfl))
              have F4 := HBW.out.only hk.only (fun h => h)
              have d0 := hk.row.cellv 0 rfl
              have d2 := hk.row.cellv 2 rfl
              have c1 := F4.cellv 1 rfl
              have : i = 0 ∨ i = 1 ∨ i = 2 ∨ i = 3 ∨ i = 4 ∨ i = 5 ∨ i = 6 ∨ i = 7 ∨ i = 8 ∨ i = 9 ∨ i = 10 ∨ i = 11 ∨ i = 12 ∨ i = 13 ∨ i = 14 ∨ i = 15 ∨ i = 16 ∨ i = 17 ∨ i = 18 ∨ i = 19 ∨ i = 20 ∨ i = 21 ∨ i = 22 ∨ i = 23 ∨ i = 24 ∨ i = 25 := by omega
              rcases this with rfl | rfl | rfl | rfl | rfl | rfl | rfl | rfl | rfl | rfl | rfl | rfl | rfl | rfl | rfl | rfl | rfl | rfl | rfl | rfl | rfl | rfl | rfl | rfl | rfl | rfl
              · obtain rfl := Option.some.inj (ho : some _ = some o)
                rw [if_pos (by decide)]
                exact left2_value (.pointer (some ⟨wr.heap.size, 1, none⟩)) (by simp [go_sem, e10]) rfl rfl hk
              · obtain rfl := Option.some.inj (ho : some _ = some o)
                rw [if_pos (by decide)]
                have s0 : a.tmps.getD 26 undef = .pointer (some ⟨wr.heap.size, 1, none⟩) := ht 0 (by omega) (by kernel_rfl)
                exact left2_value (.pointer (some ⟨wr.heap.size, 2, none⟩)) (by simp [go_sem, s0]) rfl rfl hk
              · obtain rfl := Option.some.inj (ho : some _ = some o)
                rw [if_pos (by decide)]
                have s1 : a.tmps.getD 27 undef = .pointer (some ⟨wr.heap.size, 2, none⟩) := ht 1 (by omega) (by kernel_rfl)
                exact left2_value (.int .i64 x.st) (by simp [go_sem, s1, d2]) rfl rfl hk
              · obtain rfl := Option.some.inj (ho : some _ = some o)
                rw [if_pos (by decide)]
                exact left2_value (.pointer (some ⟨w.heap.size, 1, none⟩)) (by simp [go_sem, e4]) rfl rfl hk
              · obtain rfl := Option.some.inj (ho : some _ = some o)
                rw [if_pos (by decide)]
                have s3 : a.tmps.getD 29 undef = .pointer (some ⟨w.heap.size, 1, none⟩) := ht 3 (by omega) (by kernel_rfl)
                exact left2_value (.int .i64 st) (by simp [go_sem, s3, c1]) rfl rfl hk
              · obtain rfl := Option.some.inj (ho : some _ = some o)
                rw [if_pos (by decide)]
                have s2 : a.tmps.getD 28 undef = .int .i64 x.st := ht 2 (by omega) (by kernel_rfl)
                have s4 : a.tmps.getD 30 undef = .int .i64 st := ht 4 (by omega) (by kernel_rfl)
                exact left2_value (.bool true) (by simp [go_sem, s2, s4, q1]) rfl rfl hk
              · obtain rfl := Option.some.inj (ho : some _ = some o)
                rw [if_pos (by decide)]
                have s5 : a.tmps.getD 31 undef = .bool true := ht 5 (by omega) (by kernel_rfl)
                exact left2_value (.bool true) (by simp [go_sem, s5]) rfl rfl hk
              · obtain rfl := Option.some.inj (ho : some _ = some o)
                rw [if_pos (by decide)]
                exact left2_value (.pointer (some ⟨wr.heap.size, 0, none⟩)) (by simp [go_sem, e10]) rfl rfl hk
              · obtain rfl := Option.some.inj (ho : some _ = some o)
                rw [if_pos (by decide)]
                have s7 : a.tmps.getD 33 undef = .pointer (some ⟨wr.heap.size, 0, none⟩) := ht 7 (by omega) (by kernel_rfl)
                exact left2_value (.int .i64 x.kind) (by simp [go_sem, s7, d0]) rfl rfl hk
              · obtain rfl := Option.some.inj (ho : some _ = some o)
                rw [if_pos (by decide)]
                have s8 : a.tmps.getD 34 undef = .int .i64 x.kind := ht 8 (by omega) (by kernel_rfl)
                exact left2_value (.bool false) (by simp [go_sem, s8, q2]) rfl rfl hk
              · obtain rfl := Option.some.inj (ho : some _ = some o)
                rw [if_pos (by decide)]
                have s6 : a.tmps.getD 32 undef = .bool true := ht 6 (by omega) (by kernel_rfl)
                have s9 : a.tmps.getD 35 undef = .bool false := ht 9 (by omega) (by kernel_rfl)
                exact left2_value (.bool false) (by simp [go_sem, s9]) rfl rfl hk
              · obtain rfl := Option.some.inj (ho : some _ = some o)
                rw [if_pos (by decide)]
                exact left2_value (.pointer (some ⟨wr.heap.size, 0, none⟩)) (by simp [go_sem, e10]) rfl rfl hk
              · obtain rfl := Option.some.inj (ho : some _ = some o)
                rw [if_pos (by decide)]
                have s11 : a.tmps.getD 37 undef = .pointer (some ⟨wr.heap.size, 0, none⟩) := ht 11 (by omega) (by kernel_rfl)
                exact left2_value (.int .i64 x.kind) (by simp [go_sem, s11, d0]) rfl rfl hk
              · obtain rfl := Option.some.inj (ho : some _ = some o)
                rw [if_pos (by decide)]
                have s12 : a.tmps.getD 38 undef = .int .i64 x.kind := ht 12 (by omega) (by kernel_rfl)
                exact left2_value (.bool true) (by simp [go_sem, s12, q3]) rfl rfl hk
              · obtain rfl := Option.some.inj (ho : some _ = some o)
                rw [if_pos (by decide)]
                have s10 : a.tmps.getD 36 undef = .bool false := ht 10 (by omega) (by kernel_rfl)
                have s13 : a.tmps.getD 39 undef = .bool true := ht 13 (by omega) (by kernel_rfl)
                exact left2_value (.bool true) (by simp [go_sem, s10, s13]) rfl rfl hk
              · obtain rfl := Option.some.inj (ho : some _ = some o)
                rw [if_pos (by decide)]
                have s6 : a.tmps.getD 32 undef = .bool true := ht 6 (by omega) (by kernel_rfl)
                have s14 : a.tmps.getD 40 undef = .bool true := ht 14 (by omega) (by kernel_rfl)
                exact left2_value (.bool true) (by simp [go_sem, s6, s14]) rfl rfl hk
              · obtain rfl := Option.some.inj (ho : some _ = some o)
                rw [if_pos (by decide)]
                have s10 : a.tmps.getD 36 undef = .bool false := ht 10 (by omega) (by kernel_rfl)
                have s15 : a.tmps.getD 41 undef = .bool true := ht 15 (by omega) (by kernel_rfl)
                exact left2_value (.bool true) (by simp [go_sem, s15]) rfl rfl hk
              · obtain rfl := Option.some.inj (ho : some _ = some o)
                rw [if_pos (by decide)]
                exact left2_value (.pointer (some ⟨s, 0, none⟩)) (by simp [go_sem, e7]) rfl rfl hk
              · obtain rfl := Option.some.inj (ho : some _ = some o)
                rw [if_pos (by decide)]
                exact left2_load 29 (.tmp 10) wr.heap.size 29 _ _ rfl e10 hk.row Try.underlying29 rfl info29 rfl rfl hk
              · obtain rfl := Option.some.inj (ho : some _ = some o)
                rw [if_pos (by decide)]
                have s16 : a.tmps.getD 42 undef = .bool true := ht 16 (by omega) (by kernel_rfl)
                have s17 : a.tmps.getD 43 undef = .pointer (some ⟨s, 0, none⟩) := ht 17 (by omega) (by kernel_rfl)
                have s17c : a.tmps.getD 43 undef = .pointer (some ⟨s, 0, none⟩) := ht 17 (by omega) (by kernel_rfl)
                have s18c : a.tmps.getD 44 undef = .agg (stepC x.kind x.key x.st (.slice Ab x.bs.length cb) x.dead x.tt) := ht 18 (by omega) (by kernel_rfl)
                exact left2_calls 17 #[.pointer (some ⟨s, 0, none⟩), .agg (stepC x.kind x.key x.st (.slice Ab x.bs.length cb) x.dead x.tt)] (by simp [go_sem, s17c, s18c]) (quiet_tell hk.one x Ab cb (by unfold NMAX; omega) HKD.out hks (HBX.out.keep hk.only)) rfl (fun w' ho => hk.keep ho)
              · obtain rfl := Option.some.inj (ho : some _ = some o)
                rw [if_pos (by decide)]
                exact left2_value (.pointer (some ⟨t, 0, none⟩)) (by simp [go_sem, e8]) rfl rfl hk
              · obtain rfl := Option.some.inj (ho : some _ = some o)
                rw [if_pos (by decide)]
                exact left2_load 29 (.tmp 10) wr.heap.size 29 _ _ rfl e10 hk.row Try.underlying29 rfl info29 rfl rfl hk
              · obtain rfl := Option.some.inj (ho : some _ = some o)
                rw [if_pos (by decide)]
                have s20 : a.tmps.getD 46 undef = .pointer (some ⟨t, 0, none⟩) := ht 20 (by omega) (by kernel_rfl)
                have s20c : a.tmps.getD 46 undef = .pointer (some ⟨t, 0, none⟩) := ht 20 (by omega) (by kernel_rfl)
                have s21c : a.tmps.getD 47 undef = .agg (stepC x.kind x.key x.st (.slice Ab x.bs.length cb) x.dead x.tt) := ht 21 (by omega) (by kernel_rfl)
                exact left2_calls 17 #[.pointer (some ⟨t, 0, none⟩), .agg (stepC x.kind x.key x.st (.slice Ab x.bs.length cb) x.dead x.tt)] (by simp [go_sem, s20c, s21c]) (quiet_tell hk.two x Ab cb (by unfold NMAX; omega) HKD.out hks (HBX.out.keep hk.only)) rfl (fun w' ho => hk.keep ho)
              · obtain rfl := Option.some.inj (ho : some _ = some o)
                rw [if_pos (by decide)]
                obtain ⟨cs0, s19c, hs0⟩ : TellV 0 (ansR (afterR (fillR vs) key ⟨st, bs, dead⟩) x) (a.tmps.getD 45 undef) u := ht 19 (by omega) (by kernel_rfl)
                obtain ⟨cs1, s22c, hs1⟩ : TellV 0 (ansR (fillR vs) x) (a.tmps.getD 48 undef) u := ht 22 (by omega) (by kernel_rfl)
                exact left2_calls 16 #[.agg cs0, .agg cs1] (by simp [go_sem, s19c, s22c]) ((alike_same u cs0 cs1 _ HF.out hs0.at (by rw [HAN.out]; exact hs1.at)).mono (fun e w' ⟨he, ho⟩ => ⟨_, he, rfl, ho⟩)) rfl (fun w' ho => hk.keep ho)
              · obtain rfl := Option.some.inj (ho : some _ = some o)
                rw [if_pos (by decide)]
                have s23c : a.tmps.getD 49 undef = .bool true := ht 23 (by omega) (by kernel_rfl)
                exact left2_value (.bool false) (by simp [go_sem, s23c]) rfl rfl hk
              · obtain rfl := Option.some.inj (ho : some _ = some o)
                rw [if_pos (by decide)]
                have s16 : a.tmps.getD 42 undef = .bool true := ht 16 (by omega) (by kernel_rfl)
                have s24c : a.tmps.getD 50 undef = .bool false := ht 24 (by omega) (by kernel_rfl)
                have s16c : a.tmps.getD 42 undef = .bool true := ht 16 (by omega) (by kernel_rfl)
                exact left2_value (.bool false) (by simp [go_sem, s24c, s16c]) rfl rfl hk
            case hend =>
              intro V' u k hk hkt hV'
              have v0 : V' 0 = .pointer (some ⟨wr.heap.size, 1, none⟩) := hV' 0 (by omega)
              have v1 : V' 1 = .pointer (some ⟨wr.heap.size, 2, none⟩) := hV' 1 (by omega)
              have v2 : V' 2 = .int .i64 x.st := hV' 2 (by omega)
              have v3 : V' 3 = .pointer (some ⟨w.heap.size, 1, none⟩) := hV' 3 (by omega)
              have v4 : V' 4 = .int .i64 st := hV' 4 (by omega)
              have v5 : V' 5 = .bool true := hV' 5 (by omega)
              have v6 : V' 6 = .bool true := hV' 6 (by omega)
              have v7 : V' 7 = .pointer (some ⟨wr.heap.size, 0, none⟩) := hV' 7 (by omega)
              have v8 : V' 8 = .int .i64 x.kind := hV' 8 (by omega)
              have v9 : V' 9 = .bool false := hV' 9 (by omega)
              have v10 : V' 10 = .bool false := hV' 10 (by omega)
              have v11 : V' 11 = .pointer (some ⟨wr.heap.size, 0, none⟩) := hV' 11 (by omega)
              have v12 : V' 12 = .int .i64 x.kind := hV' 12 (by omega)
              have v13 : V' 13 = .bool true := hV' 13 (by omega)
              have v14 : V' 14 = .bool true := hV' 14 (by omega)
              have v15 : V' 15 = .bool true := hV' 15 (by omega)
              have v16 : V' 16 = .bool true := hV' 16 (by omega)
              have v17 : V' 17 = .pointer (some ⟨s, 0, none⟩) := hV' 17 (by omega)
              have v18 : V' 18 = .agg (stepC x.kind x.key x.st (.slice Ab x.bs.length cb) x.dead x.tt) := hV' 18 (by omega)
              obtain ⟨cs19, v19, _⟩ : TellV 0 (ansR (afterR (fillR vs) key ⟨st, bs, dead⟩) x) (V' 19) u := hV' 19 (by omega)
              have v20 : V' 20 = .pointer (some ⟨t, 0, none⟩) := hV' 20 (by omega)
              have v21 : V' 21 = .agg (stepC x.kind x.key x.st (.slice Ab x.bs.length cb) x.dead x.tt) := hV' 21 (by omega)
              obtain ⟨cs22, v22, _⟩ : TellV 0 (ansR (fillR vs) x) (V' 22) u := hV' 22 (by omega)
              have v23 : V' 23 = .bool true := hV' 23 (by omega)
              have v24 : V' 24 = .bool false := hV' 24 (by omega)
              have v25 : V' 25 = .bool false := hV' 25 (by omega)
              change wpList _ _ _ _ (Act.put (Act.put (Act.put (Act.put (Act.put (Act.put (Act.put (Act.put (Act.put (Act.put (Act.put (Act.put (Act.put (Act.put (Act.put (Act.put (Act.put (Act.put (Act.put (Act.put (Act.put (Act.put (Act.put (Act.put (Act.put (Act.put _ (some 26) (V' 0)) (some 27) (V' 1)) (some 28) (V' 2)) (some 29) (V' 3)) (some 30) (V' 4)) (some 31) (V' 5)) (some 32) (V' 6)) (some 33) (V' 7)) (some 34) (V' 8)) (some 35) (V' 9)) (some 36) (V' 10)) (some 37) (V' 11)) (some 38) (V' 12)) (some 39) (V' 13)) (some 40) (V' 14)) (some 41) (V' 15)) (some 42) (V' 16)) (some 43) (V' 17)) (some 44) (V' 18)) (some 45) (V' 19)) (some 46) (V' 20)) (some 47) (V' 21)) (some 48) (V' 22)) (some 49) (V' 23)) (some 50) (V' 24)) (some 51) (V' 25)) _
              rw [v0, v1, v2, v3, v4, v5, v6, v7, v8, v9, v10, v11, v12, v13, v14, v15, v16, v17, v18, v19, v20, v21, v22, v23, v24, v25]
              simp only [Act.put, List.setIfInBounds_toArray, List.set_cons_zero, List.set_cons_succ]
              simp only [List.drop_succ_cons, List.drop_zero]
              clear hV' v0 v1 v2 v3 v4 v5 v6 v7 v8 v9 v10 v11 v12 v13 v14 v15 v16 v17 v18 v19 v20 v21 v22 v23 v24 v25
              have HU := Lib.hid (HEND.out u hk)
              clear hk hkt
              go_wp2_with fail
              exact ⟨HU.out, by simp [intOf]; omega⟩
        · have hkd : x.kind = 1 ∨ x.kind = 3 := .inl (eq_of_beq q2)
          have HAN := Lib.hid (earlier_ans (R := fillR vs) (key := key) (v := ⟨st, bs, dead⟩) HLT.out hkd)
          have HKD := Lib.hid hkd
          clear hkd
          go_upto_region 8 with (fail)
          refine wp_region_head2 26 53 [6, 10, 16] (fun g => match g with | 6 => some true | 10 => some true | 16 => some true | _ => none) (fun _ => none) NoneOf (fun _ => QG wr s t T1' T2' (afterR (fillR vs) key ⟨st, bs, dead⟩) (fillR vs) (nv + 1) wr.heap.size (stepC x.kind x.key x.st (.slice Ab x.bs.length cb) x.dead x.tt)) (EarT x st Ab cb s t wr.heap.size w.heap.size (afterR (fillR vs) key ⟨st, bs, dead⟩) (fillR vs) true true false true) rfl (by kernel_rfl) (by kernel_rfl) ?hskip ?hgv (EarT_keep _ _ _ _ _ _ _ _ _ _ _ _ _ _) (HG0.out.keep ((Only.refl _ _).drew)) ?hstep ?hend
          case hskip =>
            intro i o hi ho hw k
            have : i = 0 ∨ i = 1 ∨ i = 2 ∨ i = 3 ∨ i = 4 ∨ i = 5 ∨ i = 6 ∨ i = 7 ∨ i = 8 ∨ i = 9 ∨ i = 10 ∨ i = 11 ∨ i = 12 ∨ i = 13 ∨ i = 14 ∨ i = 15 ∨ i = 16 ∨ i = 17 ∨ i = 18 ∨ i = 19 ∨ i = 20 ∨ i = 21 ∨ i = 22 ∨ i = 23 ∨ i = 24 ∨ i = 25 := by omega
            rcases this with rfl | rfl | rfl | rfl | rfl | rfl | rfl | rfl | rfl | rfl | rfl | rfl | rfl | rfl | rfl | rfl | rfl | rfl | rfl | rfl | rfl | rfl | rfl | rfl | rfl | rfl
            · rfl
            · rfl
            · rfl
            · rfl
            · rfl
            · rfl
            · rfl
            · rfl
            · rfl
            · rfl
            · rfl
            · rfl
            · rfl
            · rfl
            · rfl
            · rfl
            · rfl
            · rfl
            · rfl
            · rfl
            · rfl
            · rfl
            · rfl
            · rfl
            · rfl
            · rfl
          case hgv =>
            intro g hg v w h
            have : g = 6 ∨ g = 10 ∨ g = 16 := by simpa using hg
            rcases this with rfl | rfl | rfl
            · obtain rfl : v = .bool true := h; rfl
            · obtain rfl : v = .bool true := h; rfl
            · obtain rfl : v = .bool true := h; rfl
          case hstep =>
            intro i o hi ho a u k hk hik hs ht
            have e7 : a.tmps.getD 7 undef = .pointer (some ⟨s, 0, none⟩) := hs 7 (of_decide_eq_true (by kernel_rfl))
            have e8 : a.tmps.getD 8 undef = .pointer (some ⟨t, 0, none⟩) := hs 8 (of_decide_eq_true (by kernel_rfl))
            have e10 : a.tmps.getD 10 undef = .pointer (some ⟨wr.heap.size, 0, none⟩) := hs 10 (of_decide_eq_true (by kernel_rfl))
            have e4 : a.tmps.getD 4 undef = .pointer (some ⟨w.heap.size, 0, none⟩) := hs 4 (of_decide_eq_true (by kernel_rfl))
            have F4 := HBW.out.only hk.only (fun h => h)
            have d0 := hk.row.cellv 0 rfl
            have d2 := hk.row.cellv 2 rfl
            have c1 := F4.cellv 1 rfl
            have : i = 0 ∨ i = 1 ∨ i = 2 ∨ i = 3 ∨ i = 4 ∨ i = 5 ∨ i = 6 ∨ i = 7 ∨ i = 8 ∨ i = 9 ∨ i = 10 ∨ i = 11 ∨ i = 12 ∨ i = 13 ∨ i = 14 ∨ i = 15 ∨ i = 16 ∨ i = 17 ∨ i = 18 ∨ i = 19 ∨ i = 20 ∨ i = 21 ∨ i = 22 ∨ i = 23 ∨ i = 24 ∨ i = 25 := by omega
            rcases this with rfl | rfl | rfl | rfl | rfl | rfl | rfl | rfl | rfl | rfl | rfl | rfl | rfl | rfl | rfl | rfl | rfl | rfl | rfl | rfl | rfl | rfl | rfl | rfl | rfl | rfl
            · obtain rfl := Option.some.inj (ho : some _ = some o)
              rw [if_pos (by decide)]
              exact left2_value (.pointer (some ⟨wr.heap.size, 1, none⟩)) (by simp [go_sem, e10]) rfl rfl hk
            · obtain rfl := Option.some.inj (ho : some _ = some o)
              rw [if_pos (by decide)]
              have s0 : a.tmps.getD 26 undef = .pointer (some ⟨wr.heap.size, 1, none⟩) := ht 0 (by omega) (by kernel_rfl)
              exact left2_value (.pointer (some ⟨wr.heap.size, 2, none⟩)) (by simp [go_sem, s0]) rfl rfl hk
            · obtain rfl := Option.some.inj (ho : some _ = some o)
              rw [if_pos (by decide)]
              have s1 : a.tmps.getD 27 undef = .pointer (some ⟨wr.heap.size, 2, none⟩) := ht 1 (by omega) (by kernel_rfl)
              exact left2_value (.int .i64 x.st) (by simp [go_sem, s1, d2]) rfl rfl hk
            · obtain rfl := Option.some.inj (ho : some _ = some o)
              rw [if_pos (by decide)]
              exact left2_value (.pointer (some ⟨w.heap.size, 1, none⟩)) (by simp [go_sem, e4]) rfl rfl hk
            · obtain rfl := Option.some.inj (ho : some _ = some o)
              rw [if_pos (by decide)]
              have s3 : a.tmps.getD 29 undef = .pointer (some ⟨w.heap.size, 1, none⟩) := ht 3 (by omega) (by kernel_rfl)
              exact left2_value (.int .i64 st) (by simp [go_sem, s3, c1]) rfl rfl hk
            · obtain rfl := Option.some.inj (ho : some _ = some o)
              rw [if_pos (by decide)]
              have s2 : a.tmps.getD 28 undef = .int .i64 x.st := ht 2 (by omega) (by kernel_rfl)
              have s4 : a.tmps.getD 30 undef = .int .i64 st := ht 4 (by omega) (by kernel_rfl)
              exact left2_value (.bool true) (by simp [go_sem, s2, s4, q1]) rfl rfl hk
            · obtain rfl := Option.some.inj (ho : some _ = some o)
              rw [if_pos (by decide)]
              have s5 : a.tmps.getD 31 undef = .bool true := ht 5 (by omega) (by kernel_rfl)
              exact left2_value (.bool true) (by simp [go_sem, s5]) rfl rfl hk
            · obtain rfl := Option.some.inj (ho : some _ = some o)
              rw [if_pos (by decide)]
              exact left2_value (.pointer (some ⟨wr.heap.size, 0, none⟩)) (by simp [go_sem, e10]) rfl rfl hk
            · obtain rfl := Option.some.inj (ho : some _ = some o)
              rw [if_pos (by decide)]
              have s7 : a.tmps.getD 33 undef = .pointer (some ⟨wr.heap.size, 0, none⟩) := ht 7 (by omega) (by kernel_rfl)
              exact left2_value (.int .i64 x.kind) (by simp [go_sem, s7, d0]) rfl rfl hk
            · obtain rfl := Option.some.inj (ho : some _ = some o)
              rw [if_pos (by decide)]
              have s8 : a.tmps.getD 34 undef = .int .i64 x.kind := ht 8 (by omega) (by kernel_rfl)
              exact left2_value (.bool true) (by simp [go_sem, s8, q2]) rfl rfl hk
            · obtain rfl := Option.some.inj (ho : some _ = some o)
              rw [if_pos (by decide)]
              have s6 : a.tmps.getD 32 undef = .bool true := ht 6 (by omega) (by kernel_rfl)
              have s9 : a.tmps.getD 35 undef = .bool true := ht 9 (by omega) (by kernel_rfl)
              exact left2_value (.bool true) (by simp [go_sem, s9]) rfl rfl hk
            · obtain rfl := Option.some.inj (ho : some _ = some o)
              rw [if_neg (by decide)]
              exact rfl
            · obtain rfl := Option.some.inj (ho : some _ = some o)
              rw [if_neg (by decide)]
              exact rfl
            · obtain rfl := Option.some.inj (ho : some _ = some o)
              rw [if_neg (by decide)]
              exact rfl
            · obtain rfl := Option.some.inj (ho : some _ = some o)
              rw [if_pos (by decide)]
              have s10 : a.tmps.getD 36 undef = .bool true := ht 10 (by omega) (by kernel_rfl)
              have s13 : a.tmps.getD 39 undef = undef := ht 13 (by omega) (by kernel_rfl)
              exact left2_value (.bool true) (by simp [go_sem, s10, s13]) rfl rfl hk
            · obtain rfl := Option.some.inj (ho : some _ = some o)
              rw [if_pos (by decide)]
              have s6 : a.tmps.getD 32 undef = .bool true := ht 6 (by omega) (by kernel_rfl)
              have s14 : a.tmps.getD 40 undef = .bool true := ht 14 (by omega) (by kernel_rfl)
              exact left2_value (.bool true) (by simp [go_sem, s6, s14]) rfl rfl hk
            · obtain rfl := Option.some.inj (ho : some _ = some o)
              rw [if_pos (by decide)]
              have s10 : a.tmps.getD 36 undef = .bool true := ht 10 (by omega) (by kernel_rfl)
              have s15 : a.tmps.getD 41 undef = .bool true := ht 15 (by omega) (by kernel_rfl)
              exact left2_value (.bool true) (by simp [go_sem, s15]) rfl rfl hk
            · obtain rfl := Option.some.inj (ho : some _ = some o)
              rw [if_pos (by decide)]
              exact left2_value (.pointer (some ⟨s, 0, none⟩)) (by simp [go_sem, e7]) rfl rfl hk
            · obtain rfl := Option.some.inj (ho : some _ = some o)
              rw [if_pos (by decide)]
              exact left2_load 29 (.tmp 10) wr.heap.size 29 _ _ rfl e10 hk.row Try.underlying29 rfl info29 rfl rfl hk
            · obtain rfl := Option.some.inj (ho : some _ = some o)
              rw [if_pos (by decide)]
              have s16 : a.tmps.getD 42 undef = .bool true := ht 16 (by omega) (by kernel_rfl)
              have s17 : a.tmps.getD 43 undef = .pointer (some ⟨s, 0, none⟩) := ht 17 (by omega) (by kernel_rfl)
              have s17c : a.tmps.getD 43 undef = .pointer (some ⟨s, 0, none⟩) := ht 17 (by omega) (by kernel_rfl)
              have s18c : a.tmps.getD 44 undef = .agg (stepC x.kind x.key x.st (.slice Ab x.bs.length cb) x.dead x.tt) := ht 18 (by omega) (by kernel_rfl)
              exact left2_calls 17 #[.pointer (some ⟨s, 0, none⟩), .agg (stepC x.kind x.key x.st (.slice Ab x.bs.length cb) x.dead x.tt)] (by simp [go_sem, s17c, s18c]) (quiet_tell hk.one x Ab cb (by unfold NMAX; omega) HKD.out hks (HBX.out.keep hk.only)) rfl (fun w' ho => hk.keep ho)
            · obtain rfl := Option.some.inj (ho : some _ = some o)
              rw [if_pos (by decide)]
              exact left2_value (.pointer (some ⟨t, 0, none⟩)) (by simp [go_sem, e8]) rfl rfl hk
            · obtain rfl := Option.some.inj (ho : some _ = some o)
              rw [if_pos (by decide)]
              exact left2_load 29 (.tmp 10) wr.heap.size 29 _ _ rfl e10 hk.row Try.underlying29 rfl info29 rfl rfl hk
            · obtain rfl := Option.some.inj (ho : some _ = some o)
              rw [if_pos (by decide)]
              have s20 : a.tmps.getD 46 undef = .pointer (some ⟨t, 0, none⟩) := ht 20 (by omega) (by kernel_rfl)
              have s20c : a.tmps.getD 46 undef = .pointer (some ⟨t, 0, none⟩) := ht 20 (by omega) (by kernel_rfl)
              have s21c : a.tmps.getD 47 undef = .agg (stepC x.kind x.key x.st (.slice Ab x.bs.length cb) x.dead x.tt) := ht 21 (by omega) (by kernel_rfl)
              exact left2_calls 17 #[.pointer (some ⟨t, 0, none⟩), .agg (stepC x.kind x.key x.st (.slice Ab x.bs.length cb) x.dead x.tt)] (by simp [go_sem, s20c, s21c]) (quiet_tell hk.two x Ab cb (by unfold NMAX; omega) HKD.out hks (HBX.out.keep hk.only)) rfl (fun w' ho => hk.keep ho)
            · obtain rfl := Option.some.inj (ho : some _ = some o)
              rw [if_pos (by decide)]
              obtain ⟨cs0, s19c, hs0⟩ : TellV 0 (ansR (afterR (fillR vs) key ⟨st, bs, dead⟩) x) (a.tmps.getD 45 undef) u := ht 19 (by omega) (by kernel_rfl)
              obtain ⟨cs1, s22c, hs1⟩ : TellV 0 (ansR (fillR vs) x) (a.tmps.getD 48 undef) u := ht 22 (by omega) (by kernel_rfl)
              exact left2_calls 16 #[.agg cs0, .agg cs1] (by simp [go_sem, s19c, s22c]) ((alike_same u cs0 cs1 _ HF.out hs0.at (by rw [HAN.out]; exact hs1.at)).mono (fun e w' ⟨he, ho⟩ => ⟨_, he, rfl, ho⟩)) rfl (fun w' ho => hk.keep ho)
            · obtain rfl := Option.some.inj (ho : some _ = some o)
              rw [if_pos (by decide)]
              have s23c : a.tmps.getD 49 undef = .bool true := ht 23 (by omega) (by kernel_rfl)
              exact left2_value (.bool false) (by simp [go_sem, s23c]) rfl rfl hk
            · obtain rfl := Option.some.inj (ho : some _ = some o)
              rw [if_pos (by decide)]
              have s16 : a.tmps.getD 42 undef = .bool true := ht 16 (by omega) (by kernel_rfl)
              have s24c : a.tmps.getD 50 undef = .bool false := ht 24 (by omega) (by kernel_rfl)
              have s16c : a.tmps.getD 42 undef = .bool true := ht 16 (by omega) (by kernel_rfl)
              exact left2_value (.bool false) (by simp [go_sem, s24c, s16c]) rfl rfl hk
          case hend =>
            intro V' u k hk hkt hV'
            have v0 : V' 0 = .pointer (some ⟨wr.heap.size, 1, none⟩) := hV' 0 (by omega)
            have v1 : V' 1 = .pointer (some ⟨wr.heap.size, 2, none⟩) := hV' 1 (by omega)
            have v2 : V' 2 = .int .i64 x.st := hV' 2 (by omega)
            have v3 : V' 3 = .pointer (some ⟨w.heap.size, 1, none⟩) := hV' 3 (by omega)
            have v4 : V' 4 = .int .i64 st := hV' 4 (by omega)
            have v5 : V' 5 = .bool true := hV' 5 (by omega)
            have v6 : V' 6 = .bool true := hV' 6 (by omega)
            have v7 : V' 7 = .pointer (some ⟨wr.heap.size, 0, none⟩) := hV' 7 (by omega)
            have v8 : V' 8 = .int .i64 x.kind := hV' 8 (by omega)
            have v9 : V' 9 = .bool true := hV' 9 (by omega)
            have v10 : V' 10 = .bool true := hV' 10 (by omega)
            have v11 : V' 11 = undef := hV' 11 (by omega)
            have v12 : V' 12 = undef := hV' 12 (by omega)
            have v13 : V' 13 = undef := hV' 13 (by omega)
            have v14 : V' 14 = .bool true := hV' 14 (by omega)
            have v15 : V' 15 = .bool true := hV' 15 (by omega)
            have v16 : V' 16 = .bool true := hV' 16 (by omega)
            have v17 : V' 17 = .pointer (some ⟨s, 0, none⟩) := hV' 17 (by omega)
            have v18 : V' 18 = .agg (stepC x.kind x.key x.st (.slice Ab x.bs.length cb) x.dead x.tt) := hV' 18 (by omega)
            obtain ⟨cs19, v19, _⟩ : TellV 0 (ansR (afterR (fillR vs) key ⟨st, bs, dead⟩) x) (V' 19) u := hV' 19 (by omega)
            have v20 : V' 20 = .pointer (some ⟨t, 0, none⟩) := hV' 20 (by omega)
            have v21 : V' 21 = .agg (stepC x.kind x.key x.st (.slice Ab x.bs.length cb) x.dead x.tt) := hV' 21 (by omega)
            obtain ⟨cs22, v22, _⟩ : TellV 0 (ansR (fillR vs) x) (V' 22) u := hV' 22 (by omega)
            have v23 : V' 23 = .bool true := hV' 23 (by omega)
            have v24 : V' 24 = .bool false := hV' 24 (by omega)
            have v25 : V' 25 = .bool false := hV' 25 (by omega)
            change wpList _ _ _ _ (Act.put (Act.put (Act.put (Act.put (Act.put (Act.put (Act.put (Act.put (Act.put (Act.put (Act.put (Act.put (Act.put (Act.put (Act.put (Act.put (Act.put (Act.put (Act.put (Act.put (Act.put (Act.put (Act.put (Act.put (Act.put (Act.put _ (some 26) (V' 0)) (some 27) (V' 1)) (some 28) (V' 2)) (some 29) (V' 3)) (some 30) (V' 4)) (some 31) (V' 5)) (some 32) (V' 6)) (some 33) (V' 7)) (some 34) (V' 8)) (some 35) (V' 9)) (some 36) (V' 10)) (some 37) (V' 11)) (some 38) (V' 12)) (some 39) (V' 13)) (some 40) (V' 14)) (some 41) (V' 15)) (some 42) (V' 16)) (some 43) (V' 17)) (some 44) (V' 18)) (some 45) (V' 19)) (some 46) (V' 20)) (some 47) (V' 21)) (some 48) (V' 22)) (some 49) (V' 23)) (some 50) (V' 24)) (some 51) (V' 25)) _
            rw [v0, v1, v2, v3, v4, v5, v6, v7, v8, v9, v10, v11, v12, v13, v14, v15, v16, v17, v18, v19, v20, v21, v22, v23, v24, v25]
            simp only [Act.put, List.setIfInBounds_toArray, List.set_cons_zero, List.set_cons_succ]
            simp only [List.drop_succ_cons, List.drop_zero]
            clear hV' v0 v1 v2 v3 v4 v5 v6 v7 v8 v9 v10 v11 v12 v13 v14 v15 v16 v17 v18 v19 v20 v21 v22 v23 v24 v25
            have HU := Lib.hid (HEND.out u hk)
            clear hk hkt
            go_wp2_with fail
            exact ⟨HU.out, by simp [intOf]; omega⟩
    · obtain rfl : i = n := by omega
      have HOF := Lib.hid (HO4.out.trans HO.out)
      go_wp2_with fail
      go_ret
      exact ⟨rfl, HOF.out⟩

end Go.Proofs.Ytnonnencdhogiaa

/-
  Layer 14's laws: a version that comes in, opened.
-/
namespace Go.Proofs.Ytnonnencdhogiaa
open Go.ChangeShapes Go.WideShapes Go.ChangeAt Go.RowKit Go.Deep

theorem open_ver {H : Type} {enc : TypeId × Value → H} {w : World} {held : Bool} {v : Value} {d : DataW H} {p : List MemPlace} (hv : ∃ cs, v = .agg cs ∧ cs.size = Try.prog.cellsOf 27) (h : DataW.Trod enc Try.prog w 0 (fun _ => true) held 27 v d p) :
    ∃ (key : ByteArray) (st : Int) (A : Option Addr) (cap : Nat) (bs : List UInt8) (dead : Bool), v = .agg (verC key st (.slice A bs.length cap) dead) ∧ key.size ≤ maxLen ∧ BytesAt w A bs := by
  obtain ⟨cs, rfl, hsz⟩ := hv
  obtain ⟨l⟩ := cs
  obtain ⟨fuel, hf⟩ := h
  obtain ⟨key, st, A, cap, bs, dead, rfl, hk, hb⟩ := ver_cells (cs := l) (by simpa [Value.cells] using hf)
  exact ⟨key, st, A, cap, bs, dead, rfl, hk, hb⟩

end Go.Proofs.Ytnonnencdhogiaa

/-
  Layer 14's law StoreVacuum, plain: what a Vacuum leaves.
-/
namespace Go.Proofs.Ytnonnencdhogiaa

theorem takeWhile_drop {α : Type} (p : α → Bool) : ∀ (k : Nat) (xs : List α), k ≤ (xs.takeWhile p).length → (xs.drop k).takeWhile p = (xs.takeWhile p).drop k
  | 0, _, _ => rfl
  | k + 1, [], _ => by simp
  | k + 1, x :: xs, h => by
    rw [List.takeWhile_cons] at h ⊢
    split at h
    · rename_i hx
      rw [if_pos hx, List.drop_succ_cons, List.drop_succ_cons]
      exact takeWhile_drop p k xs (by simpa using h)
    · simp at h
theorem takeWhile_len {α : Type} (p q : α → Bool) (hpq : ∀ x, p x = true → q x = true) : ∀ (xs : List α), (xs.takeWhile p).length ≤ (xs.takeWhile q).length
  | [] => by simp
  | x :: xs => by
    have ih := takeWhile_len p q hpq xs
    rw [List.takeWhile_cons, List.takeWhile_cons]
    split
    · rename_i hx
      rw [if_pos (hpq x hx)]
      simpa using ih
    · simp
theorem takeWhile_all {α : Type} (p : α → Bool) : ∀ (xs : List α), (∀ x ∈ xs, p x = true) → xs.takeWhile p = xs
  | [], _ => rfl
  | x :: xs, h => by
    rw [List.takeWhile_cons, if_pos (h x (by simp)), takeWhile_all p xs fun y hy => h y (by simp [hy])]
theorem takeWhile_snoc {α : Type} (p : α → Bool) (y : α) (hy : p y = false) : ∀ (xs : List α), (xs ++ [y]).takeWhile p = xs.takeWhile p
  | [] => by simp [hy]
  | x :: xs => by
    rw [List.cons_append, List.takeWhile_cons, List.takeWhile_cons, takeWhile_snoc p y hy xs]

theorem kept_few (xs : List Ver) {hz h2 : Int} (h : h2 ≤ hz) : ((keptV xs hz).takeWhile fun x => decide (x.st ≤ h2)).length ≤ 1 := by
  have h1 := takeWhile_len (fun x : Ver => decide (x.st ≤ h2)) (fun x : Ver => decide (x.st ≤ hz)) (fun x hx => by simp only [decide_eq_true_eq] at hx ⊢; omega) (keptV xs hz)
  have h3 : ((keptV xs hz).takeWhile fun x => decide (x.st ≤ hz)).length ≤ 1 := by
    unfold keptV
    rw [takeWhile_drop _ _ _ (by omega), List.length_drop]
    omega
  omega
theorem kept_again (xs : List Ver) {hz h2 : Int} (h : h2 ≤ hz) : keptV (keptV xs hz) h2 = keptV xs hz := by
  have := kept_few xs h
  change (keptV xs hz).drop (((keptV xs hz).takeWhile fun x => decide (x.st ≤ h2)).length - 1) = _
  rw [show (((keptV xs hz).takeWhile fun x => decide (x.st ≤ h2)).length - 1) = 0 by omega]
  rfl
theorem kept_newest (xs : List Ver) {hz st : Int} (h : hz ≤ st) : newest (keptV xs hz) st = newest xs st := by
  have h1 := takeWhile_len (fun x : Ver => decide (x.st ≤ hz)) (fun x : Ver => decide (x.st ≤ st)) (fun x hx => by simp only [decide_eq_true_eq] at hx ⊢; omega) xs
  unfold newest keptV
  rw [takeWhile_drop _ _ _ (by omega), List.getLast?_drop]
  split
  · rename_i hl
    have : (xs.takeWhile fun x => decide (x.st ≤ st)).length = 0 := by omega
    rw [List.eq_nil_of_length_eq_zero this]
    rfl
  · rfl
theorem kept_snoc {xs : List Ver} {x : Ver} (hz : Int) (h : ∀ y ∈ xs, y.st < x.st) : keptV (xs ++ [x]) hz = if x.st ≤ hz then [x] else keptV xs hz ++ [x] := by
  unfold keptV
  split
  · rename_i hx
    rw [takeWhile_all _ (xs ++ [x]) fun y hy => by
      rcases List.mem_append.1 hy with hy | hy
      · have := h y hy; simp; omega
      · obtain rfl : y = x := by simpa using hy
        simpa using hx]
    simp
  · rename_i hx
    rw [takeWhile_snoc _ _ (by simpa using hx)]
    have := (List.takeWhile_prefix (l := xs) fun x : Ver => decide (x.st ≤ hz)).length_le
    rw [List.drop_append_of_le_length (by omega)]

theorem vac_again {R : List KV} (h : GoodR R) {hz h2 : Int} (hh : h2 ≤ hz) : vacR (vacR R hz) h2 = vacR R hz := by
  have hg := gone_count (h.vac hz) h2
  have h0 : sumN (keysR (vacR R hz)) (fun k => ((verR (vacR R hz) (keyB k)).takeWhile fun x => decide (x.st ≤ h2)).length - 1) = 0 := by
    rw [sumN_congr (g := fun _ => 0) fun k _ => by
      rw [verR_vac h]
      have := kept_few (verR R (keyB k)) hh
      omega]
    unfold sumN
    generalize keysR (vacR R hz) = ks
    induction ks with
    | nil => rfl
    | cons k ks ih => simpa using ih
  exact (List.filter_sublist (l := vacR R hz)).eq_of_length (by change (vacR (vacR R hz) h2).length = _; omega)

/-- two stores that a Vacuum at hz makes the same -/
def VacSame (hz : Int) (R1 R2 : List KV) : Prop := ∀ key, keptV (verR R1 key) hz = keptV (verR R2 key) hz

theorem VacSame.vac {R : List KV} (h : GoodR R) (hz : Int) : VacSame hz (vacR R hz) R := fun key => by
  rw [verR_vac h]
  exact kept_again _ (Int.le_refl _)
section
variable {hz : Int} {R1 R2 : List KV} (h : VacSame hz R1 R2)
include h
theorem VacSame.last (key : ByteArray) : (verR R1 key).getLast? = (verR R2 key).getLast? := by rw [← kept_last hz, h key, kept_last]
theorem VacSame.keys : keysR R1 = keysR R2 :=
  sorted_unique _ _ (keysR_sorted _) (keysR_sorted _) fun k => by
    rw [keysR_mem, keysR_mem, ← verR_ne, ← verR_ne]
    have := h.last (keyB k)
    constructor
    · intro h1 h2
      rw [h2] at this
      exact h1 (List.getLast?_eq_none_iff.1 this)
    · intro h1 h2
      rw [h2] at this
      exact h1 (List.getLast?_eq_none_iff.1 this.symm)
theorem VacSame.live : liveR R1 = liveR R2 := by
  unfold liveR
  rw [h.keys]
  exact sumZ_congr fun k _ => by unfold wgt; rw [h.last]
theorem VacSame.code (key : ByteArray) (x : Ver) : codeR R1 key x = codeR R2 key x := by unfold codeR applyC; rw [h.last]
theorem VacSame.found (key : ByteArray) {st : Int} (hs : hz ≤ st) : Go.Proofs.Ytnonnencdhogiaa.found (verR R1 key) st = Go.Proofs.Ytnonnencdhogiaa.found (verR R2 key) st := by
  unfold Go.Proofs.Ytnonnencdhogiaa.found
  rw [← kept_newest _ hs, h key, kept_newest _ hs]
theorem VacSame.scan (fr tt : ByteArray) {st : Int} (hs : hz ≤ st) : scanR R1 fr tt st = scanR R2 fr tt st := by
  have : scanKey (verR R1) fr tt st = scanKey (verR R2) fr tt st := by
    funext k
    unfold scanKey
    rw [h.found ⟨k.toArray⟩ hs]
  unfold scanR
  rw [h.keys, this]
end
theorem code_above {R : List KV} (hg : GoodR R) {key : ByteArray} {x : Ver} (h : codeR R key x = 0) : ∀ y ∈ verR R key, y.st < x.st := by
  unfold codeR applyC at h
  split at h
  · omega
  · intro y hy
    rcases List.eq_nil_or_concat (verR R key) with e | ⟨ys, b, e⟩
    · rw [e] at hy; cases hy
    · rw [List.concat_eq_append] at e
      have hr := hg.rise key
      rw [e] at h hr hy
      simp only [List.getLast?_append, List.getLast?_singleton, Option.some_or] at h
      have hb : b.st < x.st := by
        split at h
        · cases h
        · omega
      rcases List.mem_append.1 hy with hy | hy
      · have := (List.pairwise_append.1 hr).2.2 y hy b (by simp)
        omega
      · obtain rfl : y = b := by simpa using hy
        exact hb
theorem VacSame.after {hz : Int} {R1 R2 : List KV} (h : VacSame hz R1 R2) (h1 : GoodR R1) (h2 : GoodR R2) (key : ByteArray) (x : Ver) : VacSame hz (afterR R1 key x) (afterR R2 key x) := by
  unfold afterR
  rw [h.code]
  split
  · rename_i hc
    intro k
    rw [verR_append, verR_append, verR_one]
    split
    · rename_i hk
      subst hk
      rw [kept_snoc hz (code_above h1 (by rw [h.code]; exact hc)), kept_snoc hz (code_above h2 hc), h key]
    · rw [List.append_nil, List.append_nil]; exact h k
  · exact h
/-- what is asked behind a Vacuum -/
def VacAsk (hz : Int) (x : Stp) : Prop := x.kind = 2 ∨ x.kind = 5 ∨ x.kind = 0 ∨ (hz ≤ x.st ∧ (x.kind = 1 ∨ x.kind = 3))
theorem VacSame.ans {hz : Int} {R1 R2 : List KV} (h : VacSame hz R1 R2) {x : Stp} (hx : VacAsk hz x) : ansR R1 x = ansR R2 x := by
  unfold ansR
  rcases hx with e | e | e | ⟨hs, e | e⟩ <;> simp only [e]
  · simp [h.last]
  · simp [h.live]
  · simp [h.code]
  · simp [h.found _ hs]
  · simp [h.scan _ _ hs]
theorem VacSame.step {hz : Int} {R1 R2 : List KV} (h : VacSame hz R1 R2) (h1 : GoodR R1) (h2 : GoodR R2) {x : Stp} (hx : VacAsk hz x) : VacSame hz (stepR R1 x) (stepR R2 x) := by
  unfold stepR
  rcases hx with e | e | e | ⟨hs, e | e⟩ <;> simp only [e]
  · simpa using h
  · simpa using h
  · simpa using h.after h1 h2 _ _
  · simpa using h
  · simpa using h

end Go.Proofs.Ytnonnencdhogiaa

