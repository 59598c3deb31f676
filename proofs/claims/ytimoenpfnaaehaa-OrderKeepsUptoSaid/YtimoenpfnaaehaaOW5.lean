/-
  Layer 4: the reference's Decode (function 32).
-/
import Derived.Test.YtimoenpfnaaehaaOW4
namespace Go.Proofs.Ytimoenpfnaaehaa
open Go.RowKit

/-- A slice of items that is its own. -/
def RowD (w : World) (B : Nat) (v : Value) (xs : List It) : Prop := w.ownsRow B 32 7 v xs.length (xs.flatMap fun x => x.r.toList)
theorem dcells_len (xs : List It) : (xs.flatMap fun x => x.r.toList).length = xs.length * 7 := by
  induction xs with
  | nil => rfl
  | cons x xs ih => simp only [List.flatMap_cons, List.length_append, List.length_cons, ih]; simp; omega
theorem dcells_get (xs : List It) (i j : Nat) (x : It) (h : xs[i]? = some x) (hj : j < 7) : (xs.flatMap fun x => x.r.toList)[i * 7 + j]? = x.r.toList[j]? := by
  induction xs generalizing i with
  | nil => simp at h
  | cons y xs ih =>
    simp only [List.flatMap_cons]
    cases i with
    | zero =>
      simp at h
      subst h
      rw [List.getElem?_append_left (by simp; omega)]
      simp
    | succ i =>
      rw [List.getElem?_append_right (by simp; omega)]
      have e : (i + 1) * 7 + j - y.r.toList.length = i * 7 + j := by simp; omega
      rw [e]
      exact ih i (by simpa using h)
theorem info32' : (Try.prog.info? 32).map (fun i => (i.zero, i.size, i.bytes)) = some (some (.agg rwZ), 7, 64) := by kernel_rfl
section
variable {w w' : World} {B : Nat} {v : Value} {xs : List It} {S : Nat → Prop}
theorem RowD.only (h : RowD w B v xs) (ho : Only S w w') (hg : ∀ g, v.ownBlock = some g → ¬ S g) : RowD w' B v xs := by
  refine ⟨h.1, ?_⟩
  rcases h.2 with h0 | ⟨g, cap, cur, hv, hb, hh, r⟩
  · exact .inl h0
  · refine .inr ⟨g, cap, cur, hv, hb, ?_, r⟩
    exact Blk.only (t := 32) (cs := cur) hh ho (hg g (by rw [hv]; rfl))
theorem RowD.keep (h : RowD w B v xs) (ho : Only NoneOf w w') : RowD w' B v xs := h.only ho (fun _ _ h => h)
theorem rowD_nil (w : World) (B : Nat) : RowD w B (.slice none 0 0) [] := ⟨by simp, .inl ⟨rfl, rfl⟩⟩
/-- A row of documents as a slice in memory. -/
theorem RowD.at (h : RowD w B v xs) : ∃ A cap, v = .slice A xs.length cap ∧ RowsAt w A 7 (xs.map fun x => x.r.toList) := by
  rcases h.2 with ⟨rfl, h0⟩ | ⟨g, cap, cur, rfl, _, hb, hle, _, hsz, hcur⟩
  · obtain rfl : xs = [] := List.eq_nil_of_length_eq_zero h0
    exact ⟨none, 0, rfl, fun i x hx => by simp at hx⟩
  · refine ⟨_, cap, rfl, fun i r hr => ?_⟩
    rw [List.getElem?_map] at hr
    obtain ⟨x, hx, rfl⟩ := Option.map_eq_some_iff.1 hr
    refine ⟨g, 0, rfl, Blk.lt (t := 32) (cs := cur) hb, fun j u hj => ?_⟩
    have hi : i < xs.length := (List.getElem?_eq_some_iff.1 hx).1
    have hj7 : j < 7 := (List.getElem?_eq_some_iff.1 hj).1
    rw [Nat.zero_add, Blk.cell (t := 32) (cs := cur) hb, ← hj, ← dcells_get xs i j x hx hj7, ← hcur, List.getElem?_take_of_lt (by omega), Array.getElem?_toList]
theorem RowD.ge (h : RowD w B v xs) {g : Nat} (hg : v.ownBlock = some g) : B ≤ g := by
  rcases h.2 with ⟨rfl, _⟩ | ⟨g', cap, cur, rfl, hb, _⟩
  · simp [Value.ownBlock] at hg
  · have : g' = g := by simpa [Value.ownBlock] using hg
    omega
end

theorem app_doc {ops : Array Oper} {rest : List Oper} {o : Oper} {a : Act} {Q : Exit → Act → World → Prop} {w : World} (hgd : o.guard = none) (s x : Operand) (ho : o.op = .call { callee := .builtin .append, args := #[s, x], argTypes := #[51, 51] })
    (B : Nat) (v : Value) (xs : List It) (hs : a.eval s = v) (hr : RowD w B v xs) (g c : Nat) (y : It) (hx : a.eval x = .slice (some ⟨g, 0, none⟩) 1 c) (hc : Blk w g 32 y.r)
    (hl : xs.length + 1 ≤ 2199023255552) (hB : B ≤ w.heap.size)
    (h : ∀ v' w', RowD w' B v' (xs ++ [y]) → Only (fun k => v.ownBlock = some k) w w' → (∀ k, v'.ownBlock = some k → v.ownBlock = some k ∨ w.heap.size ≤ k) → wpList Try.prog ops Q rest (a.put o.dst v') w') : wpList Try.prog ops Q (o :: rest) a w := by
  obtain ⟨i0, hi, hz0, hz1, hz2⟩ := info_parts info32'
  refine wpList_append_lies w hgd s x 51 ho B 32 i0 _ 7 64 Try.underlying51 hi hz0 hz1 hz2 rfl (by decide) v xs.length (xs.flatMap fun z : It => z.r.toList) hs hr ⟨g, 0, none⟩ 1 c y.r.toList hx rfl ?_ ?_ (by decide) (by unfold maxLen; omega) (by omega) hB w.heap.size rfl ?_
  · intro j u hj
    have hadd : (⟨g, 0, none⟩ : Addr).add j = ⟨g, j, none⟩ := by unfold Addr.add; split <;> simp_all
    rw [hadd, hc.cell, ← hj]
    simp
  · intro u hu
    have := one_rwC y.k y.b y.n y.f y.re y.im y.t
    rw [Array.all_eq_true_iff_forall_mem] at this
    exact this u (by simpa using hu)
  · intro g' cap w' h1 h2 h3 _
    refine h _ w' ?_ (only_grown h2) ?_
    · show w'.ownsRow B 32 7 _ (xs ++ [y]).length ((xs ++ [y]).flatMap fun z : It => z.r.toList)
      rw [List.length_append, List.flatMap_append]
      simpa using h1
    · intro k hk
      have : g' = k := by simpa [Value.ownBlock] using hk
      subst this
      rcases h3 with h3 | h3
      · exact .inl h3
      · exact .inr (by omega)


def RDecPost (R : Option (List It)) (w : World) (e : Ending) (w' : World) : Prop :=
  (match R with
    | none => e = .returned (.tuple #[.slice none 0 0, .int .i64 41])
    | some xs => ∃ v, e = .returned (.tuple #[v, .int .i64 0]) ∧ RowD w' w.heap.size v xs) ∧ Only NoneOf w w'

def RDecRel (s : ByteArray) (w : World) (v0 i : Value) (wr : World) : Prop :=
  ∃ (p : Nat) (done : List It) (n : Nat), i = .int .i64 p ∧ p ≤ s.size ∧ s.size - p ≤ n ∧ done.length ≤ 64 ∧ RowD wr w.heap.size v0 done ∧ Only NoneOf w wr ∧ rall s.size s.data.toList = (rall n (s.data.toList.drop p)).map (done ++ ·)

set_option maxRecDepth 100000 in
set_option maxHeartbeats 4000000 in
theorem rdecode_is (s : ByteArray) (w : World) (hs : s.size ≤ 1073741824) : Calls Try.prog 32 #[.string s] w (RDecPost (refL s) w) := by
  obtain ⟨R, HRS⟩ : ∃ R, Hid (refL s = R) := ⟨_, Lib.hid rfl⟩
  rw [HRS.out]
  go_enter Try.func32, Try.ntmps32
  go_wp2_with fail
  go_loopw [4, 5] (fun v0 i wr => RDecRel s w v0 i wr) (fun _ i _ => s.size - (intOf i).toNat)
  case atStart => exact ⟨0, [], s.size, rfl, Nat.zero_le _, Nat.le_refl _, by simp, rowD_nil _ _, Only.refl _ _, by simp⟩
  case round =>
    obtain ⟨p, done, n, rfl, hp, hn, hd, hro, ho, hu⟩ := hrel
    have HRo := Lib.hid hro
    have HO := Lib.hid ho
    have HU := Lib.hid hu
    clear hro ho hu
    have hws := HO.out.size
    by_cases hlt : p < s.size
    rotate_left
    · obtain rfl : p = s.size := by omega
      have HX := Lib.hid (show R = some done by
        rw [← HRS.out]
        unfold refL
        rw [HU.out, List.drop_of_length_le (by simp)]
        cases n <;> simp [rall] <;> omega)
      go_wp2_with fail
      go_ret2
      rw [HX.out]
      exact ⟨⟨_, rfl, HRo.out⟩, HO.out⟩
    have HD := Lib.hid (drop_get s p hlt)
    have HI := fun u => Lib.hid (one_is s p u hs hlt)
    obtain ⟨m, rfl⟩ : ∃ m, n = m + 1 := ⟨n - 1, by omega⟩
    cases hX : rone s[p] (s.data.toList.drop (p + 1)) with
    | none =>
      have HX := Lib.hid (show R = none by
        rw [← HRS.out]
        unfold refL
        rw [HU.out, HD.out]
        simp [rall, hX])
      simp only [hX] at HI
      clear hX
      go_wp2_with fail
      refine (HI _).out.mono ?_; rintro e w1 ⟨rfl, ho1⟩
      have hB := Blk.new w1 32 rwZ
      go_wp2_with (refine wpList_store_row rfl 32 (.tmp 6) (.tmp 16) rfl w1.heap.size rwZ rfl rfl 32 rwZ hB info32 rfl (one_rwC _ _ _ _ _ _ _) ?_)
      go_ret2
      rw [HX.out]
      exact ⟨rfl, ((HO.out.trans ho1).alloc _).row (.inr (by have := HO.out.size; have := ho1.size; omega)) _⟩
    | some y =>
      obtain ⟨x, r⟩ := y
      simp only [hX] at HI
      have HY := Lib.hid (show rall s.size s.data.toList = (rall m r).map (done ++ [x] ++ ·) by
        rw [HU.out, HD.out]
        simp only [rall, hX]
        cases rall m r <;> simp)
      clear hX
      go_wp2_with fail
      refine (HI _).out.mono ?_; rintro e w1 ⟨⟨q, rfl, hq, hpq, rfl⟩, ho1⟩
      have hs1 := ho1.size
      have hB := Blk.new w1 32 rwZ
      have E6 := hB.row x.r
      have HO1 := Lib.hid (((HO.out.trans ho1).alloc (.cells rwZ 32)).row (b := w1.heap.size) (.inr (by omega)) x.r)
      have HR1 := Lib.hid (HRo.out.keep ((ho1.alloc (.cells rwZ 32)).row (b := w1.heap.size) (.inr (by omega)) x.r))
      have HA := HRo.out.at
      obtain ⟨A, cap, hv, _⟩ := HA
      clear ho1
      by_cases h64 : done.length = 64
      · have HX := Lib.hid (show R = none by
          rw [← HRS.out]
          unfold refL
          rw [HY.out]
          cases rall m (s.data.toList.drop q) with
          | none => rfl
          | some zs =>
            simp only [Option.map_some]
            rw [if_pos (by simp; omega)])
        rw [h64] at hv
        subst hv
        go_wp2_with (refine wpList_store_row rfl 32 (.tmp 6) (.tmp 16) rfl w1.heap.size x.r rfl rfl 32 rwZ hB info32 rfl (one_rwC _ _ _ _ _ _ _) ?_)
        go_ret2
        rw [HX.out]
        exact ⟨rfl, HO1.out⟩
      · have h64' : ((done.length : Int) == 64) = false := by rw [beq_eq_false_iff_ne]; omega
        have HV := Lib.hid hv
        obtain ⟨k, hk⟩ : ∃ k, done.length = k := ⟨_, rfl⟩
        rw [hk] at hv h64'
        subst hv
        go_wp2_with (first
          | (refine wpList_store_row rfl 32 (.tmp 6) (.tmp 16) rfl w1.heap.size x.r rfl rfl 32 rwZ hB info32 rfl (one_rwC _ _ _ _ _ _ _) ?_; generalize World.setRow (w1.alloc _) w1.heap.size x.r = W2 at *; have hN := Blk.new W2 32 x.r; have hs2 := HO1.out.size)
          | (refine wpList_load_row rfl 32 (.tmp 6) rfl w1.heap.size rfl 32 _ (0, 0) _ E6 Try.underlying32 rfl info32 ?_)
          | (at_builtin; refine app_doc rfl (.tmp 25) (.tmp 27) rfl w.heap.size _ done rfl (HR1.out.keep ((Only.refl NoneOf W2).alloc _)) W2.heap.size 1 x rfl hN (by omega) (by simp; omega) ?_; intro v4 w4 g1 g2 g3))
        go_roundw
        case rel =>
          refine ⟨q, done ++ [x], m, rfl, hq, by omega, by simp; omega, g1, ?_, HY.out⟩
          refine (HO1.out.alloc _).step g2 (fun k hk hh => ?_)
          have := HR1.out.ge hh
          omega
        case measure => simp [intOf]; omega

end Go.Proofs.Ytimoenpfnaaehaa
