/-
  Texts of this proof, laid together: S63, S64.
-/
import Derived.Test.YtnonnencdhogiaaM8
import Derived.Test.YtnonnencdhogiaaM4
import Derived.Test.YtnonnencdhogiaaM5
/-
  The reference of layer 14: Want: what the document answers, and the store behind it.
-/
namespace Go.Proofs.Ytnonnencdhogiaa
open Go.RowKit

def WantPost (T : Nat → Prop) (R : List KV) (x : Stp) (w : World) (e : Ending) (w' : World) : Prop :=
  ∃ cs A' cap' rs', e = .returned (.tuple #[.agg cs, .slice A' rs'.length cap']) ∧ RGood rs' (stepR R x) ∧ Only NoneOf w w' ∧ ∀ w'', Only T w' w'' → TAt w'' cs (ansR R x) ∧ RAt w'' A' rs'

theorem GoodR.after {R : List KV} (h : GoodR R) (key : ByteArray) (x : Ver) : GoodR (afterR R key x) := by
  unfold afterR
  by_cases hc : codeR R key x = 0
  · rw [if_pos hc]
    unfold codeR applyC at hc
    by_cases hm : mayI key.size x.bs.length x.st x.dead = 0
    · rw [if_neg (by rw [hm]; simp)] at hc
      obtain ⟨h1, h2, h3, h4, h5, h6⟩ := may_ok hm
      refine h.snoc ⟨h1, h2⟩ h3 ⟨h5, h6⟩ fun y hy => ?_
      obtain ⟨l, hl⟩ : ∃ l, (verR R key).getLast? = some l := by
        cases hg : (verR R key).getLast? with
        | none => rw [List.getLast?_eq_none_iff.1 hg] at hy; cases hy
        | some l => exact ⟨l, rfl⟩
      rw [hl] at hc
      have hlt : l.st < x.st := by
        by_cases hle : x.st ≤ l.st
        · simp only [hle, if_true] at hc; cases hc
        · omega
      have hr := h.rise key
      obtain ⟨ys, he⟩ := List.getLast?_eq_some_iff.1 hl
      rw [he] at hr hy
      rcases List.mem_append.1 hy with hy | hy
      · have := (List.pairwise_append.1 hr).2.2 y hy l (by simp)
        omega
      · obtain rfl : y = l := by simpa using hy
        exact hlt
    · rw [if_pos hm] at hc
      exact absurd hc hm
  · rw [if_neg hc]
    exact h

theorem rat_val {w : World} {A : Option Addr} {rs : List VRow} (h : RAt w A rs) {r : VRow} (hr : r ∈ rs) : ∃ Ab cb, r.val = .slice Ab r.bs.length cb ∧ BytesAt w Ab r.bs ∧ r.key.size ≤ maxLen := by
  obtain ⟨k, hk⟩ := List.getElem?_of_mem hr
  obtain ⟨_, _, Ab, cb, _, _, _, _, _, _, hval, hb, hks⟩ := h k r hk
  exact ⟨Ab, cb, hval, hb, hks⟩
/-- rows of their own, as a list of versions -/
theorem list_rows {w : World} {B : Nat} {v : Value} {rs : List VRow} (h : w.ownsRow B 27 4 v rs.length (vflat rs)) (hr : ∀ r ∈ rs, ∃ Ab cb, r.val = .slice Ab r.bs.length cb ∧ BytesAt w Ab r.bs ∧ r.key.size ≤ maxLen) : ListAt 4 VerE w v (rs.map VRow.plain) := by
  obtain ⟨A, c, rfl, hra⟩ := rat_own h hr
  refine ⟨A, c, by simp, fun i x hx => ?_⟩
  rw [List.getElem?_map] at hx
  obtain ⟨r, hr', rfl⟩ := Option.map_eq_some_iff.1 hx
  obtain ⟨g, off, Ab, cb, hA, hg, d0, d1, d2, d3, _, hb, _⟩ := hra i r hr'
  refine ⟨g, off, [.string r.key, .int .i64 r.st, .slice Ab r.bs.length cb, .bool r.dead], hA, hg, fun j c hj => ?_, rfl, Ab, cb, rfl, hb⟩
  have hj4 : j < 4 := (List.getElem?_eq_some_iff.1 hj).1
  have : j = 0 ∨ j = 1 ∨ j = 2 ∨ j = 3 := by omega
  rcases this with rfl | rfl | rfl | rfl <;> simp at hj <;> subst hj
  · exact d0
  · exact d1
  · exact d2
  · exact d3
theorem tat_plain (w : World) (e n m : Int) (is : Bool) : TAt w (tellC e n m is (.slice none 0 0) (.slice none 0 0) (.slice none 0 0)) { e := e, n := n, m := m, is := is } :=
  ⟨_, _, _, rfl, bytesV_nil w, listAt_nil _ _ w, listAt_nil _ _ w⟩

set_option maxRecDepth 100000 in
set_option maxHeartbeats 8000000 in
theorem want_5 (w : World) (T : Nat → Prop) (A : Option Addr) (cap : Nat) (rs : List VRow) (R : List KV) (x : Stp) (Av : Option Addr) (cc : Nat) (hT : ∀ k, T k → k < w.heap.size) (hR : RGood rs R) (hA : ∀ w', Only T w w' → RAt w' A rs) (hfew : rs.length < 2513169434843)
    (hk : x.kind = 5) (hkey : x.key.size ≤ maxLen) (hby : BytesAt w Av x.bs) :
    Calls Try.prog 32 #[.slice A rs.length cap, .agg (stepC x.kind x.key x.st (.slice Av x.bs.length cc) x.dead x.tt)] w (WantPost T R x w) := by
  obtain ⟨kind, key, st, bs, dead, tt⟩ := x
  simp only at hk hkey hby ⊢
  subst hk
  obtain ⟨nn, hnn⟩ : ∃ nn, bs.length = nn := ⟨_, rfl⟩
  rw [hnn]
  have hO : Only NoneOf w (((w.alloc (.cells (stepC 5 key st (.slice Av nn cc) dead tt) 29)).alloc (.cells (tellC 0 0 0 false (.slice none 0 0) (.slice none 0 0) (.slice none 0 0)) 33)).alloc (.cells (tellC 0 0 0 false (.slice none 0 0) (.slice none 0 0) (.slice none 0 0)) 33)) := (((Only.refl _ _).alloc _).alloc _).alloc _
  have hB3 := ((Blk.new w 29 (stepC 5 key st (.slice Av nn cc) dead tt)).alloc (.cells (tellC 0 0 0 false (.slice none 0 0) (.slice none 0 0) (.slice none 0 0)) 33)).alloc (.cells (tellC 0 0 0 false (.slice none 0 0) (.slice none 0 0) (.slice none 0 0)) 33)
  have hB4 := (Blk.new' (w.alloc (.cells (stepC 5 key st (.slice Av nn cc) dead tt) 29)) 33 (tellC 0 0 0 false (.slice none 0 0) (.slice none 0 0) (.slice none 0 0)) (n := w.heap.size + 1) (by simp)).alloc (.cells (tellC 0 0 0 false (.slice none 0 0) (.slice none 0 0) (.slice none 0 0)) 33)
  have hB5 := Blk.new' ((w.alloc (.cells (stepC 5 key st (.slice Av nn cc) dead tt) 29)).alloc (.cells (tellC 0 0 0 false (.slice none 0 0) (.slice none 0 0) (.slice none 0 0)) 33)) 33 (tellC 0 0 0 false (.slice none 0 0) (.slice none 0 0) (.slice none 0 0)) (n := w.heap.size + 1 + 1) (by simp)
  have HO := Lib.hid hO
  have HA := Lib.hid hA
  have HT := Lib.hid hT
  have HR := Lib.hid hR
  have HB4 := Lib.hid hB4
  have HB5 := Lib.hid hB5
  have HBY := Lib.hid (hby.keep hO)
  have HNN := Lib.hid hnn
  have HRA := Lib.hid ((hA w (Only.refl _ _)).keep hO)
  have HZ3 := Lib.hid (show (((w.alloc (.cells (stepC 5 key st (.slice Av nn cc) dead tt) 29)).alloc (.cells (tellC 0 0 0 false (.slice none 0 0) (.slice none 0 0) (.slice none 0 0)) 33)).alloc (.cells (tellC 0 0 0 false (.slice none 0 0) (.slice none 0 0) (.slice none 0 0)) 33)).heap.size = w.heap.size + 3 by simp)
  have HC := Lib.hid (Live_ref (((w.alloc (.cells (stepC 5 key st (.slice Av nn cc) dead tt) 29)).alloc (.cells (tellC 0 0 0 false (.slice none 0 0) (.slice none 0 0) (.slice none 0 0)) 33)).alloc (.cells (tellC 0 0 0 false (.slice none 0 0) (.slice none 0 0) (.slice none 0 0)) 33)) A cap rs R hR HRA.out (by omega))
  have c0 := hB3.cellv 0 rfl
  have c1 := hB3.cellv 1 rfl
  have c2 := hB3.cellv 2 rfl
  have c3 := hB3.cellv 3 rfl
  have c4 := hB3.cellv 4 rfl
  have c5 := hB3.cellv 5 rfl
  obtain ⟨n, hn⟩ : ∃ n, rs.length = n := ⟨_, rfl⟩
  have HN := Lib.hid hn
  rw [hn] at hfew ⊢
  rw [hn] at HC
  clear hO hB3 hB4 hB5 hby hR hA hT hn hnn
  go_enter Try.func32, Try.ntmps32
  go_wp2_with fail
  refine HC.out.mono ?_; rintro e w4 ⟨rfl, hO4⟩
  have HO4 := Lib.hid hO4
  have hsz4 := hO4.size
  have hz4 : w.heap.size + 3 ≤ w4.heap.size := by simpa using hsz4
  have B4 := HB4.out.only hO4 (fun h => h)
  have B5 := HB5.out.only hO4 (fun h => h)
  have f1 := B5.free 1
  have k1 := B5.cellv 1 rfl
  have F5 := Lib.hid (B5.put 1 (.int .i64 (liveR R)))
  have F4 := Lib.hid (B4.far (p := ⟨w.heap.size + 1 + 1, 1, none⟩) (by simp) (.int .i64 (liveR R)))
  have FR := Lib.hid (F4.out.row #[.int .i64 0, .int .i64 (liveR R), .int .i64 0, .bool false, .slice none 0 0, .slice none 0 0, .slice none 0 0])
  have FO := Lib.hid (((Only.refl (fun k => k = w.heap.size + 1 ∨ k = w.heap.size + 1 + 1) w4).put (p := ⟨w.heap.size + 1 + 1, 1, none⟩) (.inl (.inr rfl)) (.int .i64 (liveR R))).row (b := w.heap.size + 1) (.inl (.inl rfl)) #[.int .i64 0, .int .i64 (liveR R), .int .i64 0, .bool false, .slice none 0 0, .slice none 0 0, .slice none 0 0])
  clear B4 B5
  go_wp2_with (first | (refine wpList_load_row rfl 33 (.tmp 6) rfl (w.heap.size + 1 + 1) rfl 33 _ (0, 0) _ F5.out Try.underlying33 rfl info33 ?_) | (refine wpList_store_row rfl 33 (.tmp 4) (.tmp 89) rfl (w.heap.size + 1) #[.int .i64 0, .int .i64 (liveR R), .int .i64 0, .bool false, .slice none 0 0, .slice none 0 0, .slice none 0 0] rfl rfl 33 (tellC 0 0 0 false (.slice none 0 0) (.slice none 0 0) (.slice none 0 0)) F4.out info33 rfl (by simp [Value.oneCell']) ?_) | fail)
  have g0 := FR.out.cellv 0 rfl
  have g1 := FR.out.cellv 1 rfl
  have g2 := FR.out.cellv 2 rfl
  have g3 := FR.out.cellv 3 rfl
  have g4 := FR.out.cellv 4 rfl
  have g5 := FR.out.cellv 5 rfl
  have g6 := FR.out.cellv 6 rfl
  have HOF := Lib.hid ((HO.out.trans HO4.out).step FO.out (fun k hk e => by have := HZ3.out; omega))
  refine bodyPost_ret (v := .tuple #[.agg #[.int .i64 0, .int .i64 (liveR R), .int .i64 0, .bool false, .slice none 0 0, .slice none 0 0, .slice none 0 0], .slice A n cap]) (by simp [results, Try.results32, go_sem, g0, g1, g2, g3, g4, g5, g6]) rfl ?_
  have HLD := Lib.hid (fun w'' (ho : Only T _ w'') => HA.out w'' ((HOF.out.mono (S' := T) (fun _ _ h => h.elim)).step ho (fun k _ h => h)))
  exact ⟨_, A, cap, rs, by rw [HN.out], HR.out, HOF.out, fun w'' ho => ⟨tat_plain _ _ _ _ _, HLD.out w'' ho⟩⟩
set_option maxRecDepth 100000 in
set_option maxHeartbeats 8000000 in
theorem want_6 (w : World) (T : Nat → Prop) (A : Option Addr) (cap : Nat) (rs : List VRow) (R : List KV) (x : Stp) (Av : Option Addr) (cc : Nat) (hT : ∀ k, T k → k < w.heap.size) (hR : RGood rs R) (hA : ∀ w', Only T w w' → RAt w' A rs) (hfew : rs.length < 2513169434843)
    (hk : x.kind = 6) (hkey : x.key.size ≤ maxLen) (hby : BytesAt w Av x.bs) :
    Calls Try.prog 32 #[.slice A rs.length cap, .agg (stepC x.kind x.key x.st (.slice Av x.bs.length cc) x.dead x.tt)] w (WantPost T R x w) := by
  obtain ⟨kind, key, st, bs, dead, tt⟩ := x
  simp only at hk hkey hby ⊢
  subst hk
  obtain ⟨nn, hnn⟩ : ∃ nn, bs.length = nn := ⟨_, rfl⟩
  rw [hnn]
  have hO : Only NoneOf w (((w.alloc (.cells (stepC 6 key st (.slice Av nn cc) dead tt) 29)).alloc (.cells (tellC 0 0 0 false (.slice none 0 0) (.slice none 0 0) (.slice none 0 0)) 33)).alloc (.cells (tellC 0 0 0 false (.slice none 0 0) (.slice none 0 0) (.slice none 0 0)) 33)) := (((Only.refl _ _).alloc _).alloc _).alloc _
  have hB3 := ((Blk.new w 29 (stepC 6 key st (.slice Av nn cc) dead tt)).alloc (.cells (tellC 0 0 0 false (.slice none 0 0) (.slice none 0 0) (.slice none 0 0)) 33)).alloc (.cells (tellC 0 0 0 false (.slice none 0 0) (.slice none 0 0) (.slice none 0 0)) 33)
  have hB4 := (Blk.new' (w.alloc (.cells (stepC 6 key st (.slice Av nn cc) dead tt) 29)) 33 (tellC 0 0 0 false (.slice none 0 0) (.slice none 0 0) (.slice none 0 0)) (n := w.heap.size + 1) (by simp)).alloc (.cells (tellC 0 0 0 false (.slice none 0 0) (.slice none 0 0) (.slice none 0 0)) 33)
  have hB5 := Blk.new' ((w.alloc (.cells (stepC 6 key st (.slice Av nn cc) dead tt) 29)).alloc (.cells (tellC 0 0 0 false (.slice none 0 0) (.slice none 0 0) (.slice none 0 0)) 33)) 33 (tellC 0 0 0 false (.slice none 0 0) (.slice none 0 0) (.slice none 0 0)) (n := w.heap.size + 1 + 1) (by simp)
  have HO := Lib.hid hO
  have HA := Lib.hid hA
  have HT := Lib.hid hT
  have HR := Lib.hid hR
  have HB4 := Lib.hid hB4
  have HB5 := Lib.hid hB5
  have HBY := Lib.hid (hby.keep hO)
  have HNN := Lib.hid hnn
  have HRA := Lib.hid ((hA w (Only.refl _ _)).keep hO)
  have HZ3 := Lib.hid (show (((w.alloc (.cells (stepC 6 key st (.slice Av nn cc) dead tt) 29)).alloc (.cells (tellC 0 0 0 false (.slice none 0 0) (.slice none 0 0) (.slice none 0 0)) 33)).alloc (.cells (tellC 0 0 0 false (.slice none 0 0) (.slice none 0 0) (.slice none 0 0)) 33)).heap.size = w.heap.size + 3 by simp)
  have HC := Keys_ref (((w.alloc (.cells (stepC 6 key st (.slice Av nn cc) dead tt) 29)).alloc (.cells (tellC 0 0 0 false (.slice none 0 0) (.slice none 0 0) (.slice none 0 0)) 33)).alloc (.cells (tellC 0 0 0 false (.slice none 0 0) (.slice none 0 0) (.slice none 0 0)) 33)) A cap rs HRA.out (by omega)
  rw [hR.keys] at HC
  replace HC := Lib.hid HC
  have c0 := hB3.cellv 0 rfl
  have c1 := hB3.cellv 1 rfl
  have c2 := hB3.cellv 2 rfl
  have c3 := hB3.cellv 3 rfl
  have c4 := hB3.cellv 4 rfl
  have c5 := hB3.cellv 5 rfl
  obtain ⟨n, hn⟩ : ∃ n, rs.length = n := ⟨_, rfl⟩
  have HN := Lib.hid hn
  rw [hn] at hfew ⊢
  rw [hn] at HC
  clear hO hB3 hB4 hB5 hby hR hA hT hn hnn
  go_enter Try.func32, Try.ntmps32
  go_wp2_with fail
  refine HC.out.mono ?_; rintro e w4 ⟨vk, rfl, hrow, hO4⟩
  obtain ⟨Ak, ck, rfl⟩ := ownsRow_slice hrow
  have HO4 := Lib.hid hO4
  have hsz4 := hO4.size
  have hz4 : w.heap.size + 3 ≤ w4.heap.size := by simpa using hsz4
  have B4 := HB4.out.only hO4 (fun h => h)
  have B5 := HB5.out.only hO4 (fun h => h)
  have HLEN := Lib.hid HR.out.len
  obtain ⟨nk, hnk⟩ : ∃ nk, (keysR R).length = nk := ⟨_, rfl⟩
  have HNK := Lib.hid hnk
  rw [hnk]
  clear hrow hnk
  have f1 := B5.free 1
  have k1 := B5.cellv 1 rfl
  have f2 := B5.free 2
  have k2 := B5.cellv 2 rfl
  have F5 := Lib.hid ((B5.put 1 (.int .i64 (nk : Int))).put 2 (.int .i64 (n : Int)))
  have F4 := Lib.hid ((B4.far (p := ⟨w.heap.size + 1 + 1, 1, none⟩) (by simp) (.int .i64 (nk : Int))).far (p := ⟨w.heap.size + 1 + 1, 2, none⟩) (by simp) (.int .i64 (n : Int)))
  have FR := Lib.hid (F4.out.row #[.int .i64 0, .int .i64 (nk : Int), .int .i64 (n : Int), .bool false, .slice none 0 0, .slice none 0 0, .slice none 0 0])
  have FO := Lib.hid ((((Only.refl (fun k => k = w.heap.size + 1 ∨ k = w.heap.size + 1 + 1) w4).put (p := ⟨w.heap.size + 1 + 1, 1, none⟩) (.inl (.inr rfl)) (.int .i64 (nk : Int))).put (p := ⟨w.heap.size + 1 + 1, 2, none⟩) (.inl (.inr rfl)) (.int .i64 (n : Int))).row (b := w.heap.size + 1) (.inl (.inl rfl)) #[.int .i64 0, .int .i64 (nk : Int), .int .i64 (n : Int), .bool false, .slice none 0 0, .slice none 0 0, .slice none 0 0])
  clear B4 B5
  go_wp2_with (first | (refine wpList_load_row rfl 33 (.tmp 6) rfl (w.heap.size + 1 + 1) rfl 33 _ (0, 0) _ F5.out Try.underlying33 rfl info33 ?_) | (refine wpList_store_row rfl 33 (.tmp 4) (.tmp 89) rfl (w.heap.size + 1) #[.int .i64 0, .int .i64 (nk : Int), .int .i64 (n : Int), .bool false, .slice none 0 0, .slice none 0 0, .slice none 0 0] rfl rfl 33 (tellC 0 0 0 false (.slice none 0 0) (.slice none 0 0) (.slice none 0 0)) F4.out info33 rfl (by simp [Value.oneCell']) ?_) | fail)
  have g0 := FR.out.cellv 0 rfl
  have g1 := FR.out.cellv 1 rfl
  have g2 := FR.out.cellv 2 rfl
  have g3 := FR.out.cellv 3 rfl
  have g4 := FR.out.cellv 4 rfl
  have g5 := FR.out.cellv 5 rfl
  have g6 := FR.out.cellv 6 rfl
  have HOF := Lib.hid ((HO.out.trans HO4.out).step FO.out (fun k hk e => by have := HZ3.out; omega))
  refine bodyPost_ret (v := .tuple #[.agg #[.int .i64 0, .int .i64 (nk : Int), .int .i64 (n : Int), .bool false, .slice none 0 0, .slice none 0 0, .slice none 0 0], .slice A n cap]) (by simp [results, Try.results32, go_sem, g0, g1, g2, g3, g4, g5, g6]) rfl ?_
  have HLD := Lib.hid (fun w'' (ho : Only T _ w'') => HA.out w'' ((HOF.out.mono (S' := T) (fun _ _ h => h.elim)).step ho (fun k _ h => h)))
  have e9 : ansR R ⟨6, key, st, bs, dead, tt⟩ = { n := (nk : Int), m := (n : Int) } := by simp [ansR, HNK.out, ← HLEN.out, HN.out]
  exact ⟨_, A, cap, rs, by rw [HN.out], HR.out, HOF.out, fun w'' ho => ⟨by rw [e9]; exact tat_plain _ _ _ _ _, HLD.out w'' ho⟩⟩
set_option maxRecDepth 100000 in
set_option maxHeartbeats 8000000 in
theorem want_3 (w : World) (T : Nat → Prop) (A : Option Addr) (cap : Nat) (rs : List VRow) (R : List KV) (x : Stp) (Av : Option Addr) (cc : Nat) (hT : ∀ k, T k → k < w.heap.size) (hR : RGood rs R) (hA : ∀ w', Only T w w' → RAt w' A rs) (hfew : rs.length < 2513169434843)
    (hk : x.kind = 3) (hkey : x.key.size ≤ maxLen) (hby : BytesAt w Av x.bs) :
    Calls Try.prog 32 #[.slice A rs.length cap, .agg (stepC x.kind x.key x.st (.slice Av x.bs.length cc) x.dead x.tt)] w (WantPost T R x w) := by
  obtain ⟨kind, key, st, bs, dead, tt⟩ := x
  simp only at hk hkey hby ⊢
  subst hk
  obtain ⟨nn, hnn⟩ : ∃ nn, bs.length = nn := ⟨_, rfl⟩
  rw [hnn]
  have hO : Only NoneOf w (((w.alloc (.cells (stepC 3 key st (.slice Av nn cc) dead tt) 29)).alloc (.cells (tellC 0 0 0 false (.slice none 0 0) (.slice none 0 0) (.slice none 0 0)) 33)).alloc (.cells (tellC 0 0 0 false (.slice none 0 0) (.slice none 0 0) (.slice none 0 0)) 33)) := (((Only.refl _ _).alloc _).alloc _).alloc _
  have hB3 := ((Blk.new w 29 (stepC 3 key st (.slice Av nn cc) dead tt)).alloc (.cells (tellC 0 0 0 false (.slice none 0 0) (.slice none 0 0) (.slice none 0 0)) 33)).alloc (.cells (tellC 0 0 0 false (.slice none 0 0) (.slice none 0 0) (.slice none 0 0)) 33)
  have hB4 := (Blk.new' (w.alloc (.cells (stepC 3 key st (.slice Av nn cc) dead tt) 29)) 33 (tellC 0 0 0 false (.slice none 0 0) (.slice none 0 0) (.slice none 0 0)) (n := w.heap.size + 1) (by simp)).alloc (.cells (tellC 0 0 0 false (.slice none 0 0) (.slice none 0 0) (.slice none 0 0)) 33)
  have hB5 := Blk.new' ((w.alloc (.cells (stepC 3 key st (.slice Av nn cc) dead tt) 29)).alloc (.cells (tellC 0 0 0 false (.slice none 0 0) (.slice none 0 0) (.slice none 0 0)) 33)) 33 (tellC 0 0 0 false (.slice none 0 0) (.slice none 0 0) (.slice none 0 0)) (n := w.heap.size + 1 + 1) (by simp)
  have HO := Lib.hid hO
  have HA := Lib.hid hA
  have HT := Lib.hid hT
  have HR := Lib.hid hR
  have HB4 := Lib.hid hB4
  have HB5 := Lib.hid hB5
  have HBY := Lib.hid (hby.keep hO)
  have HNN := Lib.hid hnn
  have HRA := Lib.hid ((hA w (Only.refl _ _)).keep hO)
  have HZ3 := Lib.hid (show (((w.alloc (.cells (stepC 3 key st (.slice Av nn cc) dead tt) 29)).alloc (.cells (tellC 0 0 0 false (.slice none 0 0) (.slice none 0 0) (.slice none 0 0)) 33)).alloc (.cells (tellC 0 0 0 false (.slice none 0 0) (.slice none 0 0) (.slice none 0 0)) 33)).heap.size = w.heap.size + 3 by simp)
  have HC := Lib.hid (Scan_ref (((w.alloc (.cells (stepC 3 key st (.slice Av nn cc) dead tt) 29)).alloc (.cells (tellC 0 0 0 false (.slice none 0 0) (.slice none 0 0) (.slice none 0 0)) 33)).alloc (.cells (tellC 0 0 0 false (.slice none 0 0) (.slice none 0 0) (.slice none 0 0)) 33)) A cap rs R hR HRA.out (by omega) key tt st)
  have c0 := hB3.cellv 0 rfl
  have c1 := hB3.cellv 1 rfl
  have c2 := hB3.cellv 2 rfl
  have c3 := hB3.cellv 3 rfl
  have c4 := hB3.cellv 4 rfl
  have c5 := hB3.cellv 5 rfl
  obtain ⟨n, hn⟩ : ∃ n, rs.length = n := ⟨_, rfl⟩
  have HN := Lib.hid hn
  rw [hn] at hfew ⊢
  rw [hn] at HC
  clear hO hB3 hB4 hB5 hby hR hA hT hn hnn
  go_enter Try.func32, Try.ntmps32
  go_wp2_with fail
  refine HC.out.mono ?_; rintro e w4 ⟨vp, ps, rfl, hps, hpl, hO4⟩
  obtain ⟨Ap, cp, rfl⟩ := ownsRow_slice hps.own
  have HPS := Lib.hid hps
  have HPL := Lib.hid hpl
  have HO4 := Lib.hid hO4
  have hsz4 := hO4.size
  have hz4 : w.heap.size + 3 ≤ w4.heap.size := by simpa using hsz4
  have B4 := HB4.out.only hO4 (fun h => h)
  have B5 := HB5.out.only hO4 (fun h => h)
  clear hps hpl hO4
  have f5 := B5.free 5
  have k5 := B5.cellv 5 rfl
  have F5 := Lib.hid (B5.put 5 (.slice Ap ps.length cp))
  have F4 := Lib.hid (B4.far (p := ⟨w.heap.size + 1 + 1, 5, none⟩) (by simp) (.slice Ap ps.length cp))
  have FR := Lib.hid (F4.out.row #[.int .i64 0, .int .i64 0, .int .i64 0, .bool false, .slice none 0 0, .slice Ap ps.length cp, .slice none 0 0])
  have FO := Lib.hid (((Only.refl (fun k => k = w.heap.size + 1 ∨ k = w.heap.size + 1 + 1) w4).put (p := ⟨w.heap.size + 1 + 1, 5, none⟩) (.inl (.inr rfl)) (.slice Ap ps.length cp)).row (b := w.heap.size + 1) (.inl (.inl rfl)) #[.int .i64 0, .int .i64 0, .int .i64 0, .bool false, .slice none 0 0, .slice Ap ps.length cp, .slice none 0 0])
  clear B4 B5
  go_wp2_with (first | (refine wpList_load_row rfl 33 (.tmp 6) rfl (w.heap.size + 1 + 1) rfl 33 _ (0, 0) _ F5.out Try.underlying33 rfl info33 ?_) | (refine wpList_store_row rfl 33 (.tmp 4) (.tmp 89) rfl (w.heap.size + 1) #[.int .i64 0, .int .i64 0, .int .i64 0, .bool false, .slice none 0 0, .slice Ap ps.length cp, .slice none 0 0] rfl rfl 33 (tellC 0 0 0 false (.slice none 0 0) (.slice none 0 0) (.slice none 0 0)) F4.out info33 rfl (by simp [Value.oneCell']) ?_) | fail)
  have g0 := FR.out.cellv 0 rfl
  have g1 := FR.out.cellv 1 rfl
  have g2 := FR.out.cellv 2 rfl
  have g3 := FR.out.cellv 3 rfl
  have g4 := FR.out.cellv 4 rfl
  have g5 := FR.out.cellv 5 rfl
  have g6 := FR.out.cellv 6 rfl
  have HOF := Lib.hid ((HO.out.trans HO4.out).step FO.out (fun k hk e => by have := HZ3.out; omega))
  refine bodyPost_ret (v := .tuple #[.agg #[.int .i64 0, .int .i64 0, .int .i64 0, .bool false, .slice none 0 0, .slice Ap ps.length cp, .slice none 0 0], .slice A n cap]) (by simp [results, Try.results32, go_sem, g0, g1, g2, g3, g4, g5, g6]) rfl ?_
  have HLD := Lib.hid (fun w'' (ho : Only T _ w'') => HA.out w'' ((HOF.out.mono (S' := T) (fun _ _ h => h.elim)).step ho (fun k _ h => h)))
  have e9 : ansR R ⟨3, key, st, bs, dead, tt⟩ = { pairs := scanR R key tt st } := rfl
  have hlow : ∀ g, w.heap.size + 3 ≤ g → (¬ (g = w.heap.size + 1 ∨ g = w.heap.size + 1 + 1)) ∧ ¬ T g := fun g hg => ⟨by omega, fun ht => by have := HT.out g ht; omega⟩
  exact ⟨_, A, cap, rs, by rw [HN.out], HR.out, HOF.out, fun w'' ho => ⟨by rw [e9]; exact ⟨_, _, _, rfl, bytesV_nil _, by rw [← HPL.out]; exact listAt_pairs ((HPS.out.only FO.out (fun k hk => (hlow k (by have := (HPS.out.lt hk).1; have := HZ3.out; omega)).1)).only ho (fun k hk => (hlow k (by have := (HPS.out.lt hk).1; have := HZ3.out; omega)).2)), listAt_nil _ _ _⟩, HLD.out w'' ho⟩⟩
set_option maxRecDepth 100000 in
set_option maxHeartbeats 8000000 in
theorem want_7 (w : World) (T : Nat → Prop) (A : Option Addr) (cap : Nat) (rs : List VRow) (R : List KV) (x : Stp) (Av : Option Addr) (cc : Nat) (hT : ∀ k, T k → k < w.heap.size) (hR : RGood rs R) (hA : ∀ w', Only T w w' → RAt w' A rs) (hfew : rs.length < 2513169434843)
    (hk : x.kind = 7) (hkey : x.key.size ≤ maxLen) (hby : BytesAt w Av x.bs) :
    Calls Try.prog 32 #[.slice A rs.length cap, .agg (stepC x.kind x.key x.st (.slice Av x.bs.length cc) x.dead x.tt)] w (WantPost T R x w) := by
  obtain ⟨kind, key, st, bs, dead, tt⟩ := x
  simp only at hk hkey hby ⊢
  subst hk
  obtain ⟨nn, hnn⟩ : ∃ nn, bs.length = nn := ⟨_, rfl⟩
  rw [hnn]
  have hO : Only NoneOf w (((w.alloc (.cells (stepC 7 key st (.slice Av nn cc) dead tt) 29)).alloc (.cells (tellC 0 0 0 false (.slice none 0 0) (.slice none 0 0) (.slice none 0 0)) 33)).alloc (.cells (tellC 0 0 0 false (.slice none 0 0) (.slice none 0 0) (.slice none 0 0)) 33)) := (((Only.refl _ _).alloc _).alloc _).alloc _
  have hB3 := ((Blk.new w 29 (stepC 7 key st (.slice Av nn cc) dead tt)).alloc (.cells (tellC 0 0 0 false (.slice none 0 0) (.slice none 0 0) (.slice none 0 0)) 33)).alloc (.cells (tellC 0 0 0 false (.slice none 0 0) (.slice none 0 0) (.slice none 0 0)) 33)
  have hB4 := (Blk.new' (w.alloc (.cells (stepC 7 key st (.slice Av nn cc) dead tt) 29)) 33 (tellC 0 0 0 false (.slice none 0 0) (.slice none 0 0) (.slice none 0 0)) (n := w.heap.size + 1) (by simp)).alloc (.cells (tellC 0 0 0 false (.slice none 0 0) (.slice none 0 0) (.slice none 0 0)) 33)
  have hB5 := Blk.new' ((w.alloc (.cells (stepC 7 key st (.slice Av nn cc) dead tt) 29)).alloc (.cells (tellC 0 0 0 false (.slice none 0 0) (.slice none 0 0) (.slice none 0 0)) 33)) 33 (tellC 0 0 0 false (.slice none 0 0) (.slice none 0 0) (.slice none 0 0)) (n := w.heap.size + 1 + 1) (by simp)
  have HO := Lib.hid hO
  have HA := Lib.hid hA
  have HT := Lib.hid hT
  have HR := Lib.hid hR
  have HB4 := Lib.hid hB4
  have HB5 := Lib.hid hB5
  have HBY := Lib.hid (hby.keep hO)
  have HNN := Lib.hid hnn
  have HRA := Lib.hid ((hA w (Only.refl _ _)).keep hO)
  have HZ3 := Lib.hid (show (((w.alloc (.cells (stepC 7 key st (.slice Av nn cc) dead tt) 29)).alloc (.cells (tellC 0 0 0 false (.slice none 0 0) (.slice none 0 0) (.slice none 0 0)) 33)).alloc (.cells (tellC 0 0 0 false (.slice none 0 0) (.slice none 0 0) (.slice none 0 0)) 33)).heap.size = w.heap.size + 3 by simp)
  have HC := Lib.hid (Versions_ref (((w.alloc (.cells (stepC 7 key st (.slice Av nn cc) dead tt) 29)).alloc (.cells (tellC 0 0 0 false (.slice none 0 0) (.slice none 0 0) (.slice none 0 0)) 33)).alloc (.cells (tellC 0 0 0 false (.slice none 0 0) (.slice none 0 0) (.slice none 0 0)) 33)) A cap rs R hR HRA.out (by omega))
  have c0 := hB3.cellv 0 rfl
  have c1 := hB3.cellv 1 rfl
  have c2 := hB3.cellv 2 rfl
  have c3 := hB3.cellv 3 rfl
  have c4 := hB3.cellv 4 rfl
  have c5 := hB3.cellv 5 rfl
  obtain ⟨n, hn⟩ : ∃ n, rs.length = n := ⟨_, rfl⟩
  have HN := Lib.hid hn
  rw [hn] at hfew ⊢
  rw [hn] at HC
  clear hO hB3 hB4 hB5 hby hR hA hT hn hnn
  go_enter Try.func32, Try.ntmps32
  go_wp2_with fail
  refine HC.out.mono ?_; rintro e w4 ⟨vq, qs, rfl, hown, hsub, hpl, hO4⟩
  obtain ⟨Aq, cq, rfl⟩ := ownsRow_slice hown
  have HOWN := Lib.hid hown
  have HSUB := Lib.hid hsub
  have HPL := Lib.hid hpl
  have HO4 := Lib.hid hO4
  have hsz4 := hO4.size
  have hz4 : w.heap.size + 3 ≤ w4.heap.size := by simpa using hsz4
  have B4 := HB4.out.only hO4 (fun h => h)
  have B5 := HB5.out.only hO4 (fun h => h)
  clear hown hsub hpl hO4
  have f6 := B5.free 6
  have k6 := B5.cellv 6 rfl
  have F5 := Lib.hid (B5.put 6 (.slice Aq qs.length cq))
  have F4 := Lib.hid (B4.far (p := ⟨w.heap.size + 1 + 1, 6, none⟩) (by simp) (.slice Aq qs.length cq))
  have FR := Lib.hid (F4.out.row #[.int .i64 0, .int .i64 0, .int .i64 0, .bool false, .slice none 0 0, .slice none 0 0, .slice Aq qs.length cq])
  have FO := Lib.hid (((Only.refl (fun k => k = w.heap.size + 1 ∨ k = w.heap.size + 1 + 1) w4).put (p := ⟨w.heap.size + 1 + 1, 6, none⟩) (.inl (.inr rfl)) (.slice Aq qs.length cq)).row (b := w.heap.size + 1) (.inl (.inl rfl)) #[.int .i64 0, .int .i64 0, .int .i64 0, .bool false, .slice none 0 0, .slice none 0 0, .slice Aq qs.length cq])
  clear B4 B5
  go_wp2_with (first | (refine wpList_load_row rfl 33 (.tmp 6) rfl (w.heap.size + 1 + 1) rfl 33 _ (0, 0) _ F5.out Try.underlying33 rfl info33 ?_) | (refine wpList_store_row rfl 33 (.tmp 4) (.tmp 89) rfl (w.heap.size + 1) #[.int .i64 0, .int .i64 0, .int .i64 0, .bool false, .slice none 0 0, .slice none 0 0, .slice Aq qs.length cq] rfl rfl 33 (tellC 0 0 0 false (.slice none 0 0) (.slice none 0 0) (.slice none 0 0)) F4.out info33 rfl (by simp [Value.oneCell']) ?_) | fail)
  have g0 := FR.out.cellv 0 rfl
  have g1 := FR.out.cellv 1 rfl
  have g2 := FR.out.cellv 2 rfl
  have g3 := FR.out.cellv 3 rfl
  have g4 := FR.out.cellv 4 rfl
  have g5 := FR.out.cellv 5 rfl
  have g6 := FR.out.cellv 6 rfl
  have HOF := Lib.hid ((HO.out.trans HO4.out).step FO.out (fun k hk e => by have := HZ3.out; omega))
  refine bodyPost_ret (v := .tuple #[.agg #[.int .i64 0, .int .i64 0, .int .i64 0, .bool false, .slice none 0 0, .slice none 0 0, .slice Aq qs.length cq], .slice A n cap]) (by simp [results, Try.results32, go_sem, g0, g1, g2, g3, g4, g5, g6]) rfl ?_
  have HLD := Lib.hid (fun w'' (ho : Only T _ w'') => HA.out w'' ((HOF.out.mono (S' := T) (fun _ _ h => h.elim)).step ho (fun k _ h => h)))
  have e9 : ansR R ⟨7, key, st, bs, dead, tt⟩ = { l := versR R } := rfl
  have hlow : ∀ g, w.heap.size + 3 ≤ g → (¬ (g = w.heap.size + 1 ∨ g = w.heap.size + 1 + 1)) ∧ ¬ T g := fun g hg => ⟨by omega, fun ht => by have := HT.out g ht; omega⟩
  exact ⟨_, A, cap, rs, by rw [HN.out], HR.out, HOF.out, fun w'' ho => ⟨by rw [e9]; exact ⟨_, _, _, rfl, bytesV_nil _, listAt_nil _ _ _, by rw [← HPL.out]; exact list_rows (ownsRow_only (ownsRow_only HOWN.out FO.out (fun g hg => (hlow g (by have := (ownsRow_lt HOWN.out hg).1; have := HZ3.out; omega)).1)) ho (fun g hg => (hlow g (by have := (ownsRow_lt HOWN.out hg).1; have := HZ3.out; omega)).2)) (fun r hr => rat_val (HLD.out w'' ho) (HSUB.out r hr))⟩, HLD.out w'' ho⟩⟩
set_option maxRecDepth 100000 in
set_option maxHeartbeats 8000000 in
theorem want_2 (w : World) (T : Nat → Prop) (A : Option Addr) (cap : Nat) (rs : List VRow) (R : List KV) (x : Stp) (Av : Option Addr) (cc : Nat) (hT : ∀ k, T k → k < w.heap.size) (hR : RGood rs R) (hA : ∀ w', Only T w w' → RAt w' A rs) (hfew : rs.length < 2513169434843)
    (hk : x.kind = 2) (hkey : x.key.size ≤ maxLen) (hby : BytesAt w Av x.bs) :
    Calls Try.prog 32 #[.slice A rs.length cap, .agg (stepC x.kind x.key x.st (.slice Av x.bs.length cc) x.dead x.tt)] w (WantPost T R x w) := by
  obtain ⟨kind, key, st, bs, dead, tt⟩ := x
  simp only at hk hkey hby ⊢
  subst hk
  obtain ⟨nn, hnn⟩ : ∃ nn, bs.length = nn := ⟨_, rfl⟩
  rw [hnn]
  have hO : Only NoneOf w (((w.alloc (.cells (stepC 2 key st (.slice Av nn cc) dead tt) 29)).alloc (.cells (tellC 0 0 0 false (.slice none 0 0) (.slice none 0 0) (.slice none 0 0)) 33)).alloc (.cells (tellC 0 0 0 false (.slice none 0 0) (.slice none 0 0) (.slice none 0 0)) 33)) := (((Only.refl _ _).alloc _).alloc _).alloc _
  have hB3 := ((Blk.new w 29 (stepC 2 key st (.slice Av nn cc) dead tt)).alloc (.cells (tellC 0 0 0 false (.slice none 0 0) (.slice none 0 0) (.slice none 0 0)) 33)).alloc (.cells (tellC 0 0 0 false (.slice none 0 0) (.slice none 0 0) (.slice none 0 0)) 33)
  have hB4 := (Blk.new' (w.alloc (.cells (stepC 2 key st (.slice Av nn cc) dead tt) 29)) 33 (tellC 0 0 0 false (.slice none 0 0) (.slice none 0 0) (.slice none 0 0)) (n := w.heap.size + 1) (by simp)).alloc (.cells (tellC 0 0 0 false (.slice none 0 0) (.slice none 0 0) (.slice none 0 0)) 33)
  have hB5 := Blk.new' ((w.alloc (.cells (stepC 2 key st (.slice Av nn cc) dead tt) 29)).alloc (.cells (tellC 0 0 0 false (.slice none 0 0) (.slice none 0 0) (.slice none 0 0)) 33)) 33 (tellC 0 0 0 false (.slice none 0 0) (.slice none 0 0) (.slice none 0 0)) (n := w.heap.size + 1 + 1) (by simp)
  have HO := Lib.hid hO
  have HA := Lib.hid hA
  have HT := Lib.hid hT
  have HR := Lib.hid hR
  have HB4 := Lib.hid hB4
  have HB5 := Lib.hid hB5
  have HBY := Lib.hid (hby.keep hO)
  have HNN := Lib.hid hnn
  have HRA := Lib.hid ((hA w (Only.refl _ _)).keep hO)
  have HZ3 := Lib.hid (show (((w.alloc (.cells (stepC 2 key st (.slice Av nn cc) dead tt) 29)).alloc (.cells (tellC 0 0 0 false (.slice none 0 0) (.slice none 0 0) (.slice none 0 0)) 33)).alloc (.cells (tellC 0 0 0 false (.slice none 0 0) (.slice none 0 0) (.slice none 0 0)) 33)).heap.size = w.heap.size + 3 by simp)
  have HC := Lib.hid (Newest_ref (((w.alloc (.cells (stepC 2 key st (.slice Av nn cc) dead tt) 29)).alloc (.cells (tellC 0 0 0 false (.slice none 0 0) (.slice none 0 0) (.slice none 0 0)) 33)).alloc (.cells (tellC 0 0 0 false (.slice none 0 0) (.slice none 0 0) (.slice none 0 0)) 33)) A cap rs key HRA.out (by omega))
  have c0 := hB3.cellv 0 rfl
  have c1 := hB3.cellv 1 rfl
  have c2 := hB3.cellv 2 rfl
  have c3 := hB3.cellv 3 rfl
  have c4 := hB3.cellv 4 rfl
  have c5 := hB3.cellv 5 rfl
  obtain ⟨n, hn⟩ : ∃ n, rs.length = n := ⟨_, rfl⟩
  have HN := Lib.hid hn
  rw [hn] at hfew ⊢
  rw [hn] at HC
  clear hO hB3 hB4 hB5 hby hR hA hT hn hnn
  go_enter Try.func32, Try.ntmps32
  have HLAST := Lib.hid (HR.out.last key)
  obtain ⟨o, ho⟩ : ∃ o, nwRow rs key 4611686018427387904 = o := ⟨_, rfl⟩
  rw [ho] at HC HLAST
  go_wp2_with fail
  refine HC.out.mono ?_; rintro e w4 ⟨rfl, hO4⟩
  have HO4 := Lib.hid hO4
  have hsz4 := hO4.size
  have hz4 : w.heap.size + 3 ≤ w4.heap.size := by simpa using hsz4
  have B4 := HB4.out.only hO4 (fun h => h)
  have B5 := HB5.out.only hO4 (fun h => h)
  clear ho hO4
  cases o with
  | none =>
    simp only [Option.isSome_none]
    have f1 := B5.free 1
    have k1 := B5.cellv 1 rfl
    have f3 := B5.free 3
    have k3 := B5.cellv 3 rfl
    have F5 := Lib.hid ((B5.put 1 (.int .i64 0)).put 3 (.bool false))
    have F4 := Lib.hid ((B4.far (p := ⟨w.heap.size + 1 + 1, 1, none⟩) (by simp) (.int .i64 0)).far (p := ⟨w.heap.size + 1 + 1, 3, none⟩) (by simp) (.bool false))
    have FR := Lib.hid (F4.out.row #[.int .i64 0, .int .i64 0, .int .i64 0, .bool false, .slice none 0 0, .slice none 0 0, .slice none 0 0])
    have FO := Lib.hid ((((Only.refl (fun k => k = w.heap.size + 1 ∨ k = w.heap.size + 1 + 1) w4).put (p := ⟨w.heap.size + 1 + 1, 1, none⟩) (.inl (.inr rfl)) (.int .i64 0)).put (p := ⟨w.heap.size + 1 + 1, 3, none⟩) (.inl (.inr rfl)) (.bool false)).row (b := w.heap.size + 1) (.inl (.inl rfl)) #[.int .i64 0, .int .i64 0, .int .i64 0, .bool false, .slice none 0 0, .slice none 0 0, .slice none 0 0])
    clear B4 B5
    go_wp2_with (first | (refine wpList_load_row rfl 33 (.tmp 6) rfl (w.heap.size + 1 + 1) rfl 33 _ (0, 0) _ F5.out Try.underlying33 rfl info33 ?_) | (refine wpList_store_row rfl 33 (.tmp 4) (.tmp 89) rfl (w.heap.size + 1) #[.int .i64 0, .int .i64 0, .int .i64 0, .bool false, .slice none 0 0, .slice none 0 0, .slice none 0 0] rfl rfl 33 (tellC 0 0 0 false (.slice none 0 0) (.slice none 0 0) (.slice none 0 0)) F4.out info33 rfl (by simp [Value.oneCell']) ?_) | fail)
    have g0 := FR.out.cellv 0 rfl
    have g1 := FR.out.cellv 1 rfl
    have g2 := FR.out.cellv 2 rfl
    have g3 := FR.out.cellv 3 rfl
    have g4 := FR.out.cellv 4 rfl
    have g5 := FR.out.cellv 5 rfl
    have g6 := FR.out.cellv 6 rfl
    have HOF := Lib.hid ((HO.out.trans HO4.out).step FO.out (fun k hk e => by have := HZ3.out; omega))
    refine bodyPost_ret (v := .tuple #[.agg #[.int .i64 0, .int .i64 0, .int .i64 0, .bool false, .slice none 0 0, .slice none 0 0, .slice none 0 0], .slice A n cap]) (by simp [results, Try.results32, go_sem, g0, g1, g2, g3, g4, g5, g6]) rfl ?_
    have HLD := Lib.hid (fun w'' (ho : Only T _ w'') => HA.out w'' ((HOF.out.mono (S' := T) (fun _ _ h => h.elim)).step ho (fun k _ h => h)))
    have e9 : ansR R ⟨2, key, st, bs, dead, tt⟩ = {} := by simp [ansR, ← HLAST.out]
    exact ⟨_, A, cap, rs, by rw [HN.out], HR.out, HOF.out, fun w'' ho => ⟨by rw [e9]; exact tat_plain _ _ _ _ _, HLD.out w'' ho⟩⟩
  | some r =>
    simp only [Option.isSome_some]
    have f1 := B5.free 1
    have k1 := B5.cellv 1 rfl
    have f3 := B5.free 3
    have k3 := B5.cellv 3 rfl
    have F5 := Lib.hid ((B5.put 1 (.int .i64 r.st)).put 3 (.bool true))
    have F4 := Lib.hid ((B4.far (p := ⟨w.heap.size + 1 + 1, 1, none⟩) (by simp) (.int .i64 r.st)).far (p := ⟨w.heap.size + 1 + 1, 3, none⟩) (by simp) (.bool true))
    have FR := Lib.hid (F4.out.row #[.int .i64 0, .int .i64 r.st, .int .i64 0, .bool true, .slice none 0 0, .slice none 0 0, .slice none 0 0])
    have FO := Lib.hid ((((Only.refl (fun k => k = w.heap.size + 1 ∨ k = w.heap.size + 1 + 1) w4).put (p := ⟨w.heap.size + 1 + 1, 1, none⟩) (.inl (.inr rfl)) (.int .i64 r.st)).put (p := ⟨w.heap.size + 1 + 1, 3, none⟩) (.inl (.inr rfl)) (.bool true)).row (b := w.heap.size + 1) (.inl (.inl rfl)) #[.int .i64 0, .int .i64 r.st, .int .i64 0, .bool true, .slice none 0 0, .slice none 0 0, .slice none 0 0])
    clear B4 B5
    go_wp2_with (first | (refine wpList_load_row rfl 33 (.tmp 6) rfl (w.heap.size + 1 + 1) rfl 33 _ (0, 0) _ F5.out Try.underlying33 rfl info33 ?_) | (refine wpList_store_row rfl 33 (.tmp 4) (.tmp 89) rfl (w.heap.size + 1) #[.int .i64 0, .int .i64 r.st, .int .i64 0, .bool true, .slice none 0 0, .slice none 0 0, .slice none 0 0] rfl rfl 33 (tellC 0 0 0 false (.slice none 0 0) (.slice none 0 0) (.slice none 0 0)) F4.out info33 rfl (by simp [Value.oneCell']) ?_) | fail)
    have g0 := FR.out.cellv 0 rfl
    have g1 := FR.out.cellv 1 rfl
    have g2 := FR.out.cellv 2 rfl
    have g3 := FR.out.cellv 3 rfl
    have g4 := FR.out.cellv 4 rfl
    have g5 := FR.out.cellv 5 rfl
    have g6 := FR.out.cellv 6 rfl
    have HOF := Lib.hid ((HO.out.trans HO4.out).step FO.out (fun k hk e => by have := HZ3.out; omega))
    refine bodyPost_ret (v := .tuple #[.agg #[.int .i64 0, .int .i64 r.st, .int .i64 0, .bool true, .slice none 0 0, .slice none 0 0, .slice none 0 0], .slice A n cap]) (by simp [results, Try.results32, go_sem, g0, g1, g2, g3, g4, g5, g6]) rfl ?_
    have HLD := Lib.hid (fun w'' (ho : Only T _ w'') => HA.out w'' ((HOF.out.mono (S' := T) (fun _ _ h => h.elim)).step ho (fun k _ h => h)))
    have e9 : ansR R ⟨2, key, st, bs, dead, tt⟩ = { n := r.st, is := true } := by simp [ansR, ← HLAST.out, VRow.ver]
    exact ⟨_, A, cap, rs, by rw [HN.out], HR.out, HOF.out, fun w'' ho => ⟨by rw [e9]; exact tat_plain _ _ _ _ _, HLD.out w'' ho⟩⟩
set_option maxRecDepth 100000 in
set_option maxHeartbeats 8000000 in
theorem want_1 (w : World) (T : Nat → Prop) (A : Option Addr) (cap : Nat) (rs : List VRow) (R : List KV) (x : Stp) (Av : Option Addr) (cc : Nat) (hT : ∀ k, T k → k < w.heap.size) (hR : RGood rs R) (hA : ∀ w', Only T w w' → RAt w' A rs) (hfew : rs.length < 2513169434843)
    (hk : x.kind = 1) (hkey : x.key.size ≤ maxLen) (hby : BytesAt w Av x.bs) :
    Calls Try.prog 32 #[.slice A rs.length cap, .agg (stepC x.kind x.key x.st (.slice Av x.bs.length cc) x.dead x.tt)] w (WantPost T R x w) := by
  obtain ⟨kind, key, st, bs, dead, tt⟩ := x
  simp only at hk hkey hby ⊢
  subst hk
  obtain ⟨nn, hnn⟩ : ∃ nn, bs.length = nn := ⟨_, rfl⟩
  rw [hnn]
  have hO : Only NoneOf w (((w.alloc (.cells (stepC 1 key st (.slice Av nn cc) dead tt) 29)).alloc (.cells (tellC 0 0 0 false (.slice none 0 0) (.slice none 0 0) (.slice none 0 0)) 33)).alloc (.cells (tellC 0 0 0 false (.slice none 0 0) (.slice none 0 0) (.slice none 0 0)) 33)) := (((Only.refl _ _).alloc _).alloc _).alloc _
  have hB3 := ((Blk.new w 29 (stepC 1 key st (.slice Av nn cc) dead tt)).alloc (.cells (tellC 0 0 0 false (.slice none 0 0) (.slice none 0 0) (.slice none 0 0)) 33)).alloc (.cells (tellC 0 0 0 false (.slice none 0 0) (.slice none 0 0) (.slice none 0 0)) 33)
  have hB4 := (Blk.new' (w.alloc (.cells (stepC 1 key st (.slice Av nn cc) dead tt) 29)) 33 (tellC 0 0 0 false (.slice none 0 0) (.slice none 0 0) (.slice none 0 0)) (n := w.heap.size + 1) (by simp)).alloc (.cells (tellC 0 0 0 false (.slice none 0 0) (.slice none 0 0) (.slice none 0 0)) 33)
  have hB5 := Blk.new' ((w.alloc (.cells (stepC 1 key st (.slice Av nn cc) dead tt) 29)).alloc (.cells (tellC 0 0 0 false (.slice none 0 0) (.slice none 0 0) (.slice none 0 0)) 33)) 33 (tellC 0 0 0 false (.slice none 0 0) (.slice none 0 0) (.slice none 0 0)) (n := w.heap.size + 1 + 1) (by simp)
  have HO := Lib.hid hO
  have HA := Lib.hid hA
  have HT := Lib.hid hT
  have HR := Lib.hid hR
  have HB4 := Lib.hid hB4
  have HB5 := Lib.hid hB5
  have HBY := Lib.hid (hby.keep hO)
  have HNN := Lib.hid hnn
  have HRA := Lib.hid ((hA w (Only.refl _ _)).keep hO)
  have HZ3 := Lib.hid (show (((w.alloc (.cells (stepC 1 key st (.slice Av nn cc) dead tt) 29)).alloc (.cells (tellC 0 0 0 false (.slice none 0 0) (.slice none 0 0) (.slice none 0 0)) 33)).alloc (.cells (tellC 0 0 0 false (.slice none 0 0) (.slice none 0 0) (.slice none 0 0)) 33)).heap.size = w.heap.size + 3 by simp)
  have HC := Lib.hid (Get_refR (((w.alloc (.cells (stepC 1 key st (.slice Av nn cc) dead tt) 29)).alloc (.cells (tellC 0 0 0 false (.slice none 0 0) (.slice none 0 0) (.slice none 0 0)) 33)).alloc (.cells (tellC 0 0 0 false (.slice none 0 0) (.slice none 0 0) (.slice none 0 0)) 33)) A cap rs R hR key st HRA.out (by omega))
  have c0 := hB3.cellv 0 rfl
  have c1 := hB3.cellv 1 rfl
  have c2 := hB3.cellv 2 rfl
  have c3 := hB3.cellv 3 rfl
  have c4 := hB3.cellv 4 rfl
  have c5 := hB3.cellv 5 rfl
  obtain ⟨n, hn⟩ : ∃ n, rs.length = n := ⟨_, rfl⟩
  have HN := Lib.hid hn
  rw [hn] at hfew ⊢
  rw [hn] at HC
  clear hO hB3 hB4 hB5 hby hR hA hT hn hnn
  go_enter Try.func32, Try.ntmps32
  obtain ⟨f, hf⟩ : ∃ f, found (verR R key) st = f := ⟨_, rfl⟩
  rw [hf] at HC
  have HF := Lib.hid hf
  go_wp2_with fail
  refine HC.out.mono ?_; rintro e w4 ⟨hget, hO4⟩
  have HO4 := Lib.hid hO4
  have hsz4 := hO4.size
  have hz4 : w.heap.size + 3 ≤ w4.heap.size := by simpa using hsz4
  have B4 := HB4.out.only hO4 (fun h => h)
  have B5 := HB5.out.only hO4 (fun h => h)
  clear hf hO4
  cases f with
  | none =>
    obtain rfl := hget
    have f4 := B5.free 4
    have k4 := B5.cellv 4 rfl
    have f3 := B5.free 3
    have k3 := B5.cellv 3 rfl
    have F5 := Lib.hid ((B5.put 4 (.slice none 0 0)).put 3 (.bool false))
    have F4 := Lib.hid ((B4.far (p := ⟨w.heap.size + 1 + 1, 4, none⟩) (by simp) (.slice none 0 0)).far (p := ⟨w.heap.size + 1 + 1, 3, none⟩) (by simp) (.bool false))
    have FR := Lib.hid (F4.out.row #[.int .i64 0, .int .i64 0, .int .i64 0, .bool false, .slice none 0 0, .slice none 0 0, .slice none 0 0])
    have FO := Lib.hid ((((Only.refl (fun k => k = w.heap.size + 1 ∨ k = w.heap.size + 1 + 1) w4).put (p := ⟨w.heap.size + 1 + 1, 4, none⟩) (.inl (.inr rfl)) (.slice none 0 0)).put (p := ⟨w.heap.size + 1 + 1, 3, none⟩) (.inl (.inr rfl)) (.bool false)).row (b := w.heap.size + 1) (.inl (.inl rfl)) #[.int .i64 0, .int .i64 0, .int .i64 0, .bool false, .slice none 0 0, .slice none 0 0, .slice none 0 0])
    clear B4 B5
    go_wp2_with (first | (refine wpList_load_row rfl 33 (.tmp 6) rfl (w.heap.size + 1 + 1) rfl 33 _ (0, 0) _ F5.out Try.underlying33 rfl info33 ?_) | (refine wpList_store_row rfl 33 (.tmp 4) (.tmp 89) rfl (w.heap.size + 1) #[.int .i64 0, .int .i64 0, .int .i64 0, .bool false, .slice none 0 0, .slice none 0 0, .slice none 0 0] rfl rfl 33 (tellC 0 0 0 false (.slice none 0 0) (.slice none 0 0) (.slice none 0 0)) F4.out info33 rfl (by simp [Value.oneCell']) ?_) | fail)
    have g0 := FR.out.cellv 0 rfl
    have g1 := FR.out.cellv 1 rfl
    have g2 := FR.out.cellv 2 rfl
    have g3 := FR.out.cellv 3 rfl
    have g4 := FR.out.cellv 4 rfl
    have g5 := FR.out.cellv 5 rfl
    have g6 := FR.out.cellv 6 rfl
    have HOF := Lib.hid ((HO.out.trans HO4.out).step FO.out (fun k hk e => by have := HZ3.out; omega))
    refine bodyPost_ret (v := .tuple #[.agg #[.int .i64 0, .int .i64 0, .int .i64 0, .bool false, .slice none 0 0, .slice none 0 0, .slice none 0 0], .slice A n cap]) (by simp [results, Try.results32, go_sem, g0, g1, g2, g3, g4, g5, g6]) rfl ?_
    have HLD := Lib.hid (fun w'' (ho : Only T _ w'') => HA.out w'' ((HOF.out.mono (S' := T) (fun _ _ h => h.elim)).step ho (fun k _ h => h)))
    have e9 : ansR R ⟨1, key, st, bs, dead, tt⟩ = {} := by simp [ansR, HF.out]
    exact ⟨_, A, cap, rs, by rw [HN.out], HR.out, HOF.out, fun w'' ho => ⟨by rw [e9]; exact tat_plain _ _ _ _ _, HLD.out w'' ho⟩⟩
  | some b =>
    obtain ⟨vb, rfl, hvb⟩ := hget
    obtain ⟨Ab, cb, rfl⟩ := ownsRow_slice hvb
    have HVB := Lib.hid hvb
    clear hvb
    have f4 := B5.free 4
    have k4 := B5.cellv 4 rfl
    have f3 := B5.free 3
    have k3 := B5.cellv 3 rfl
    have F5 := Lib.hid ((B5.put 4 (.slice Ab b.length cb)).put 3 (.bool true))
    have F4 := Lib.hid ((B4.far (p := ⟨w.heap.size + 1 + 1, 4, none⟩) (by simp) (.slice Ab b.length cb)).far (p := ⟨w.heap.size + 1 + 1, 3, none⟩) (by simp) (.bool true))
    have FR := Lib.hid (F4.out.row #[.int .i64 0, .int .i64 0, .int .i64 0, .bool true, .slice Ab b.length cb, .slice none 0 0, .slice none 0 0])
    have FO := Lib.hid ((((Only.refl (fun k => k = w.heap.size + 1 ∨ k = w.heap.size + 1 + 1) w4).put (p := ⟨w.heap.size + 1 + 1, 4, none⟩) (.inl (.inr rfl)) (.slice Ab b.length cb)).put (p := ⟨w.heap.size + 1 + 1, 3, none⟩) (.inl (.inr rfl)) (.bool true)).row (b := w.heap.size + 1) (.inl (.inl rfl)) #[.int .i64 0, .int .i64 0, .int .i64 0, .bool true, .slice Ab b.length cb, .slice none 0 0, .slice none 0 0])
    clear B4 B5
    go_wp2_with (first | (refine wpList_load_row rfl 33 (.tmp 6) rfl (w.heap.size + 1 + 1) rfl 33 _ (0, 0) _ F5.out Try.underlying33 rfl info33 ?_) | (refine wpList_store_row rfl 33 (.tmp 4) (.tmp 89) rfl (w.heap.size + 1) #[.int .i64 0, .int .i64 0, .int .i64 0, .bool true, .slice Ab b.length cb, .slice none 0 0, .slice none 0 0] rfl rfl 33 (tellC 0 0 0 false (.slice none 0 0) (.slice none 0 0) (.slice none 0 0)) F4.out info33 rfl (by simp [Value.oneCell']) ?_) | fail)
    have g0 := FR.out.cellv 0 rfl
    have g1 := FR.out.cellv 1 rfl
    have g2 := FR.out.cellv 2 rfl
    have g3 := FR.out.cellv 3 rfl
    have g4 := FR.out.cellv 4 rfl
    have g5 := FR.out.cellv 5 rfl
    have g6 := FR.out.cellv 6 rfl
    have HOF := Lib.hid ((HO.out.trans HO4.out).step FO.out (fun k hk e => by have := HZ3.out; omega))
    refine bodyPost_ret (v := .tuple #[.agg #[.int .i64 0, .int .i64 0, .int .i64 0, .bool true, .slice Ab b.length cb, .slice none 0 0, .slice none 0 0], .slice A n cap]) (by simp [results, Try.results32, go_sem, g0, g1, g2, g3, g4, g5, g6]) rfl ?_
    have HLD := Lib.hid (fun w'' (ho : Only T _ w'') => HA.out w'' ((HOF.out.mono (S' := T) (fun _ _ h => h.elim)).step ho (fun k _ h => h)))
    have e9 : ansR R ⟨1, key, st, bs, dead, tt⟩ = { b := b, is := true } := by simp [ansR, HF.out]
    have hlow : ∀ g, w.heap.size + 3 ≤ g → (¬ (g = w.heap.size + 1 ∨ g = w.heap.size + 1 + 1)) ∧ ¬ T g := fun g hg => ⟨by omega, fun ht => by have := HT.out g ht; omega⟩
    exact ⟨_, A, cap, rs, by rw [HN.out], HR.out, HOF.out, fun w'' ho => ⟨by rw [e9]; exact ⟨_, _, _, rfl, ((HVB.out.only FO.out (fun g hg => (hlow g (by have := (ownsRow_lt HVB.out hg).1; have := HZ3.out; omega)).1)).only ho (fun g hg => (hlow g (by have := (ownsRow_lt HVB.out hg).1; have := HZ3.out; omega)).2)).bytesV, listAt_nil _ _ _, listAt_nil _ _ _⟩, HLD.out w'' ho⟩⟩
set_option maxRecDepth 100000 in
set_option maxHeartbeats 8000000 in
theorem want_4 (w : World) (T : Nat → Prop) (A : Option Addr) (cap : Nat) (rs : List VRow) (R : List KV) (x : Stp) (Av : Option Addr) (cc : Nat) (hT : ∀ k, T k → k < w.heap.size) (hR : RGood rs R) (hA : ∀ w', Only T w w' → RAt w' A rs) (hfew : rs.length < 2513169434843)
    (hk : x.kind = 4) (hkey : x.key.size ≤ maxLen) (hby : BytesAt w Av x.bs) :
    Calls Try.prog 32 #[.slice A rs.length cap, .agg (stepC x.kind x.key x.st (.slice Av x.bs.length cc) x.dead x.tt)] w (WantPost T R x w) := by
  obtain ⟨kind, key, st, bs, dead, tt⟩ := x
  simp only at hk hkey hby ⊢
  subst hk
  obtain ⟨nn, hnn⟩ : ∃ nn, bs.length = nn := ⟨_, rfl⟩
  rw [hnn]
  have hO : Only NoneOf w (((w.alloc (.cells (stepC 4 key st (.slice Av nn cc) dead tt) 29)).alloc (.cells (tellC 0 0 0 false (.slice none 0 0) (.slice none 0 0) (.slice none 0 0)) 33)).alloc (.cells (tellC 0 0 0 false (.slice none 0 0) (.slice none 0 0) (.slice none 0 0)) 33)) := (((Only.refl _ _).alloc _).alloc _).alloc _
  have hB3 := ((Blk.new w 29 (stepC 4 key st (.slice Av nn cc) dead tt)).alloc (.cells (tellC 0 0 0 false (.slice none 0 0) (.slice none 0 0) (.slice none 0 0)) 33)).alloc (.cells (tellC 0 0 0 false (.slice none 0 0) (.slice none 0 0) (.slice none 0 0)) 33)
  have hB4 := (Blk.new' (w.alloc (.cells (stepC 4 key st (.slice Av nn cc) dead tt) 29)) 33 (tellC 0 0 0 false (.slice none 0 0) (.slice none 0 0) (.slice none 0 0)) (n := w.heap.size + 1) (by simp)).alloc (.cells (tellC 0 0 0 false (.slice none 0 0) (.slice none 0 0) (.slice none 0 0)) 33)
  have hB5 := Blk.new' ((w.alloc (.cells (stepC 4 key st (.slice Av nn cc) dead tt) 29)).alloc (.cells (tellC 0 0 0 false (.slice none 0 0) (.slice none 0 0) (.slice none 0 0)) 33)) 33 (tellC 0 0 0 false (.slice none 0 0) (.slice none 0 0) (.slice none 0 0)) (n := w.heap.size + 1 + 1) (by simp)
  have HO := Lib.hid hO
  have HA := Lib.hid hA
  have HT := Lib.hid hT
  have HR := Lib.hid hR
  have HB4 := Lib.hid hB4
  have HB5 := Lib.hid hB5
  have HBY := Lib.hid (hby.keep hO)
  have HNN := Lib.hid hnn
  have HRA := Lib.hid ((hA w (Only.refl _ _)).keep hO)
  have HZ3 := Lib.hid (show (((w.alloc (.cells (stepC 4 key st (.slice Av nn cc) dead tt) 29)).alloc (.cells (tellC 0 0 0 false (.slice none 0 0) (.slice none 0 0) (.slice none 0 0)) 33)).alloc (.cells (tellC 0 0 0 false (.slice none 0 0) (.slice none 0 0) (.slice none 0 0)) 33)).heap.size = w.heap.size + 3 by simp)
  have HC := Lib.hid (Vacuum_ref (((w.alloc (.cells (stepC 4 key st (.slice Av nn cc) dead tt) 29)).alloc (.cells (tellC 0 0 0 false (.slice none 0 0) (.slice none 0 0) (.slice none 0 0)) 33)).alloc (.cells (tellC 0 0 0 false (.slice none 0 0) (.slice none 0 0) (.slice none 0 0)) 33)) A cap rs HRA.out (by omega) st)
  have c0 := hB3.cellv 0 rfl
  have c1 := hB3.cellv 1 rfl
  have c2 := hB3.cellv 2 rfl
  have c3 := hB3.cellv 3 rfl
  have c4 := hB3.cellv 4 rfl
  have c5 := hB3.cellv 5 rfl
  obtain ⟨n, hn⟩ : ∃ n, rs.length = n := ⟨_, rfl⟩
  have HN := Lib.hid hn
  rw [hn] at hfew ⊢
  rw [hn] at HC
  clear hO hB3 hB4 hB5 hby hR hA hT hn hnn
  go_enter Try.func32, Try.ntmps32
  have HVAC := Lib.hid (HR.out.vac st)
  obtain ⟨fs, hfs⟩ : ∃ fs, rs.filter (kRow rs st) = fs := ⟨_, rfl⟩
  have HSUB := Lib.hid (show ∀ r ∈ fs, r ∈ rs from fun r hr => by rw [← hfs] at hr; exact (List.mem_filter.1 hr).1)
  have hc := HC.out
  unfold VacRef at hc
  rw [hfs, HN.out] at hc
  rw [hfs] at HVAC
  have HLEN := Lib.hid (show ((R.length - (vacR R st).length : Nat) : Int) = ((n - fs.length : Nat) : Int) by rw [← HVAC.out.len, ← HR.out.len, HN.out])
  obtain ⟨gn, hgn⟩ : ∃ gn : Int, ((n - fs.length : Nat) : Int) = gn := ⟨_, rfl⟩
  rw [hgn] at hc HLEN
  replace HC := Lib.hid hc
  clear hc hfs hgn
  go_wp2_with fail
  refine HC.out.mono ?_; rintro e w4 ⟨vq, rfl, hown, hO4⟩
  obtain ⟨Aq, cq, rfl⟩ := ownsRow_slice hown
  have HOWN := Lib.hid hown
  have HO4 := Lib.hid hO4
  have hsz4 := hO4.size
  have hz4 : w.heap.size + 3 ≤ w4.heap.size := by simpa using hsz4
  have B4 := HB4.out.only hO4 (fun h => h)
  have B5 := HB5.out.only hO4 (fun h => h)
  clear hown hO4
  have f1 := B5.free 1
  have k1 := B5.cellv 1 rfl
  have F5 := Lib.hid (B5.put 1 (.int .i64 gn))
  have F4 := Lib.hid (B4.far (p := ⟨w.heap.size + 1 + 1, 1, none⟩) (by simp) (.int .i64 gn))
  have FR := Lib.hid (F4.out.row #[.int .i64 0, .int .i64 gn, .int .i64 0, .bool false, .slice none 0 0, .slice none 0 0, .slice none 0 0])
  have FO := Lib.hid (((Only.refl (fun k => k = w.heap.size + 1 ∨ k = w.heap.size + 1 + 1) w4).put (p := ⟨w.heap.size + 1 + 1, 1, none⟩) (.inl (.inr rfl)) (.int .i64 gn)).row (b := w.heap.size + 1) (.inl (.inl rfl)) #[.int .i64 0, .int .i64 gn, .int .i64 0, .bool false, .slice none 0 0, .slice none 0 0, .slice none 0 0])
  clear B4 B5
  go_wp2_with (first | (refine wpList_load_row rfl 33 (.tmp 6) rfl (w.heap.size + 1 + 1) rfl 33 _ (0, 0) _ F5.out Try.underlying33 rfl info33 ?_) | (refine wpList_store_row rfl 33 (.tmp 4) (.tmp 89) rfl (w.heap.size + 1) #[.int .i64 0, .int .i64 gn, .int .i64 0, .bool false, .slice none 0 0, .slice none 0 0, .slice none 0 0] rfl rfl 33 (tellC 0 0 0 false (.slice none 0 0) (.slice none 0 0) (.slice none 0 0)) F4.out info33 rfl (by simp [Value.oneCell']) ?_) | fail)
  have g0 := FR.out.cellv 0 rfl
  have g1 := FR.out.cellv 1 rfl
  have g2 := FR.out.cellv 2 rfl
  have g3 := FR.out.cellv 3 rfl
  have g4 := FR.out.cellv 4 rfl
  have g5 := FR.out.cellv 5 rfl
  have g6 := FR.out.cellv 6 rfl
  have HOF := Lib.hid ((HO.out.trans HO4.out).step FO.out (fun k hk e => by have := HZ3.out; omega))
  refine bodyPost_ret (v := .tuple #[.agg #[.int .i64 0, .int .i64 gn, .int .i64 0, .bool false, .slice none 0 0, .slice none 0 0, .slice none 0 0], .slice Aq fs.length cq]) (by simp [results, Try.results32, go_sem, g0, g1, g2, g3, g4, g5, g6]) rfl ?_
  have HLD := Lib.hid (fun w'' (ho : Only T _ w'') => HA.out w'' ((HOF.out.mono (S' := T) (fun _ _ h => h.elim)).step ho (fun k _ h => h)))
  have hlow : ∀ g, w.heap.size + 3 ≤ g → (¬ (g = w.heap.size + 1 ∨ g = w.heap.size + 1 + 1)) ∧ ¬ T g := fun g hg => ⟨by omega, fun ht => by have := HT.out g ht; omega⟩
  have e9 : ansR R ⟨4, key, st, bs, dead, tt⟩ = { n := gn } := by
    show ({ n := ((R.length - (vacR R st).length : Nat) : Int) } : An) = _
    rw [HLEN.out]
  refine ⟨_, Aq, cq, fs, rfl, HVAC.out, HOF.out, fun w'' ho => ⟨by rw [e9]; exact tat_plain _ _ _ _ _, ?_⟩⟩
  obtain ⟨A9, c9, hv9, hr9⟩ := rat_own (ownsRow_only (ownsRow_only HOWN.out FO.out (fun g hg => (hlow g (by have := (ownsRow_lt HOWN.out hg).1; have := HZ3.out; omega)).1)) ho (fun g hg => (hlow g (by have := (ownsRow_lt HOWN.out hg).1; have := HZ3.out; omega)).2)) (fun r hr => rat_val (HLD.out w'' ho) (HSUB.out r hr))
  injection hv9 with e1 _ _
  subst e1
  exact hr9
set_option maxRecDepth 100000 in
set_option maxHeartbeats 8000000 in
theorem want_0 (w : World) (T : Nat → Prop) (A : Option Addr) (cap : Nat) (rs : List VRow) (R : List KV) (x : Stp) (Av : Option Addr) (cc : Nat) (hT : ∀ k, T k → k < w.heap.size) (hR : RGood rs R) (hA : ∀ w', Only T w w' → RAt w' A rs) (hfew : rs.length < 2513169434843)
    (hk : x.kind = 0) (hkey : x.key.size ≤ maxLen) (hby : BytesAt w Av x.bs) :
    Calls Try.prog 32 #[.slice A rs.length cap, .agg (stepC x.kind x.key x.st (.slice Av x.bs.length cc) x.dead x.tt)] w (WantPost T R x w) := by
  obtain ⟨kind, key, st, bs, dead, tt⟩ := x
  simp only at hk hkey hby ⊢
  subst hk
  obtain ⟨nn, hnn⟩ : ∃ nn, bs.length = nn := ⟨_, rfl⟩
  rw [hnn]
  have hO : Only NoneOf w (((w.alloc (.cells (stepC 0 key st (.slice Av nn cc) dead tt) 29)).alloc (.cells (tellC 0 0 0 false (.slice none 0 0) (.slice none 0 0) (.slice none 0 0)) 33)).alloc (.cells (tellC 0 0 0 false (.slice none 0 0) (.slice none 0 0) (.slice none 0 0)) 33)) := (((Only.refl _ _).alloc _).alloc _).alloc _
  have hB3 := ((Blk.new w 29 (stepC 0 key st (.slice Av nn cc) dead tt)).alloc (.cells (tellC 0 0 0 false (.slice none 0 0) (.slice none 0 0) (.slice none 0 0)) 33)).alloc (.cells (tellC 0 0 0 false (.slice none 0 0) (.slice none 0 0) (.slice none 0 0)) 33)
  have hB4 := (Blk.new' (w.alloc (.cells (stepC 0 key st (.slice Av nn cc) dead tt) 29)) 33 (tellC 0 0 0 false (.slice none 0 0) (.slice none 0 0) (.slice none 0 0)) (n := w.heap.size + 1) (by simp)).alloc (.cells (tellC 0 0 0 false (.slice none 0 0) (.slice none 0 0) (.slice none 0 0)) 33)
  have hB5 := Blk.new' ((w.alloc (.cells (stepC 0 key st (.slice Av nn cc) dead tt) 29)).alloc (.cells (tellC 0 0 0 false (.slice none 0 0) (.slice none 0 0) (.slice none 0 0)) 33)) 33 (tellC 0 0 0 false (.slice none 0 0) (.slice none 0 0) (.slice none 0 0)) (n := w.heap.size + 1 + 1) (by simp)
  have HO := Lib.hid hO
  have HA := Lib.hid hA
  have HT := Lib.hid hT
  have HR := Lib.hid hR
  have HB4 := Lib.hid hB4
  have HB5 := Lib.hid hB5
  have HBY := Lib.hid (hby.keep hO)
  have HNN := Lib.hid hnn
  have HRA := Lib.hid ((hA w (Only.refl _ _)).keep hO)
  have HZ3 := Lib.hid (show (((w.alloc (.cells (stepC 0 key st (.slice Av nn cc) dead tt) 29)).alloc (.cells (tellC 0 0 0 false (.slice none 0 0) (.slice none 0 0) (.slice none 0 0)) 33)).alloc (.cells (tellC 0 0 0 false (.slice none 0 0) (.slice none 0 0) (.slice none 0 0)) 33)).heap.size = w.heap.size + 3 by simp)
  have HC := Lib.hid (Apply_ref (((w.alloc (.cells (stepC 0 key st (.slice Av nn cc) dead tt) 29)).alloc (.cells (tellC 0 0 0 false (.slice none 0 0) (.slice none 0 0) (.slice none 0 0)) 33)).alloc (.cells (tellC 0 0 0 false (.slice none 0 0) (.slice none 0 0) (.slice none 0 0)) 33)) A cap rs R hR HRA.out (by omega) key st bs dead Av nn cc hnn HBY.out)
  have HAFT := Lib.hid (hR.good.after key ⟨st, bs, dead⟩)
  have c0 := hB3.cellv 0 rfl
  have c1 := hB3.cellv 1 rfl
  have c2 := hB3.cellv 2 rfl
  have c3 := hB3.cellv 3 rfl
  have c4 := hB3.cellv 4 rfl
  have c5 := hB3.cellv 5 rfl
  obtain ⟨n, hn⟩ : ∃ n, rs.length = n := ⟨_, rfl⟩
  have HN := Lib.hid hn
  rw [hn] at hfew ⊢
  rw [hn] at HC
  clear hO hB3 hB4 hB5 hby hR hA hT hn hnn
  go_enter Try.func32, Try.ntmps32
  obtain ⟨cd, hcd⟩ : ∃ cd, codeR R key ⟨st, bs, dead⟩ = cd := ⟨_, rfl⟩
  have hc := HC.out
  unfold ApRef at hc
  rw [hcd, HN.out] at hc
  have HCD := Lib.hid hcd
  replace HC := Lib.hid hc
  clear hc hcd
  have e9 : ansR R ⟨0, key, st, bs, dead, tt⟩ = { e := cd } := by simp [ansR, HCD.out]
  have HE9 := Lib.hid e9
  clear e9
  go_wp2_with fail
  refine HC.out.mono ?_; rintro e w4 ⟨hO4, hcase⟩
  have HO4 := Lib.hid hO4
  have hsz4 := hO4.size
  have hz4 : w.heap.size + 3 ≤ w4.heap.size := by simpa using hsz4
  have B4 := HB4.out.only hO4 (fun h => h)
  have B5 := HB5.out.only hO4 (fun h => h)
  clear hO4
  rcases hcase with ⟨hne, rfl⟩ | ⟨hze, vq, r, rfl, hrp, hrb, hown⟩
  · have HG9 := Lib.hid (show stepR R ⟨0, key, st, bs, dead, tt⟩ = R by show afterR R key ⟨st, bs, dead⟩ = R; unfold afterR; rw [HCD.out, if_neg hne])
    clear hne
    have f0 := B5.free 0
    have k0 := B5.cellv 0 rfl
    have F5 := Lib.hid (B5.put 0 (.int .i64 cd))
    have F4 := Lib.hid (B4.far (p := ⟨w.heap.size + 1 + 1, 0, none⟩) (by simp) (.int .i64 cd))
    have FR := Lib.hid (F4.out.row #[.int .i64 cd, .int .i64 0, .int .i64 0, .bool false, .slice none 0 0, .slice none 0 0, .slice none 0 0])
    have FO := Lib.hid (((Only.refl (fun k => k = w.heap.size + 1 ∨ k = w.heap.size + 1 + 1) w4).put (p := ⟨w.heap.size + 1 + 1, 0, none⟩) (.inl (.inr rfl)) (.int .i64 cd)).row (b := w.heap.size + 1) (.inl (.inl rfl)) #[.int .i64 cd, .int .i64 0, .int .i64 0, .bool false, .slice none 0 0, .slice none 0 0, .slice none 0 0])
    clear B4 B5
    go_wp2_with (first | (refine wpList_load_row rfl 33 (.tmp 6) rfl (w.heap.size + 1 + 1) rfl 33 _ (0, 0) _ F5.out Try.underlying33 rfl info33 ?_) | (refine wpList_store_row rfl 33 (.tmp 4) (.tmp 89) rfl (w.heap.size + 1) #[.int .i64 cd, .int .i64 0, .int .i64 0, .bool false, .slice none 0 0, .slice none 0 0, .slice none 0 0] rfl rfl 33 (tellC 0 0 0 false (.slice none 0 0) (.slice none 0 0) (.slice none 0 0)) F4.out info33 rfl (by simp [Value.oneCell']) ?_) | fail)
    have g0 := FR.out.cellv 0 rfl
    have g1 := FR.out.cellv 1 rfl
    have g2 := FR.out.cellv 2 rfl
    have g3 := FR.out.cellv 3 rfl
    have g4 := FR.out.cellv 4 rfl
    have g5 := FR.out.cellv 5 rfl
    have g6 := FR.out.cellv 6 rfl
    have HOF := Lib.hid ((HO.out.trans HO4.out).step FO.out (fun k hk e => by have := HZ3.out; omega))
    refine bodyPost_ret (v := .tuple #[.agg #[.int .i64 cd, .int .i64 0, .int .i64 0, .bool false, .slice none 0 0, .slice none 0 0, .slice none 0 0], .slice A n cap]) (by simp [results, Try.results32, go_sem, g0, g1, g2, g3, g4, g5, g6]) rfl ?_
    have HLD := Lib.hid (fun w'' (ho : Only T _ w'') => HA.out w'' ((HOF.out.mono (S' := T) (fun _ _ h => h.elim)).step ho (fun k _ h => h)))
    exact ⟨_, A, cap, rs, by rw [HN.out], (by rw [HG9.out]; exact HR.out), HOF.out, fun w'' ho => ⟨by rw [HE9.out]; exact tat_plain _ _ _ _ _, HLD.out w'' ho⟩⟩
  · subst hze
    have HG9 := Lib.hid (show stepR R ⟨0, key, st, bs, dead, tt⟩ = R ++ [(key, ⟨st, bs, dead⟩)] by show afterR R key ⟨st, bs, dead⟩ = _; unfold afterR; rw [HCD.out, if_pos rfl])
    have HAF := Lib.hid (show GoodR (R ++ [(key, ⟨st, bs, dead⟩)]) by have := HAFT.out; unfold afterR at this; rw [HCD.out, if_pos rfl] at this; exact this)
    obtain ⟨Aq, cq, rfl⟩ := ownsRow_slice hown
    have HOWN := Lib.hid hown
    have HRP := Lib.hid hrp
    have HRB := Lib.hid hrb
    clear hown hrp hrb
    have f0 := B5.free 0
    have k0 := B5.cellv 0 rfl
    have F5 := Lib.hid (B5.put 0 (.int .i64 0))
    have F4 := Lib.hid (B4.far (p := ⟨w.heap.size + 1 + 1, 0, none⟩) (by simp) (.int .i64 0))
    have FR := Lib.hid (F4.out.row #[.int .i64 0, .int .i64 0, .int .i64 0, .bool false, .slice none 0 0, .slice none 0 0, .slice none 0 0])
    have FO := Lib.hid (((Only.refl (fun k => k = w.heap.size + 1 ∨ k = w.heap.size + 1 + 1) w4).put (p := ⟨w.heap.size + 1 + 1, 0, none⟩) (.inl (.inr rfl)) (.int .i64 0)).row (b := w.heap.size + 1) (.inl (.inl rfl)) #[.int .i64 0, .int .i64 0, .int .i64 0, .bool false, .slice none 0 0, .slice none 0 0, .slice none 0 0])
    clear B4 B5
    go_wp2_with (first | (refine wpList_load_row rfl 33 (.tmp 6) rfl (w.heap.size + 1 + 1) rfl 33 _ (0, 0) _ F5.out Try.underlying33 rfl info33 ?_) | (refine wpList_store_row rfl 33 (.tmp 4) (.tmp 89) rfl (w.heap.size + 1) #[.int .i64 0, .int .i64 0, .int .i64 0, .bool false, .slice none 0 0, .slice none 0 0, .slice none 0 0] rfl rfl 33 (tellC 0 0 0 false (.slice none 0 0) (.slice none 0 0) (.slice none 0 0)) F4.out info33 rfl (by simp [Value.oneCell']) ?_) | fail)
    have g0 := FR.out.cellv 0 rfl
    have g1 := FR.out.cellv 1 rfl
    have g2 := FR.out.cellv 2 rfl
    have g3 := FR.out.cellv 3 rfl
    have g4 := FR.out.cellv 4 rfl
    have g5 := FR.out.cellv 5 rfl
    have g6 := FR.out.cellv 6 rfl
    have HOF := Lib.hid ((HO.out.trans HO4.out).step FO.out (fun k hk e => by have := HZ3.out; omega))
    refine bodyPost_ret (v := .tuple #[.agg #[.int .i64 0, .int .i64 0, .int .i64 0, .bool false, .slice none 0 0, .slice none 0 0, .slice none 0 0], .slice Aq (n + 1) cq]) (by simp [results, Try.results32, go_sem, g0, g1, g2, g3, g4, g5, g6]) rfl ?_
    have HLD := Lib.hid (fun w'' (ho : Only T _ w'') => HA.out w'' ((HOF.out.mono (S' := T) (fun _ _ h => h.elim)).step ho (fun k _ h => h)))
    have hlow : ∀ g, w.heap.size + 3 ≤ g → (¬ (g = w.heap.size + 1 ∨ g = w.heap.size + 1 + 1)) ∧ ¬ T g := fun g hg => ⟨by omega, fun ht => by have := HT.out g ht; omega⟩
    refine ⟨_, Aq, cq, rs ++ [r], by rw [List.length_append, HN.out]; rfl, by rw [HG9.out]; exact ⟨by rw [List.map_append, HR.out.eq]; simp [HRP.out], HAF.out⟩, HOF.out, fun w'' ho => ⟨by rw [HE9.out]; exact tat_plain _ _ _ _ _, ?_⟩⟩
    have ho9 : w''.ownsRow (w.heap.size + 3) 27 4 (.slice Aq (n + 1) cq) (rs ++ [r]).length (vflat (rs ++ [r])) := by
      rw [List.length_append, HN.out, ← HZ3.out]
      exact ownsRow_only (ownsRow_only HOWN.out FO.out (fun g hg => (hlow g (by have := (ownsRow_lt HOWN.out hg).1; have := HZ3.out; omega)).1)) ho (fun g hg => (hlow g (by have := (ownsRow_lt HOWN.out hg).1; have := HZ3.out; omega)).2)
    obtain ⟨A9, c9, hv9, hr9⟩ := rat_own ho9 (fun q hq => by
      rcases List.mem_append.1 hq with hq | hq
      · exact rat_val (HLD.out w'' ho) hq
      · obtain rfl : q = r := by simpa using hq
        have hrp := HRP.out
        have e1 : q.key = key := congrArg (·.1) hrp
        have e2 : q.bs = bs := congrArg (fun p : KV => p.2.bs) hrp
        obtain ⟨Ab, cb, hv, hb⟩ := ((HRB.out.only FO.out (fun g hg => (hlow g (by have := (ownsRow_lt HRB.out hg).1; have := HZ3.out; omega)).1)).only ho (fun g hg => (hlow g (by have := (ownsRow_lt HRB.out hg).1; have := HZ3.out; omega)).2)).at
        exact ⟨Ab, cb, by rw [hv, e2], by rw [e2]; exact hb, by rw [e1]; exact hkey⟩)
    injection hv9 with e1 _ _
    subst e1
    exact hr9
set_option maxRecDepth 100000 in
set_option maxHeartbeats 8000000 in
theorem want_other (w : World) (T : Nat → Prop) (A : Option Addr) (cap : Nat) (rs : List VRow) (R : List KV) (x : Stp) (Av : Option Addr) (cc : Nat) (hT : ∀ k, T k → k < w.heap.size) (hR : RGood rs R) (hA : ∀ w', Only T w w' → RAt w' A rs) (_ : rs.length < 2513169434843)
    (hk : x.kind ≠ 0 ∧ x.kind ≠ 1 ∧ x.kind ≠ 2 ∧ x.kind ≠ 3 ∧ x.kind ≠ 4 ∧ x.kind ≠ 5 ∧ x.kind ≠ 6 ∧ x.kind ≠ 7) (hkey : x.key.size ≤ maxLen) (hby : BytesAt w Av x.bs) :
    Calls Try.prog 32 #[.slice A rs.length cap, .agg (stepC x.kind x.key x.st (.slice Av x.bs.length cc) x.dead x.tt)] w (WantPost T R x w) := by
  obtain ⟨kind, key, st, bs, dead, tt⟩ := x
  simp only at hk hkey hby ⊢
  obtain ⟨k0, k1, k2, k3, k4, k5, k6, k7⟩ := hk
  have q0 : (kind == 0) = false := beq_eq_false_iff_ne.2 k0
  have q1 : (kind == 1) = false := beq_eq_false_iff_ne.2 k1
  have q2 : (kind == 2) = false := beq_eq_false_iff_ne.2 k2
  have q3 : (kind == 3) = false := beq_eq_false_iff_ne.2 k3
  have q4 : (kind == 4) = false := beq_eq_false_iff_ne.2 k4
  have q5 : (kind == 5) = false := beq_eq_false_iff_ne.2 k5
  have q6 : (kind == 6) = false := beq_eq_false_iff_ne.2 k6
  have q7 : (kind == 7) = false := beq_eq_false_iff_ne.2 k7
  have e1 : ansR R ⟨kind, key, st, bs, dead, tt⟩ = {} := by simp [ansR, k0, k1, k2, k3, k4, k5, k6, k7]
  have e2 : stepR R ⟨kind, key, st, bs, dead, tt⟩ = R := by simp [stepR, k0, k4]
  have HE1 := Lib.hid e1
  have HE2 := Lib.hid e2
  clear k0 k1 k2 k3 k4 k5 k6 k7 e1 e2
  obtain ⟨nn, hnn⟩ : ∃ nn, bs.length = nn := ⟨_, rfl⟩
  rw [hnn]
  have hO : Only NoneOf w (((w.alloc (.cells (stepC kind key st (.slice Av nn cc) dead tt) 29)).alloc (.cells (tellC 0 0 0 false (.slice none 0 0) (.slice none 0 0) (.slice none 0 0)) 33)).alloc (.cells (tellC 0 0 0 false (.slice none 0 0) (.slice none 0 0) (.slice none 0 0)) 33)) := (((Only.refl _ _).alloc _).alloc _).alloc _
  have hB3 := ((Blk.new w 29 (stepC kind key st (.slice Av nn cc) dead tt)).alloc (.cells (tellC 0 0 0 false (.slice none 0 0) (.slice none 0 0) (.slice none 0 0)) 33)).alloc (.cells (tellC 0 0 0 false (.slice none 0 0) (.slice none 0 0) (.slice none 0 0)) 33)
  have hB4 := (Blk.new' (w.alloc (.cells (stepC kind key st (.slice Av nn cc) dead tt) 29)) 33 (tellC 0 0 0 false (.slice none 0 0) (.slice none 0 0) (.slice none 0 0)) (n := w.heap.size + 1) (by simp)).alloc (.cells (tellC 0 0 0 false (.slice none 0 0) (.slice none 0 0) (.slice none 0 0)) 33)
  have hB5 := Blk.new' ((w.alloc (.cells (stepC kind key st (.slice Av nn cc) dead tt) 29)).alloc (.cells (tellC 0 0 0 false (.slice none 0 0) (.slice none 0 0) (.slice none 0 0)) 33)) 33 (tellC 0 0 0 false (.slice none 0 0) (.slice none 0 0) (.slice none 0 0)) (n := w.heap.size + 1 + 1) (by simp)
  have HO := Lib.hid hO
  have HA := Lib.hid hA
  have HT := Lib.hid hT
  have HR := Lib.hid hR
  have HB4 := Lib.hid hB4
  have HB5 := Lib.hid hB5
  have HBY := Lib.hid (hby.keep hO)
  have HNN := Lib.hid hnn
  have HRA := Lib.hid ((hA w (Only.refl _ _)).keep hO)
  have HZ3 := Lib.hid (show (((w.alloc (.cells (stepC kind key st (.slice Av nn cc) dead tt) 29)).alloc (.cells (tellC 0 0 0 false (.slice none 0 0) (.slice none 0 0) (.slice none 0 0)) 33)).alloc (.cells (tellC 0 0 0 false (.slice none 0 0) (.slice none 0 0) (.slice none 0 0)) 33)).heap.size = w.heap.size + 3 by simp)
  have c0 := hB3.cellv 0 rfl
  have c1 := hB3.cellv 1 rfl
  have c2 := hB3.cellv 2 rfl
  have c3 := hB3.cellv 3 rfl
  have c4 := hB3.cellv 4 rfl
  have c5 := hB3.cellv 5 rfl
  obtain ⟨n, hn⟩ : ∃ n, rs.length = n := ⟨_, rfl⟩
  have HN := Lib.hid hn
  rw [hn]
  clear hO hB3 hB4 hB5 hby hR hA hT hn hnn
  go_enter Try.func32, Try.ntmps32
  have B4 := HB4.out
  have B5 := HB5.out
  have F5 := Lib.hid B5
  have F4 := Lib.hid B4
  have FR := Lib.hid (F4.out.row #[.int .i64 0, .int .i64 0, .int .i64 0, .bool false, .slice none 0 0, .slice none 0 0, .slice none 0 0])
  have FO := Lib.hid ((Only.refl (fun k => k = w.heap.size + 1 ∨ k = w.heap.size + 1 + 1) (((w.alloc (.cells (stepC kind key st (.slice Av nn cc) dead tt) 29)).alloc (.cells (tellC 0 0 0 false (.slice none 0 0) (.slice none 0 0) (.slice none 0 0)) 33)).alloc (.cells (tellC 0 0 0 false (.slice none 0 0) (.slice none 0 0) (.slice none 0 0)) 33))).row (b := w.heap.size + 1) (.inl (.inl rfl)) #[.int .i64 0, .int .i64 0, .int .i64 0, .bool false, .slice none 0 0, .slice none 0 0, .slice none 0 0])
  clear B4 B5
  go_wp2_with (first | (refine wpList_load_row rfl 33 (.tmp 6) rfl (w.heap.size + 1 + 1) rfl 33 _ (0, 0) _ F5.out Try.underlying33 rfl info33 ?_) | (refine wpList_store_row rfl 33 (.tmp 4) (.tmp 89) rfl (w.heap.size + 1) #[.int .i64 0, .int .i64 0, .int .i64 0, .bool false, .slice none 0 0, .slice none 0 0, .slice none 0 0] rfl rfl 33 (tellC 0 0 0 false (.slice none 0 0) (.slice none 0 0) (.slice none 0 0)) F4.out info33 rfl (by simp [Value.oneCell']) ?_) | fail)
  have g0 := FR.out.cellv 0 rfl
  have g1 := FR.out.cellv 1 rfl
  have g2 := FR.out.cellv 2 rfl
  have g3 := FR.out.cellv 3 rfl
  have g4 := FR.out.cellv 4 rfl
  have g5 := FR.out.cellv 5 rfl
  have g6 := FR.out.cellv 6 rfl
  have HOF := Lib.hid (HO.out.step FO.out (fun k hk e => by omega))
  refine bodyPost_ret (v := .tuple #[.agg #[.int .i64 0, .int .i64 0, .int .i64 0, .bool false, .slice none 0 0, .slice none 0 0, .slice none 0 0], .slice A n cap]) (by simp [results, Try.results32, go_sem, g0, g1, g2, g3, g4, g5, g6]) rfl ?_
  have HLD := Lib.hid (fun w'' (ho : Only T _ w'') => HA.out w'' ((HOF.out.mono (S' := T) (fun _ _ h => h.elim)).step ho (fun k _ h => h)))
  exact ⟨_, A, cap, rs, by rw [HN.out], (by rw [HE2.out]; exact HR.out), HOF.out, fun w'' ho => ⟨by rw [HE1.out]; exact tat_plain _ _ _ _ _, HLD.out w'' ho⟩⟩

theorem want_is (w : World) (T : Nat → Prop) (A : Option Addr) (cap : Nat) (rs : List VRow) (R : List KV) (x : Stp) (Av : Option Addr) (cc : Nat) (hT : ∀ k, T k → k < w.heap.size) (hR : RGood rs R) (hA : ∀ w', Only T w w' → RAt w' A rs) (hfew : rs.length < 2513169434843)
    (hkey : x.key.size ≤ maxLen) (hby : BytesAt w Av x.bs) :
    Calls Try.prog 32 #[.slice A rs.length cap, .agg (stepC x.kind x.key x.st (.slice Av x.bs.length cc) x.dead x.tt)] w (WantPost T R x w) := by
  by_cases k0 : x.kind = 0
  · exact want_0 w T A cap rs R x Av cc hT hR hA hfew k0 hkey hby
  by_cases k1 : x.kind = 1
  · exact want_1 w T A cap rs R x Av cc hT hR hA hfew k1 hkey hby
  by_cases k2 : x.kind = 2
  · exact want_2 w T A cap rs R x Av cc hT hR hA hfew k2 hkey hby
  by_cases k3 : x.kind = 3
  · exact want_3 w T A cap rs R x Av cc hT hR hA hfew k3 hkey hby
  by_cases k4 : x.kind = 4
  · exact want_4 w T A cap rs R x Av cc hT hR hA hfew k4 hkey hby
  by_cases k5 : x.kind = 5
  · exact want_5 w T A cap rs R x Av cc hT hR hA hfew k5 hkey hby
  by_cases k6 : x.kind = 6
  · exact want_6 w T A cap rs R x Av cc hT hR hA hfew k6 hkey hby
  by_cases k7 : x.kind = 7
  · exact want_7 w T A cap rs R x Av cc hT hR hA hfew k7 hkey hby
  exact want_other w T A cap rs R x Av cc hT hR hA hfew ⟨k0, k1, k2, k3, k4, k5, k6, k7⟩ hkey hby


end Go.Proofs.Ytnonnencdhogiaa

/-
  Layer 14's law StoreDoes walked.
-/
namespace Go.Proofs.Ytnonnencdhogiaa
open Go.RowKit

/-- the store ahead of the call, and behind it -/
def DoG (wb : World) (s i : Nat) (T : Nat → Prop) (R : List KV) (x : Stp) (b6 b7 : Nat) (row tc : Array Value) : Nat → World → Prop
  | 0, w => StoR w s T NoneOf R i ∧ Only NoneOf wb w ∧ Blk w b6 29 row ∧ Blk w b7 33 tc
  | _ + 1, w => ∃ T', StoR w s T' NoneOf (stepR R x) (i + 1) ∧ Only T wb w ∧ (∀ k, T' k → T k ∨ wb.heap.size ≤ k) ∧ Blk w b6 29 row ∧ Blk w b7 33 tc
section
variable {wb : World} {s i : Nat} {T : Nat → Prop} {R : List KV} {x : Stp} {b6 b7 : Nat} {row tc : Array Value} {k : Nat} {w : World}
theorem DoG.keep {w' : World} (h : DoG wb s i T R x b6 b7 row tc k w) (ho : Only NoneOf w w') : DoG wb s i T R x b6 b7 row tc k w' := by
  match k, h with
  | 0, ⟨h1, h2, h3, h4⟩ => exact ⟨h1.keep ho, h2.trans ho, h3.only ho (fun h => h), h4.only ho (fun h => h)⟩
  | _ + 1, ⟨T', h1, h2, h3, h4, h5⟩ => exact ⟨T', h1.keep ho, h2.step ho (fun _ _ h => h.elim), h3, h4.only ho (fun h => h), h5.only ho (fun h => h)⟩
theorem DoG.blk6 (h : DoG wb s i T R x b6 b7 row tc k w) : Blk w b6 29 row := by
  match k, h with
  | 0, ⟨_, _, h3, _⟩ => exact h3
  | _ + 1, ⟨_, _, _, _, h4, _⟩ => exact h4
theorem DoG.blk7 (h : DoG wb s i T R x b6 b7 row tc k w) : Blk w b7 33 tc := by
  match k, h with
  | 0, ⟨_, _, _, h4⟩ => exact h4
  | _ + 1, ⟨_, _, _, _, _, h5⟩ => exact h5
theorem DoG.turned (h : DoG wb s i T R x b6 b7 row tc k w) : Only T wb w := by
  match k, h with
  | 0, ⟨_, h2, _, _⟩ => exact h2.mono fun _ _ h => h.elim
  | _ + 1, ⟨_, _, h2, _⟩ => exact h2
theorem DoG.end (h : DoG wb s i T R x b6 b7 row tc k w) (hk : 0 < k) : ∃ T', StoR w s T' NoneOf (stepR R x) (i + 1) ∧ Only T wb w ∧ (∀ k, T' k → T k ∨ wb.heap.size ≤ k) := by
  match k, h, hk with
  | _ + 1, ⟨T', h1, h2, h3, _⟩, _ => exact ⟨T', h1, h2, h3⟩
end
/-- the values of the region that asks -/
def DoT (x : Stp) (Ab : Option Addr) (cb s lo : Nat) (R : List KV) (tc : Array Value) : Nat → Value → World → Prop
  | 0, v, _ => v = .pointer (some ⟨s, 0, none⟩)
  | 1, v, _ => v = .agg (stepC x.kind x.key x.st (.slice Ab x.bs.length cb) x.dead x.tt)
  | 2, v, w => TellV lo (ansR R x) v w
  | 3, v, _ => v = .agg tc
  | 4, v, _ => v = .bool true
  | 5, v, _ => v = .bool false
  | _, _, _ => True
theorem DoT_keep (x : Stp) (Ab : Option Addr) (cb s lo : Nat) (R : List KV) (tc : Array Value) {T : Nat → Prop} (hlo : ∀ k, T k → k < lo) (i : Nat) (v : Value) (w w' : World) (h : DoT x Ab cb s lo R tc i v w) (ho : Only T w w') : DoT x Ab cb s lo R tc i v w' :=
  match i, h with
  | 0, h | 1, h | 3, h | 4, h | 5, h => h
  | 2, ⟨cs, h1, h2⟩ => ⟨cs, h1, h2.turn ho hlo⟩
  | _ + 6, _ => trivial
/-- a told thing's cells -/
theorem TAt.cells {w : World} {cs : Array Value} {x : An} (h : TAt w cs x) : ∃ A1 n1 c1 A2 n2 c2 A3 n3 c3, cs = tellC x.e x.n x.m x.is (.slice A1 n1 c1) (.slice A2 n2 c2) (.slice A3 n3 c3) := by
  obtain ⟨vb, vp, vl, h1, ⟨A1, c1, rfl, _⟩, ⟨A2, c2, rfl, _⟩, ⟨A3, c3, rfl, _⟩⟩ := h
  exact ⟨_, _, _, _, _, _, _, _, _, h1⟩

/-- in a round -/
def DoRel (w : World) (s n : Nat) (v3 vi : Value) (wr : World) : Prop :=
  ∃ (i : Nat) (A : Option Addr) (cap : Nat) (rs : List VRow) (R : List KV) (T : Nat → Prop), vi = .int .i64 i ∧ i ≤ n ∧ v3 = .slice A rs.length cap ∧ RGood rs R ∧ StoR wr s T NoneOf R i ∧ (∀ w', Only T wr w' → RAt w' A rs) ∧ Only NoneOf w wr ∧ ∀ k, T k → w.heap.size ≤ k

set_option maxRecDepth 100000 in
set_option maxHeartbeats 8000000 in
theorem does_walk (A : Option Addr) (cap : Nat) (xs : List Stp) (w : World) (hX : StepsAt w A xs) (hfew : xs.length ≤ 1759218604390) : Calls Try.prog 10 #[.slice A xs.length cap] w (Ans (.bool true) w) := by
  have HFX := fun u => Lib.hid (fixed_is u)
  have HX := Lib.hid hX
  have HNW := Lib.hid (newR (w.alloc (.cells #[] 27)) NoneOf (fun _ h => h.elim))
  have HO0 := Lib.hid ((Only.refl NoneOf w).alloc (.cells #[] 27))
  have hz0 : (w.alloc (.cells #[] 27)).heap.size = w.heap.size + 1 := by simp
  obtain ⟨n, hn⟩ : ∃ n, xs.length = n := ⟨_, rfl⟩
  have HN := Lib.hid hn
  rw [hn] at hfew ⊢
  rw [hz0] at HNW
  clear hX hn hz0
  go_enter Try.func10, Try.ntmps10
  go_wp2_with fail
  refine HNW.out.mono ?_; rintro e w1 ⟨rfl, T1, hs1, ho1, ht1⟩
  have HO1 := Lib.hid (HO0.out.trans ho1)
  have HS1 := Lib.hid hs1
  have HT1 := Lib.hid (show ∀ k, T1 k → w.heap.size ≤ k from fun k hk => by have := ht1 k hk; omega)
  obtain ⟨s, hs⟩ : ∃ s, w.heap.size + 1 + 1 = s := ⟨_, rfl⟩
  rw [hs] at HS1 ⊢
  clear hs1 ho1 ht1 HNW HO0
  go_wp2_with fail
  refine (HFX w1).out.mono ?_; rintro e w2 ⟨rfl, ho2⟩
  have HR0 := Lib.hid (show DoRel w s n (.slice (some ⟨w.heap.size, 0, none⟩) 0 0) (.int .i64 0) w2 from ⟨0, some ⟨w.heap.size, 0, none⟩, 0, [], [], T1, rfl, by omega, rfl, ⟨rfl, GoodR.nil⟩, HS1.out.keep ho2, fun w' _ i r hr => by simp at hr, HO1.out.trans ho2, HT1.out⟩)
  clear ho2 HS1 HO1 HT1
  go_wp2_with fail
  go_loopw [3, 19] (fun v3 vi wr => DoRel w s n v3 vi wr) (fun _ vi _ => n - (intOf vi).toNat)
  case atStart => exact HR0.out
  case round =>
    clear HR0
    obtain ⟨i, A1, cap1, rs, R, T, rfl, hi, rfl, hg, hst, hra, hO, hTl⟩ := hrel
    have HG := Lib.hid hg
    have HS := Lib.hid hst
    have HRA := Lib.hid hra
    have HO := Lib.hid hO
    have HTL := Lib.hid hTl
    have hrn : rs.length ≤ i := by rw [hg.len]; exact hst.len
    clear hg hst hra hO hTl
    by_cases hlt : i < n
    · have hx : xs[i]? = some (xs[i]'(by rw [HN.out]; exact hlt)) := List.getElem?_eq_getElem _
      generalize xs[i]'(by rw [HN.out]; exact hlt) = x at hx
      obtain ⟨g, off, Ab, cb, rfl, hg, d0, d1, d2, d3, d4, d5, hby, hks⟩ := (HX.out.keep HO.out) i x hx
      have HWA := Lib.hid ((Only.refl NoneOf wr).alloc (.cells (stepC x.kind x.key x.st (.slice Ab x.bs.length cb) x.dead x.tt) 29))
      have HWN := Lib.hid (want_is (wr.alloc (.cells (stepC x.kind x.key x.st (.slice Ab x.bs.length cb) x.dead x.tt) 29)) T A1 cap1 rs R x Ab cb (fun k hk => Nat.lt_of_lt_of_le (HS.out.lt hk) HWA.out.size) HG.out
        (fun w' ho => HRA.out w' ((HWA.out.mono fun _ _ h => h.elim).step ho (fun _ _ h => h))) (by omega) hks (hby.keep HWA.out))
      have HBY := Lib.hid hby
      have HB6 := Lib.hid (Blk.new wr 29 (stepC x.kind x.key x.st (.slice Ab x.bs.length cb) x.dead x.tt))
      obtain ⟨nr, hnr⟩ : ∃ nr, rs.length = nr := ⟨_, rfl⟩
      rw [hnr] at HWN ⊢
      clear hx hby hnr
      go_wp2_with fail
      refine HWN.out.mono ?_; rintro e wb ⟨cs, A2, cap2, rs2, rfl, hg2, hob, htl⟩
      obtain ⟨E1, n1, c1, E2, n2, c2, E3, n3, c3, hcs⟩ := (htl wb (Only.refl _ _)).1.cells
      have HG2 := Lib.hid hg2
      have HTD := Lib.hid htl
      obtain ⟨te, hte⟩ : ∃ te, (ansR R x).e = te := ⟨_, rfl⟩
      obtain ⟨tn, htn⟩ : ∃ tn, (ansR R x).n = tn := ⟨_, rfl⟩
      obtain ⟨tm, htm⟩ : ∃ tm, (ansR R x).m = tm := ⟨_, rfl⟩
      obtain ⟨ti, hti⟩ : ∃ ti, (ansR R x).is = ti := ⟨_, rfl⟩
      rw [hte, htn, htm, hti] at hcs
      subst hcs
      have HOB := Lib.hid (HWA.out.trans hob)
      have HB6b := Lib.hid (HB6.out.only hob (fun h => h))
      clear hte htn htm hti hg2 htl hob HWN
      have HTW := Lib.hid (show ∀ k, T k → k < wr.heap.size from fun k hk => HS.out.lt hk)
      have hbw := HOB.out.size
      have HG0 := Lib.hid (show DoG (wb.alloc (.cells (tellC te tn tm ti (.slice E1 n1 c1) (.slice E2 n2 c2) (.slice E3 n3 c3)) 33)) s i T R x wr.heap.size wb.heap.size (stepC x.kind x.key x.st (.slice Ab x.bs.length cb) x.dead x.tt) (tellC te tn tm ti (.slice E1 n1 c1) (.slice E2 n2 c2) (.slice E3 n3 c3)) 0 (wb.alloc (.cells (tellC te tn tm ti (.slice E1 n1 c1) (.slice E2 n2 c2) (.slice E3 n3 c3)) 33)) from
        ⟨HS.out.keep (HOB.out.alloc _), Only.refl _ _, HB6b.out.alloc _, Blk.new _ _ _⟩)
      have HOC := Lib.hid (HOB.out.alloc (.cells (tellC te tn tm ti (.slice E1 n1 c1) (.slice E2 n2 c2) (.slice E3 n3 c3)) 33))
      have HTE := Lib.hid (fun w'' (ho : Only T (wb.alloc (.cells (tellC te tn tm ti (.slice E1 n1 c1) (.slice E2 n2 c2) (.slice E3 n3 c3)) 33)) w'') => HTD.out w'' ((((Only.refl NoneOf wb).alloc (.cells (tellC te tn tm ti (.slice E1 n1 c1) (.slice E2 n2 c2) (.slice E3 n3 c3)) 33)).mono (S' := T) fun _ _ h => h.elim).step ho (fun _ _ h => h)))
      have HFIT := Lib.hid (ansR_fit HS.out (by unfold NMAX; omega) x)
      have hb6 : ¬ T wr.heap.size := fun h => by have := HTW.out _ h; omega
      have hb7 : ¬ T wb.heap.size := fun h => by have := HTW.out _ h; omega
      have hlo : ∀ k, T k → k < wr.heap.size := HTW.out
      have hN : i < NMAX := by unfold NMAX; omega
      have HBC := Lib.hid (HBY.out.keep HOC.out)
      go_upto_region 9 with (fail)
      refine wp_region_head2 6 49 [] (fun _ => none) (fun i => match i with | 2 => some 0 | _ => none) T (DoG (wb.alloc (.cells (tellC te tn tm ti (.slice E1 n1 c1) (.slice E2 n2 c2) (.slice E3 n3 c3)) 33)) s i T R x wr.heap.size wb.heap.size (stepC x.kind x.key x.st (.slice Ab x.bs.length cb) x.dead x.tt) (tellC te tn tm ti (.slice E1 n1 c1) (.slice E2 n2 c2) (.slice E3 n3 c3))) (DoT x Ab cb s wr.heap.size R (tellC te tn tm ti (.slice E1 n1 c1) (.slice E2 n2 c2) (.slice E3 n3 c3))) rfl (by kernel_rfl) (by kernel_rfl) ?hskip ?hgv (DoT_keep x Ab cb s wr.heap.size R (tellC te tn tm ti (.slice E1 n1 c1) (.slice E2 n2 c2) (.slice E3 n3 c3)) hlo) (HG0.out.keep (Only.refl _ _).drew) ?hstep ?hend
      case hskip =>
        intro i o hi ho hw k
        have : i = 0 ∨ i = 1 ∨ i = 2 ∨ i = 3 ∨ i = 4 ∨ i = 5 := by omega
        rcases this with rfl | rfl | rfl | rfl | rfl | rfl
        · rfl
        · rfl
        · obtain rfl := Option.some.inj (ho : some _ = some o); exact absurd (show true = false from hw) (by decide)
        · rfl
        · rfl
        · rfl
      case hgv =>
        intro g hg v w h
        cases hg
      case hstep =>
        intro i o hi ho a u k hk hik hs ht
        have e6 : a.tmps.getD 6 undef = .pointer (some ⟨wr.heap.size, 0, none⟩) := hs 6 (of_decide_eq_true (by kernel_rfl))
        have e7 : a.tmps.getD 7 undef = .pointer (some ⟨wb.heap.size, 0, none⟩) := hs 7 (of_decide_eq_true (by kernel_rfl))
        have e4 : a.tmps.getD 4 undef = .pointer (some ⟨s, 0, none⟩) := hs 4 (of_decide_eq_true (by kernel_rfl))
        have : i = 0 ∨ i = 1 ∨ i = 2 ∨ i = 3 ∨ i = 4 ∨ i = 5 := by omega
        rcases this with rfl | rfl | rfl | rfl | rfl | rfl
        · obtain rfl := Option.some.inj (ho : some _ = some o)
          rw [if_pos (by decide)]
          exact left2_value (.pointer (some ⟨s, 0, none⟩)) (by simp [go_sem, e4]) rfl rfl hk
        · obtain rfl := Option.some.inj (ho : some _ = some o)
          rw [if_pos (by decide)]
          exact left2_load 29 (.tmp 6) wr.heap.size 29 _ _ rfl e6 hk.blk6 Try.underlying29 rfl info29 rfl rfl hk
        · obtain rfl := Option.some.inj (ho : some _ = some o)
          rw [if_pos (by decide)]
          have s0 : a.tmps.getD 29 undef = .pointer (some ⟨s, 0, none⟩) := ht 0 (by omega) (by kernel_rfl)
          have s0c : a.tmps.getD 29 undef = .pointer (some ⟨s, 0, none⟩) := ht 0 (by omega) (by kernel_rfl)
          have s1c : a.tmps.getD 30 undef = .agg (stepC x.kind x.key x.st (.slice Ab x.bs.length cb) x.dead x.tt) := ht 1 (by omega) (by kernel_rfl)
          obtain rfl : k = 0 := by
            rcases hik with h | h
            · cases h
            · injection h with h; exact h.symm
          refine left2_turns 17 #[.pointer (some ⟨s, 0, none⟩), .agg (stepC x.kind x.key x.st (.slice Ab x.bs.length cb) x.dead x.tt)] (by simp [go_sem, s0c, s1c]) ?_ rfl
          obtain ⟨h1, h2, h3, h4⟩ := hk
          refine (call_is u s i T NoneOf R h1 hN x Ab cb hks (HBC.out.keep h2)).mono ?_
          rintro e w' ⟨cs2, T', rfl, hst, hs, ho, hkk⟩
          have hsz := h2.size
          have hcz := HOC.out.size
          exact ⟨_, rfl, ⟨cs2, rfl, hst.low (by omega)⟩, ⟨T', hs, (h2.mono fun _ _ h => h.elim).step ho (fun _ _ h => h), fun k hk' => (hkk k hk').imp id (fun h => by omega), h3.only ho hb6, h4.only ho hb7⟩, ho⟩
        · obtain rfl := Option.some.inj (ho : some _ = some o)
          rw [if_pos (by decide)]
          exact left2_load 33 (.tmp 7) wb.heap.size 33 _ _ rfl e7 hk.blk7 Try.underlying33 rfl info33 rfl rfl hk
        · obtain rfl := Option.some.inj (ho : some _ = some o)
          rw [if_pos (by decide)]
          obtain ⟨cs2, s2c, h2⟩ : TellV wr.heap.size (ansR R x) (a.tmps.getD 31 undef) u := ht 2 (by omega) (by kernel_rfl)
          have s3c : a.tmps.getD 32 undef = .agg (tellC te tn tm ti (.slice E1 n1 c1) (.slice E2 n2 c2) (.slice E3 n3 c3)) := ht 3 (by omega) (by kernel_rfl)
          have hal := alike_same u cs2 (tellC te tn tm ti (.slice E1 n1 c1) (.slice E2 n2 c2) (.slice E3 n3 c3)) (ansR R x) HFIT.out h2.at (HTE.out u hk.turned).1
          exact left2_calls 16 #[.agg cs2, .agg (tellC te tn tm ti (.slice E1 n1 c1) (.slice E2 n2 c2) (.slice E3 n3 c3))] (by simp [go_sem, s2c, s3c]) (hal.mono (fun e w' ⟨he, ho⟩ => ⟨_, he, rfl, ho⟩)) rfl (fun w' ho => hk.keep ho)
        · obtain rfl := Option.some.inj (ho : some _ = some o)
          rw [if_pos (by decide)]
          have s4 : a.tmps.getD 33 undef = .bool true := ht 4 (by omega) (by kernel_rfl)
          exact left2_value (.bool false) (by simp [go_sem, s4]) rfl rfl hk
      case hend =>
        intro V' u k hk hkt hV'
        have v0 : V' 0 = .pointer (some ⟨s, 0, none⟩) := hV' 0 (by omega)
        have v1 : V' 1 = .agg (stepC x.kind x.key x.st (.slice Ab x.bs.length cb) x.dead x.tt) := hV' 1 (by omega)
        obtain ⟨cs2, v2, h2⟩ : TellV wr.heap.size (ansR R x) (V' 2) u := hV' 2 (by omega)
        have v3 : V' 3 = .agg (tellC te tn tm ti (.slice E1 n1 c1) (.slice E2 n2 c2) (.slice E3 n3 c3)) := hV' 3 (by omega)
        have v4 : V' 4 = .bool true := hV' 4 (by omega)
        have v5 : V' 5 = .bool false := hV' 5 (by omega)
        have hk0 : 0 < k := hkt 2 0 (by omega) rfl
        change wpList _ _ _ _ (Act.put (Act.put (Act.put (Act.put (Act.put (Act.put _ (some 29) (V' 0)) (some 30) (V' 1)) (some 31) (V' 2)) (some 32) (V' 3)) (some 33) (V' 4)) (some 34) (V' 5)) _
        rw [v0, v1, v2, v3, v4, v5]
        simp only [Act.put, List.setIfInBounds_toArray, List.set_cons_zero, List.set_cons_succ]
        simp only [List.drop_succ_cons, List.drop_zero]
        clear hV' v0 v1 v2 v3 v4 v5
        obtain ⟨T', hs9, ho9, ht9⟩ := hk.end hk0
        have HWE := Lib.hid (show DoRel w s n (.slice A2 rs2.length cap2) (.int .i64 ((i : Int) + 1)) u from by
          refine ⟨i + 1, A2, cap2, rs2, stepR R x, T', by rw [show ((i + 1 : Nat) : Int) = (i : Int) + 1 by omega], by omega, rfl, HG2.out, hs9, fun w' ho => (HTE.out w' (ho9.step ho fun k hk ht => ?_)).2, (HO.out.trans HOC.out).step ho9 (fun k hk ht => by have := HTL.out k ht; omega), fun k hk => ?_⟩
          · rcases ht9 k ht with h | h
            · exact h
            · omega
          · rcases ht9 k hk with h | h
            · exact HTL.out k h
            · have := (HO.out.trans HOC.out).size
              omega)
        clear hk hkt h2 hs9 ho9 ht9 hk0 hlo hb6 hb7 d0 d1 d2 d3 d4 d5
        go_wp2_with fail
        exact ⟨HWE.out, by simp [intOf]; omega⟩
    · obtain rfl : i = n := by omega
      have HVS := Lib.hid (versionsR wr s i T NoneOf R HS.out (by unfold NMAX; omega))
      have HVR := fun (u : World) (hu : Only NoneOf wr u) => Lib.hid (Versions_ref u A1 cap1 rs R HG.out (HRA.out u (hu.mono fun _ _ h => h.elim)) (by omega))
      have HLR := fun (u : World) (hu : Only NoneOf wr u) => Lib.hid (Live_ref u A1 cap1 rs R HG.out (HRA.out u (hu.mono fun _ _ h => h.elim)) (by omega))
      have HLS := fun (u : World) (hu : Only NoneOf wr u) => Lib.hid (liveIs2 u s i T NoneOf R (HS.out.keep hu))
      have hlen := HS.out.len
      have HFIT : Hid (∀ x ∈ versR R, x.2.bs.length ≤ 4611686018427387904) := Lib.hid fun x hx => by
        have := HG.out.good.bs x (versR_mem hx)
        omega
      obtain ⟨nr, hnr⟩ : ∃ nr, rs.length = nr := ⟨_, rfl⟩
      obtain ⟨lv, hlv⟩ : ∃ lv, liveR R = lv := ⟨_, rfl⟩
      simp only [hnr, hlv] at HVR HLR HLS ⊢
      clear hlt hnr hlv
      go_wp2_with fail
      refine HVS.out.mono ?_; rintro e w5 ⟨v5, rs5, rfl, hr5, hpl5, ho5⟩
      have HO5 := Lib.hid ho5
      have HL5 := Lib.hid (show ListAt 4 VerE w5 v5 (versR R) by rw [← hpl5]; exact listAt_vers hr5)
      have HVR5 := HVR w5 ho5
      clear hr5 hpl5 ho5 HVS HVR
      go_wp2_with fail
      refine HVR5.out.mono ?_; rintro e w6 ⟨v6, qs, rfl, hown, hsub, hplq, ho6⟩
      have HO6 := Lib.hid (HO5.out.trans ho6)
      have HVA := versions_alike w6 v5 v6 (versR R) (versR R) (HL5.out.keep (fun x cs => VerE.keep ho6 x cs) ho6) (by rw [← hplq]; exact list_rows hown (fun r hr => rat_val (HRA.out w6 ((HO5.out.trans ho6).mono fun _ _ h => h.elim)) (hsub r hr))) (by rw [versR_length]; omega) HFIT.out
      rw [decide_eq_true rfl] at HVA
      replace HVA := Lib.hid HVA
      clear hown hsub hplq ho6 HVR5
      go_wp2_with fail
      refine HVA.out.mono ?_; rintro e w7 ⟨rfl, hw7⟩
      have HO7 := Lib.hid (HO6.out.trans (drewN_only hw7))
      have HLS7 := HLS w7 HO7.out
      clear hw7 HVA HLS
      go_wp2_with fail
      refine HLS7.out.mono ?_; rintro e w8 ⟨rfl, ho8⟩
      have HO8 := Lib.hid (HO7.out.trans ho8)
      have HLR8 := HLR w8 HO8.out
      clear ho8 HLS7 HLR
      go_wp2_with fail
      refine HLR8.out.mono ?_; rintro e w9 ⟨rfl, ho9⟩
      have HO9 := Lib.hid ((HO.out.trans HO8.out).trans ho9)
      clear ho9 HLR8
      go_wp2_with fail
      go_ret
      exact ⟨rfl, HO9.out⟩

end Go.Proofs.Ytnonnencdhogiaa

