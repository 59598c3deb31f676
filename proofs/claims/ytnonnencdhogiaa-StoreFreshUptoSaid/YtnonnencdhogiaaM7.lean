/-
  Texts of this proof, laid together: S45, S46, S47, S48, S49, S51, S52, S53, S54.
-/
import Derived.Test.YtnonnencdhogiaaM6
import Derived.Sort.Walk0
import Derived.Laws.AppendOwnNone
/-
  Layer 14's law StoreScans, plain: a Scan is the Gets, and is made of parts.
-/
namespace Go.Proofs.Ytnonnencdhogiaa

theorem scan_get {R : List KV} {fr tt : ByteArray} {st : Int} {p : ByteArray × List UInt8} (h : p ∈ scanR R fr tt st) : found (verR R p.1) st = some p.2 := by
  obtain ⟨k, _, hk⟩ := List.mem_filterMap.1 h
  unfold scanKey at hk
  split at hk
  · cases hk
  · obtain ⟨b, hb, rfl⟩ := Option.map_eq_some_iff.1 hk
    exact hb
theorem empty_list : (⟨#[]⟩ : ByteArray).toList = [] := by rw [ByteArray.toList_eq]
theorem scanKey_key {V : ByteArray → List Ver} {fr tt : ByteArray} {st : Int} {k : List UInt8} {p : ByteArray × List UInt8} (h : scanKey V fr tt st k = some p) : p.1 = keyB k := by
  unfold scanKey at h
  split at h
  · cases h
  · obtain ⟨b, _, rfl⟩ := Option.map_eq_some_iff.1 h
    rfl
theorem scan_rise (R : List KV) (fr tt : ByteArray) (st : Int) : (scanR R fr tt st).Pairwise fun p q => p.1.data.toList < q.1.data.toList := by
  unfold scanR
  refine List.Pairwise.filterMap _ (fun a a' h b hb b' hb' => ?_) (keysR_sorted R)
  rw [scanKey_key hb, scanKey_key hb']
  simpa using h

/-- is it a found key's newest version? -/
def cntP (R : List KV) (st : Int) (p : KV) : Bool := (found (verR R p.1) st).isSome && (match (verR R p.1).getLast? with | some y => y.st == p.2.st | none => false)
theorem count_last : ∀ (xs : List Ver) (b : Ver), (xs ++ [b]).Pairwise (fun a c => a.st < c.st) → (xs ++ [b]).countP (fun x => b.st == x.st) = 1
  | [], b, _ => by simp
  | x :: xs, b, h => by
    rw [List.cons_append, List.pairwise_cons] at h
    rw [List.cons_append, List.countP_cons_of_neg, count_last xs b h.2]
    have := h.1 b (by simp)
    simp
    omega
theorem scan_count {R : List KV} (hg : GoodR R) (st : Int) : (versR R).countP (cntP R st) = (scanR R ⟨#[]⟩ ⟨#[]⟩ st).length := by
  unfold versR scanR
  have hne : ∀ k ∈ keysR R, verR R (keyB k) ≠ [] := fun k hk => verR_ne.2 (keysR_mem.1 hk)
  revert hne
  generalize keysR R = ks
  intro hne
  induction ks with
  | nil => rfl
  | cons k ks ih =>
    rw [List.flatMap_cons, List.countP_append, ih fun k' hk' => hne k' (by simp [hk']), List.filterMap_cons]
    have hsk : scanKey (verR R) ⟨#[]⟩ ⟨#[]⟩ st k = (found (verR R (keyB k)) st).map fun b => (keyB k, b) := by
      unfold scanKey
      rw [if_neg]
      rintro (h | ⟨h, _⟩)
      · have : ∀ k : List UInt8, Op.bytesLess k [] = false := fun k => by cases k <;> rfl
        rw [empty_list, this] at h
        cases h
      · exact h empty_list
    rw [hsk]
    have hc : ((verR R (keyB k)).map fun x => ((keyB k, x) : KV)).countP (cntP R st) = if (found (verR R (keyB k)) st).isSome then 1 else 0 := by
      rw [List.countP_map]
      rcases List.eq_nil_or_concat (verR R (keyB k)) with e | ⟨ys, b, e⟩
      · exact absurd e (hne k (by simp))
      · rw [List.concat_eq_append] at e
        have hr := hg.rise (keyB k)
        split
        · rename_i hs
          have hf : (cntP R st ∘ fun x => ((keyB k, x) : KV)) = fun x => b.st == x.st := by
            funext x
            simp only [Function.comp, cntP, hs, Bool.true_and]
            rw [e]
            simp
          rw [hf, e]
          rw [e] at hr
          exact count_last ys b hr
        · rename_i hs
          have hf : (cntP R st ∘ fun x => ((keyB k, x) : KV)) = fun _ => false := by
            funext x
            simp only [Function.comp, cntP]
            simp [hs]
          rw [hf]
          simp
    rw [hc]
    cases found (verR R (keyB k)) st with
    | none => simp
    | some b => simp; omega

theorem fm_congr {α β : Type} {f g : α → Option β} : ∀ {l : List α}, (∀ x ∈ l, f x = g x) → l.filterMap f = l.filterMap g
  | [], _ => rfl
  | x :: l, h => by rw [List.filterMap_cons, List.filterMap_cons, h x (by simp), fm_congr fun y hy => h y (by simp [hy])]
theorem split_keys {α : Type} (A B C : List UInt8) (g : List UInt8 → Option α) (hAB : ¬ B < A) (hBC : ¬ C < B) : ∀ (ks : List (List UInt8)), ks.Pairwise (· < ·) →
    ks.filterMap (fun k => if k < A ∨ ¬ k < B then none else g k) ++ ks.filterMap (fun k => if k < B ∨ ¬ k < C then none else g k) = ks.filterMap (fun k => if k < A ∨ ¬ k < C then none else g k)
  | [], _ => rfl
  | k :: ks, h => by
    obtain ⟨h1, h2⟩ := List.pairwise_cons.1 h
    by_cases hk : k < B
    · have ih := split_keys A B C g hAB hBC ks h2
      have hkC : k < C := by
        refine Decidable.byContradiction fun hn => hBC ?_
        exact List.lt_of_le_of_lt (List.not_lt.1 hn) hk
      rw [List.filterMap_cons, List.filterMap_cons, List.filterMap_cons]
      have e1 : (if k < B ∨ ¬ k < C then none else g k) = none := if_pos (.inl hk)
      have e2 : (if k < A ∨ ¬ k < B then none else g k) = if k < A ∨ ¬ k < C then none else g k := by simp [hk, hkC]
      rw [e1, e2]
      cases (if k < A ∨ ¬ k < C then none else g k) with
      | none => simpa using ih
      | some y => simpa using ih
    · have hle : ∀ k' ∈ k :: ks, ¬ k' < B := fun k' hk' => by
        rcases List.mem_cons.1 hk' with rfl | hk'
        · exact hk
        · exact List.lt_asymm (List.lt_of_le_of_lt (List.not_lt.1 hk) (h1 k' hk'))
      have hA : ∀ k' ∈ k :: ks, ¬ k' < A := fun k' hk' hn => hAB (List.lt_of_le_of_lt (List.not_lt.1 (hle k' hk')) hn)
      have e0 : (k :: ks).filterMap (fun k => if k < A ∨ ¬ k < B then none else g k) = [] := List.filterMap_eq_nil_iff.2 fun k' hk' => if_pos (.inr (hle k' hk'))
      rw [e0, List.nil_append]
      refine fm_congr fun k' hk' => ?_
      simp [hle k' hk', hA k' hk']

theorem scan_split (R : List KV) (a b c : ByteArray) (st : Int) (hab : Op.bytesLess b.toList a.toList = false) (hbc : Op.bytesLess c.toList b.toList = false) (hb : b.toList ≠ []) (hc : c.toList ≠ []) :
    scanR R a b st ++ scanR R b c st = scanR R a c st := by
  have hk : ∀ fr tt : ByteArray, tt.toList ≠ [] → scanKey (verR R) fr tt st = fun k => if k < fr.toList ∨ ¬ k < tt.toList then none else (found (verR R ⟨k.toArray⟩) st).map fun b => (⟨k.toArray⟩, b) := fun fr tt ht => by
    funext k
    unfold scanKey
    simp only [Go.Proofs.bytesLess_eq]
    simp [ht]
  rw [Go.Proofs.bytesLess_eq] at hab hbc
  unfold scanR
  rw [hk a b hb, hk b c hc, hk a c hc]
  exact split_keys _ _ _ _ (of_decide_eq_false hab) (of_decide_eq_false hbc) _ (keysR_sorted R)

end Go.Proofs.Ytnonnencdhogiaa

/-
  Layer 14's laws: slices.Sort of three texts.
-/
namespace Go.Proofs.Ytnonnencdhogiaa
open Go.RowKit Go.Maps Go.Sort

theorem only_sorted {α : Type} [Inhabited α] (enc : α → Value) (w : World) (n blk off : Nat) (d : Array α) (os : Array Obj) : Only (fun k => k = blk) w (grow (putRow enc (Go.Sort.ahead w n) blk off d) os) := by
  refine ⟨rfl, rfl, rfl, ?_, fun k hk hne => ?_⟩
  · simp [grow, putRow, mapBlock, Go.Sort.ahead]
  · simp only [grow, putRow, mapBlock, Go.Sort.ahead]
    rw [Array.getElem?_append_left (by simpa using hk), Array.getElem?_modify, if_neg (fun e => hne e.symm)]

theorem sort_three (w : World) (blk cap : Nat) (a b c : ByteArray) (h0 : w.cell? ⟨blk, 0, none⟩ = some (.string a) ∧ w.frozen? ⟨blk, 0, none⟩ = false) (h1 : w.cell? ⟨blk, 1, none⟩ = some (.string b) ∧ w.frozen? ⟨blk, 1, none⟩ = false)
    (h2 : w.cell? ⟨blk, 2, none⟩ = some (.string c) ∧ w.frozen? ⟨blk, 2, none⟩ = false) (hb : blk < w.heap.size) :
    Calls Try.prog 27 #[.slice (some ⟨blk, 0, none⟩) 3 cap] w fun e w' => e = .returned (.tuple #[]) ∧ ∃ x y z : ByteArray, w'.cell? ⟨blk, 0, none⟩ = some (.string x) ∧ w'.cell? ⟨blk, 1, none⟩ = some (.string y) ∧ w'.cell? ⟨blk, 2, none⟩ = some (.string z) ∧
      Op.bytesLess y.toList x.toList = false ∧ Op.bytesLess z.toList y.toList = false ∧ Only (fun k => k = blk) w w' := by
  have hH : Go.Sort.Holds encStr w blk 0 [a.data.toList, b.data.toList, c.data.toList].toArray := by
    intro j hj
    have : j = 0 ∨ j = 1 ∨ j = 2 := by simp at hj; omega
    rcases this with rfl | rfl | rfl
    · simpa [keyB_list, encStr] using h0
    · simpa [keyB_list, encStr] using h1
    · simpa [keyB_list, encStr] using h2
  refine (AnyM.slices_Sort_string Try.sort27 blk 0 cap [a.data.toList, b.data.toList, c.data.toList] w hH hb (by simp)).mono ?_
  rintro e w' ⟨rfl, n, os, rfl⟩
  have hlen : ([a.data.toList, b.data.toList, c.data.toList].mergeSort fun x y => decide (x ≤ y)).length = 3 := by rw [List.length_mergeSort]; rfl
  have hsort : ([a.data.toList, b.data.toList, c.data.toList].mergeSort fun x y => decide (x ≤ y)).Pairwise (fun x y => decide (x ≤ y) = true) :=
    List.pairwise_mergeSort (fun x y z h1 h2 => by simp only [decide_eq_true_eq] at *; exact List.le_trans h1 h2) (fun x y => by simp only [Bool.or_eq_true, decide_eq_true_eq]; exact List.le_total x y) _
  generalize ([a.data.toList, b.data.toList, c.data.toList].mergeSort fun x y => decide (x ≤ y)) = l at hlen hsort ⊢
  match l, hlen with
  | [x, y, z], _ =>
    have hp := holds_putRow encStr (Go.Sort.ahead w n) blk 0 _ [x, y, z].toArray (holds_ahead encStr w n blk 0 _ hH) rfl
    have hbs : blk < (putRow encStr (Go.Sort.ahead w n) blk 0 [x, y, z].toArray).heap.size := by simpa [putRow, mapBlock, Go.Sort.ahead] using hb
    have hg := holds_grow encStr _ os blk 0 _ hbs hp
    simp only [List.pairwise_cons] at hsort
    have e1 := hsort.1 y (by simp)
    have e2 := hsort.2.1 z (by simp)
    simp only [decide_eq_true_eq] at e1 e2
    refine ⟨rfl, ⟨x.toArray⟩, ⟨y.toArray⟩, ⟨z.toArray⟩, (hg 0 (by simp)).1, (hg 1 (by simp)).1, (hg 2 (by simp)).1, ?_, ?_, only_sorted _ _ _ _ _ _ _⟩
    · rw [Go.Proofs.bytesLess_eq, ByteArray.toList_eq, ByteArray.toList_eq]
      exact decide_eq_false (List.not_lt.2 e1)
    · rw [Go.Proofs.bytesLess_eq, ByteArray.toList_eq, ByteArray.toList_eq]
      exact decide_eq_false (List.not_lt.2 e2)

end Go.Proofs.Ytnonnencdhogiaa

/-
  Layer 14's law StoreScans walked.
-/
namespace Go.Proofs.Ytnonnencdhogiaa
open Go.RowKit

theorem get_some {w : World} {s N : Nat} {T U : Nat → Prop} {R : List KV} (h : StoR w s T U R N) {key : ByteArray} {st : Int} (hk : key.size ≤ maxLen) {b : List UInt8} (hf : found (verR R key) st = some b) :
    Calls Try.prog 23 #[.pointer (some ⟨s, 0, none⟩), .string key, .int .i64 st] w fun e w' => ∃ A c, e = .returned (.tuple #[.slice A b.length c, .bool true]) ∧ BytesAt w' A b ∧ Only NoneOf w w' := by
  refine (getR w s N T U R h key st hk).mono ?_
  rintro e w' ⟨hget, ho⟩
  rw [hf] at hget
  obtain ⟨vb, rfl, hvb⟩ := hget
  obtain ⟨A, c, rfl, hb⟩ := hvb.bytesV
  exact ⟨A, c, rfl, hb, ho⟩

theorem newest_some {w : World} {s N : Nat} {T U : Nat → Prop} {R : List KV} (h : StoR w s T U R N) {key : ByteArray} (hk : key.size ≤ maxLen) {y : Ver} (hl : (verR R key).getLast? = some y) :
    Calls Try.prog 26 #[.pointer (some ⟨s, 0, none⟩), .string key] w fun e w' => e = .returned (.tuple #[.int .i64 y.st, .bool true]) ∧ Only NoneOf w w' := by
  have := newestR w s N T U R h key hk
  unfold newestT at this
  rw [hl] at this
  exact this
theorem get_none {w : World} {s N : Nat} {T U : Nat → Prop} {R : List KV} (h : StoR w s T U R N) {key : ByteArray} {st : Int} (hk : key.size ≤ maxLen) (hf : found (verR R key) st = none) :
    Calls Try.prog 23 #[.pointer (some ⟨s, 0, none⟩), .string key, .int .i64 st] w fun e w' => e = .returned (.tuple #[.slice none 0 0, .bool false]) ∧ Only NoneOf w w' := by
  refine (getR w s N T U R h key st hk).mono ?_
  rintro e w' ⟨hget, ho⟩
  rw [hf] at hget
  exact ⟨hget, ho⟩

theorem info9t : (Try.prog.info? 9).map (fun i => (i.zero, i.size, i.bytes)) = some (some (.string ⟨#[]⟩), 1, 16) := by kernel_rfl
/-- three texts of its own -/
theorem three_cells {w : World} {base g c : Nat} {a b d : ByteArray} (h : w.ownsRow base 9 1 (.slice (some ⟨g, 0, none⟩) 3 c) 3 [.string a, .string b, .string d]) :
    base ≤ g ∧ g < w.heap.size ∧ (w.cell? ⟨g, 0, none⟩ = some (.string a) ∧ w.frozen? ⟨g, 0, none⟩ = false) ∧ (w.cell? ⟨g, 1, none⟩ = some (.string b) ∧ w.frozen? ⟨g, 1, none⟩ = false) ∧ (w.cell? ⟨g, 2, none⟩ = some (.string d) ∧ w.frozen? ⟨g, 2, none⟩ = false) := by
  have hlt := ownsRow_lt h (g := g) rfl
  rcases h.2 with ⟨h0, _⟩ | ⟨g', cap', cur', hv', _, hb', hle, _, hs, hcur'⟩
  · cases h0
  · injection hv' with hv1 hn _
    injection hv1 with hv1
    injection hv1 with hv1 _ _
    subst hv1
    have hB : Blk w g 9 cur' := hb'
    have hc : ∀ j, j < 3 → w.cell? ⟨g, j, none⟩ = ([.string a, .string b, .string d] : List Value)[j]? := fun j hj => by
      rw [hB.cell, ← hcur', List.getElem?_take_of_lt (by omega), Array.getElem?_toList]
    exact ⟨hlt.1, hlt.2, ⟨hc 0 (by omega), hB.free 0⟩, ⟨hc 1 (by omega), hB.free 1⟩, ⟨hc 2 (by omega), hB.free 2⟩⟩

theorem pflat_cell {w : World} {base g n c : Nat} {rs : List PRow} (h : w.ownsRow base 48 2 (.slice (some ⟨g, 0, none⟩) n c) rs.length (rs.flatMap PRow.cells)) {i : Nat} {r : PRow} (hr : rs[i]? = some r) {j : Nat} (hj : j < 2) : w.cell? ⟨g, i * 2 + j, none⟩ = r.cells[j]? := by
  rcases h.2 with ⟨h0, _⟩ | ⟨g', cap', cur', hv', _, hb', hle, _, hs, hcur'⟩
  · cases h0
  · injection hv' with hv1 hn _
    injection hv1 with hv1
    injection hv1 with hv1 _ _
    subst hv1
    have hil : i < rs.length := (List.getElem?_eq_some_iff.1 hr).1
    rw [Blk.cell (t := 48) (cs := cur') hb', ← flatMap_get PRow.cells 2 (fun _ => rfl) rs i j r hr hj]
    rw [← hcur', List.getElem?_take_of_lt (by omega), Array.getElem?_toList]
/-- pairs told: their own list, with bytes of their own -/
def PTold (B : Nat) (L : List (ByteArray × List UInt8)) (v : Value) (w : World) : Prop := ∃ rs : List PRow, rs.map PRow.plain = L ∧ w.ownsRow B 48 2 v rs.length (rs.flatMap PRow.cells) ∧ ∀ r ∈ rs, RowB w B r.val r.bs
theorem own_low {w : World} {B base sz n : Nat} {t : TypeId} {v : Value} {xs : List Value} (h : w.ownsRow base t sz v n xs) (hB : B ≤ base) : w.ownsRow B t sz v n xs :=
  ⟨h.1, h.2.imp id fun ⟨g, cap, cur, h1, h0, h2⟩ => ⟨g, cap, cur, h1, Nat.le_trans hB h0, h2⟩⟩
theorem PTold.of {w : World} {B base : Nat} {v : Value} {rs : List PRow} (h : PRows w base v rs) (hB : B ≤ base) : PTold B (rs.map PRow.plain) v w := ⟨rs, rfl, own_low h.own hB, fun r hr => own_low (h.vals r hr) hB⟩
theorem PTold.keep {B : Nat} {L : List (ByteArray × List UInt8)} {v : Value} {w w' : World} (h : PTold B L v w) (ho : Only NoneOf w w') : PTold B L v w' := by
  obtain ⟨rs, h1, h2, h3⟩ := h
  exact ⟨rs, h1, ownsRow_only h2 ho (fun _ _ h => h), fun r hr => ownsRow_only (h3 r hr) ho (fun _ _ h => h)⟩
theorem PTold.list {B : Nat} {L : List (ByteArray × List UInt8)} {v : Value} {w : World} (h : PTold B L v w) : ListAt 2 PairE w v L := by
  obtain ⟨rs, rfl, h2, h3⟩ := h
  obtain ⟨A, c, rfl⟩ := ownsRow_slice h2
  refine ⟨A, c, by simp, fun i x hx => ?_⟩
  rw [List.getElem?_map] at hx
  obtain ⟨r, hr, rfl⟩ := Option.map_eq_some_iff.1 hx
  obtain ⟨g, rfl⟩ : ∃ g, A = some ⟨g, 0, none⟩ := by
    rcases h2.2 with ⟨h0, h1⟩ | ⟨g, cap, cur, hv, _⟩
    · rw [List.eq_nil_of_length_eq_zero h1] at hr; cases hr
    · injection hv with hv1; exact ⟨g, hv1⟩
  obtain ⟨A', c', hv', hb⟩ := (h3 r (List.mem_of_getElem? hr)).bytesV
  refine ⟨g, 0, r.cells, rfl, (ownsRow_lt h2 (g := g) rfl).2, fun j c hj => ?_, rfl, A', c', by simp [PRow.cells, PRow.plain, hv'], hb⟩
  have hj2 : j < 2 := (List.getElem?_eq_some_iff.1 hj).1
  rw [Nat.zero_add, pflat_cell h2 hr hj2]
  exact hj
/-- rows of two types are two blocks -/
theorem own_types {w : World} {b1 b2 n1 n2 s1 s2 : Nat} {t1 t2 : TypeId} {v1 v2 : Value} {x1 x2 : List Value} (ht : t1 ≠ t2) (h1 : w.ownsRow b1 t1 s1 v1 n1 x1) (h2 : w.ownsRow b2 t2 s2 v2 n2 x2) (g : Nat) (e1 : v1.ownBlock = some g) : v2.ownBlock ≠ some g := by
  intro e2
  rcases h1.2 with ⟨rfl, _⟩ | ⟨g1, c1, k1, rfl, _, hb1, _⟩
  · cases e1
  · rcases h2.2 with ⟨rfl, _⟩ | ⟨g2, c2, k2, rfl, _, hb2, _⟩
    · cases e2
    · simp [Value.ownBlock] at e1 e2
      subst e1
      subst e2
      rw [hb1] at hb2
      injection hb2 with hb2
      injection hb2 with _ hb2 _
      exact ht hb2

set_option maxRecDepth 100000 in
theorem wpList_append_told {u : World} {ops : Array Oper} {rest : List Oper} {o : Oper} {a : Act} {Q : Exit → Act → World → Prop} (hgd : o.guard = none) (sl x : Operand) (ho : o.op = .call { callee := .builtin .append, args := #[sl, x], argTypes := #[30, 30] })
    {B : Nat} {L1 L2 : List (ByteArray × List UInt8)} {v1 v2 : Value} (hs : a.eval sl = v1) (hx : a.eval x = v2) (h1 : PTold B L1 v1 u) (h2 : PTold B L2 v2 u) (hB : B ≤ u.heap.size) (hfew : L1.length + L2.length ≤ 2513169434843)
    (h : ∀ v' w', PTold B (L1 ++ L2) v' w' → Only (fun k => B ≤ k) u w' → wpList Try.prog ops Q rest (a.put o.dst v') w') : wpList Try.prog ops Q (o :: rest) a u := by
  obtain ⟨i0, hi0, hz0, hz1, hz3⟩ := info_parts info48
  obtain ⟨rs1, rfl, o1, b1⟩ := h1
  obtain ⟨rs2, rfl, o2, b2⟩ := h2
  rw [List.length_map, List.length_map] at hfew
  obtain ⟨A2, c2, rfl⟩ := ownsRow_slice o2
  cases A2 with
  | none =>
    rcases o2.2 with ⟨h0, h1⟩ | ⟨g, cap, cur, hv, _⟩
    · have e2 := List.eq_nil_of_length_eq_zero h1
      subst e2
      rw [h0] at hx
      exact wpList_append_own_none hgd sl x 30 ho B 48 i0 2 Try.underlying30 hi0 v1 _ _ hs o1 hx (h v1 u (by rw [List.map_nil, List.append_nil]; exact ⟨rs1, rfl, o1, b1⟩) (Only.refl _ _))
    · cases hv
  | some ad =>
    obtain ⟨g, rfl⟩ : ∃ g, ad = ⟨g, 0, none⟩ := by
      rcases o2.2 with ⟨h0, _⟩ | ⟨g, cap, cur, hv, _⟩
      · cases h0
      · injection hv with hv1
        injection hv1 with hv1
        exact ⟨g, hv1⟩
    refine wpList_append_own u hgd sl x 30 ho B 48 i0 _ 2 40 Try.underlying30 hi0 hz0 hz1 hz3 rfl (by decide) v1 rs1.length (rs1.flatMap PRow.cells) hs o1 ⟨g, 0, none⟩ rs2.length c2 (rs2.flatMap PRow.cells) hx o2.1 ?_ ?_ (by unfold maxLen; omega) (by omega) hB ?_
    · intro j v hj
      rcases o2.2 with ⟨h0, _⟩ | ⟨g', cap', cur', hv', _, hb', hle, _, hs', hcur'⟩
      · cases h0
      · injection hv' with hv1 hn _
        injection hv1 with hv1
        injection hv1 with hv1 _ _
        rw [← hv1] at hb'
        have hjl : j < (rs2.flatMap PRow.cells).length := (List.getElem?_eq_some_iff.1 hj).1
        have hadd : (⟨g, 0, none⟩ : Addr).add j = ⟨g, j, none⟩ := by unfold Addr.add; split <;> simp_all
        rw [hadd, Blk.cell (t := 48) (cs := cur') hb', ← hj, ← hcur', List.getElem?_take_of_lt (by rw [o2.1] at hjl; exact hjl), Array.getElem?_toList]
    · intro v hv
      obtain ⟨r, hr, hv⟩ := List.mem_flatMap.1 hv
      obtain ⟨A', c', e', _⟩ := (b2 r hr).bytesV
      simp [PRow.cells, e'] at hv
      rcases hv with rfl | rfl <;> rfl
    · intro v' w' hown hgr _
      have ho := only_grown hgr
      refine h v' w' ⟨rs1 ++ rs2, by simp, by simpa [List.length_append, List.flatMap_append] using hown, fun r hr => ?_⟩ (ho.mono fun k _ e => (ownsRow_lt o1 e).1)
      rcases List.mem_append.1 hr with hr | hr
      · exact ownsRow_only (b1 r hr) ho (fun g hg e => own_types (by decide) o1 (b1 r hr) g e hg)
      · exact ownsRow_only (b2 r hr) ho (fun g hg e => own_types (by decide) o1 (b2 r hr) g e hg)

/-- the first loop: each pair is what Get finds, and they rise -/
def ScRel (W : World) (m : Nat) (v : Value) (wr : World) : Prop := ∃ i : Nat, v = .int .i64 i ∧ i ≤ m ∧ Only NoneOf W wr

/-- the values of the pairs' question; j1 : there is one ahead, j -/
def ScaT (key : ByteArray) (nb : Nat) (Ag : Option Addr) (cg : Nat) (vr : Value) (g m c b10 i j : Nat) (pk : ByteArray) (j1 : Bool) (k : Nat) (v : Value) (_ : World) : Prop := match k with
  | 0 => v = .bool true
  | 1 => v = .bool false
  | 2 => v = .bool false
  | 3 => v = .slice Ag nb cg
  | 4 => v = .pointer (some ⟨b10, 1, none⟩)
  | 5 => v = vr
  | 6 => v = .bool true
  | 7 => v = .bool false
  | 8 => v = .bool false
  | 9 => v = .bool false
  | 10 => v = .int .i64 i
  | 11 => v = .bool j1
  | 12 => v = .bool j1
  | 13 => v = cond j1 (.slice (some ⟨g, 0, none⟩) m c) undef
  | 14 => v = cond j1 (.int .i64 i) undef
  | 15 => v = cond j1 (.int .i64 j) undef
  | 16 => v = cond j1 (.pointer (some ⟨g, j * 2, none⟩)) undef
  | 17 => v = cond j1 (.pointer (some ⟨g, j * 2, none⟩)) undef
  | 18 => v = cond j1 (.string pk) undef
  | 19 => v = cond j1 (.pointer (some ⟨b10, 0, none⟩)) undef
  | 20 => v = cond j1 (.string key) undef
  | 21 => v = cond j1 (.bool false) undef
  | 22 => v = .bool false
  | 23 => v = .bool false
  | _ => True

/-- the values of the two Scans -/
def Q29 (B s g5 c5 : Nat) (x y z : ByteArray) (st : Int) (L1 L2 : List (ByteArray × List UInt8)) : Nat → Value → World → Prop
  | 0, v, _ => v = .pointer (some ⟨s, 0, none⟩)
  | 1, v, _ => v = .slice (some ⟨g5, 0, none⟩) 3 c5
  | 2, v, _ => v = .pointer (some ⟨g5, 0, none⟩)
  | 3, v, _ => v = .string x
  | 4, v, _ => v = .slice (some ⟨g5, 0, none⟩) 3 c5
  | 5, v, _ => v = .pointer (some ⟨g5, 1, none⟩)
  | 6, v, _ => v = .string y
  | 7, v, _ => v = .int .i64 st
  | 8, v, w => PTold B L1 v w
  | 9, v, _ => v = .pointer (some ⟨s, 0, none⟩)
  | 10, v, _ => v = .slice (some ⟨g5, 0, none⟩) 3 c5
  | 11, v, _ => v = .pointer (some ⟨g5, 1, none⟩)
  | 12, v, _ => v = .string y
  | 13, v, _ => v = .slice (some ⟨g5, 0, none⟩) 3 c5
  | 14, v, _ => v = .pointer (some ⟨g5, 2, none⟩)
  | 15, v, _ => v = .string z
  | 16, v, _ => v = .int .i64 st
  | 17, v, w => PTold B L2 v w
  | _, _, _ => True
theorem Q29_keep (B s g5 c5 : Nat) (x y z : ByteArray) (st : Int) (L1 L2 : List (ByteArray × List UInt8)) (i : Nat) (v : Value) (w w' : World) (h : Q29 B s g5 c5 x y z st L1 L2 i v w) (ho : Only NoneOf w w') : Q29 B s g5 c5 x y z st L1 L2 i v w' :=
  match i, h with
  | 0, h | 1, h | 2, h | 3, h | 4, h | 5, h | 6, h | 7, h | 9, h | 10, h | 11, h | 12, h | 13, h | 14, h | 15, h | 16, h => h
  | 8, h | 17, h => PTold.keep h ho
  | _ + 18, _ => trivial

def Q30 (B s g5 c5 : Nat) (x z : ByteArray) (st : Int) (v7 : Value) (L : List (ByteArray × List UInt8)) : Nat → Value → World → Prop
  | 0, v, _ => v = v7
  | 1, v, _ => v = .pointer (some ⟨s, 0, none⟩)
  | 2, v, _ => v = .slice (some ⟨g5, 0, none⟩) 3 c5
  | 3, v, _ => v = .pointer (some ⟨g5, 0, none⟩)
  | 4, v, _ => v = .string x
  | 5, v, _ => v = .slice (some ⟨g5, 0, none⟩) 3 c5
  | 6, v, _ => v = .pointer (some ⟨g5, 2, none⟩)
  | 7, v, _ => v = .string z
  | 8, v, _ => v = .int .i64 st
  | 9, v, w => PTold B L v w
  | _, _, _ => True
theorem Q30_keep (B s g5 c5 : Nat) (x z : ByteArray) (st : Int) (v7 : Value) (L : List (ByteArray × List UInt8)) (i : Nat) (v : Value) (w w' : World) (h : Q30 B s g5 c5 x z st v7 L i v w) (ho : Only NoneOf w w') : Q30 B s g5 c5 x z st v7 L i v w' :=
  match i, h with
  | 0, h | 1, h | 2, h | 3, h | 4, h | 5, h | 6, h | 7, h | 8, h => h
  | 9, h => PTold.keep h ho
  | _ + 10, _ => trivial

set_option maxRecDepth 100000 in
set_option maxHeartbeats 8000000 in
theorem scans_walk (A : Option Addr) (cap : Nat) (vs : List KV) (A2 : Option Addr) (cap2 n2 : Nat) (st : Int) (w : World)
    (hV : VersAt w A vs) (hfew : vs.length ≤ 2513169434843) (hcap : n2 ≤ cap2)
    (hB : 3 ≤ n2 → ∃ g off a b c, A2 = some ⟨g, off, none⟩ ∧ g < w.heap.size ∧ w.cell? ⟨g, off, none⟩ = some (.string a) ∧ w.cell? ⟨g, off + 1, none⟩ = some (.string b) ∧ w.cell? ⟨g, off + 2, none⟩ = some (.string c)) :
    Calls Try.prog 7 #[.slice A vs.length cap, .slice A2 n2 cap2, .int .i64 st] w (Ans (.bool true) w) := by
  have HV := Lib.hid hV
  obtain ⟨nv, hnv⟩ : ∃ nv, vs.length = nv := ⟨_, rfl⟩
  have HNV := Lib.hid hnv
  rw [hnv] at hfew ⊢
  have HB := Lib.hid hB
  have HCAP := Lib.hid hcap
  clear hV hnv hB hcap
  obtain ⟨i0, hi0, hz0, hz1, hz3⟩ := info_parts info9t
  have HFX := fun u => Lib.hid (fixed_is u)
  go_enter Try.func7, Try.ntmps7
  go_wp2_with fail
  refine (HFX _).out.mono ?_; rintro e w1 ⟨rfl, ho1⟩
  have HO1 := Lib.hid ho1
  have HF1 := filled_is w1 A cap vs NoneOf (HV.out.keep HO1.out) (by rw [HNV.out]; omega) (fun _ h => h.elim)
  rw [HNV.out] at HF1
  replace HF1 := Lib.hid HF1
  clear ho1
  go_wp2_with fail
  refine HF1.out.mono ?_; rintro e w2 ⟨s, T1, rfl, h1, ho2, ht1⟩
  obtain ⟨R, hR⟩ : ∃ R, fillR vs = R := ⟨_, rfl⟩
  rw [hR] at h1
  rw [HNV.out] at h1
  have H1 := Lib.hid h1
  have HO2 := Lib.hid (HO1.out.trans ho2)
  have HSC := Lib.hid (scannedR w2 s nv T1 NoneOf R h1 (by unfold NMAX; omega) ⟨#[]⟩ ⟨#[]⟩ st)
  clear h1 ho2 ht1 HF1 hR
  go_wp2_with fail
  refine HSC.out.mono ?_; rintro e w3 ⟨vp, rs, rfl, hr, hpl, ho3⟩
  have HR := Lib.hid hr
  have HPL := Lib.hid hpl
  obtain ⟨Ap, cp, rfl⟩ := ownsRow_slice hr.own
  have HO3 := Lib.hid (HO2.out.trans ho3)
  have H3 := Lib.hid (H1.out.keep ho3)
  obtain ⟨m, hm⟩ : ∃ m, rs.length = m := ⟨_, rfl⟩
  have HM := Lib.hid hm
  have hmv : m ≤ nv := by
    have e1 := congrArg List.length hpl
    rw [List.length_map, hm] at e1
    have e2 : (scanR R ⟨#[]⟩ ⟨#[]⟩ st).length ≤ (keysR R).length := List.length_filterMap_le _ _
    have e3 := keysR_length R
    have e4 := H1.out.len
    omega
  rw [hm]
  clear hr hpl ho3 HSC hm HO2 H1
  go_wp2_with fail
  go_loopw [9, 10, 11, 12, 31] (fun _ _ _ _ v wr => ScRel w3 m v wr) (fun _ _ _ _ v _ => m - (intOf v).toNat)
  case atStart => exact ⟨0, rfl, by omega, Only.refl _ _⟩
  case round =>
    obtain ⟨i, rfl, hi, hO⟩ := hrel
    have HO := Lib.hid hO
    clear hO
    by_cases hlt : i < m
    · have hx : rs[i]? = some (rs[i]'(by rw [HM.out]; exact hlt)) := List.getElem?_eq_getElem _
      generalize rs[i]'(by rw [HM.out]; exact hlt) = r at hx
      obtain ⟨key, vr, bs⟩ := r
      have hRw := HR.out.only HO.out (fun _ _ h => h)
      obtain ⟨g, rfl⟩ : ∃ g, Ap = some ⟨g, 0, none⟩ := by
        rcases HR.out.own.2 with ⟨h0, h1⟩ | ⟨g, cap, cur, hv, _⟩
        · have := HM.out; omega
        · injection hv with hv1
          exact ⟨g, hv1⟩
      have hrb := (hRw.vals _ (List.mem_of_getElem? hx)).bytesV
      simp only at hrb
      obtain ⟨Ar, cr, rfl, hbr⟩ := hrb
      have d0 : wr.cell? ⟨g, i * 2, none⟩ = some (.string key) := hRw.cell (fun _ => rfl) hx (j := 0) (by omega)
      have d1 : wr.cell? ⟨g, i * 2 + 1, none⟩ = some (.slice Ar bs.length cr) := hRw.cell (fun _ => rfl) hx (j := 1) (by omega)
      have hgl : g < wr.heap.size := (hRw.lt (k := g) (.inl rfl)).2
      have hmem : (key, bs) ∈ scanR R ⟨#[]⟩ ⟨#[]⟩ st := by
        rw [← HPL.out]
        exact List.mem_map.2 ⟨_, List.mem_of_getElem? hx, rfl⟩
      have hf := scan_get hmem
      obtain ⟨y, hy, hyb⟩ := found_mem hf
      simp only at hyb
      have hks : key.size ≤ maxLen := by
        have := (H3.out.good.key _ (verR_mem.1 hy)).2
        unfold maxLen
        simp only at this
        omega
      have hbl : bs.length ≤ 4096 := by rw [← hyb]; exact H3.out.good.bs _ (verR_mem.1 hy)
      have HGET := Lib.hid (get_some (H3.out.keep (HO.out.alloc (.cells #[.string key, .slice Ar bs.length cr] 48))) hks hf)
      have HROW := Lib.hid (Blk.new wr 48 #[.string key, .slice Ar bs.length cr])
      have HBR := Lib.hid (hbr.keep ((Only.refl NoneOf wr).alloc (.cells #[.string key, .slice Ar bs.length cr] 48)))
      have HOA := Lib.hid (HO.out.alloc (.cells #[.string key, .slice Ar bs.length cr] 48))
      have HRW := Lib.hid (hRw.only ((Only.refl NoneOf wr).alloc (.cells #[.string key, .slice Ar bs.length cr] 48)) (fun _ _ h => h))
      have HMEM := Lib.hid hx
      obtain ⟨nb, hnb⟩ : ∃ nb, bs.length = nb := ⟨_, rfl⟩
      have HNB := Lib.hid hnb
      rw [hnb] at HGET HROW HBR HOA HRW HMEM d1 hbl
      clear hf hy hyb hmem hbr hRw hx hnb
      go_wp2_with fail
      refine HGET.out.mono ?_; rintro e u1 ⟨Ag, cg, rfl, hb1, hou⟩
      have HB1 := Lib.hid hb1
      have HRW1 := Lib.hid (HRW.out.only hou (fun _ _ h => h))
      have HROW1 := Lib.hid (HROW.out.only hou (fun h => h))
      have HBR1 := Lib.hid (HBR.out.keep hou)
      have HO1u := Lib.hid (HOA.out.trans hou)
      have hgl1 : g < u1.heap.size := (HRW1.out.lt (k := g) (.inl rfl)).2
      clear hb1 hou HGET HRW HROW HBR HOA
      rcases Nat.eq_zero_or_pos i with h0 | h0
      · subst h0
        go_upto_region 9 with (fail)
        refine wp_region_head2 24 154 [2, 9, 12] (fun g => match g with | 2 => some false | 9 => some false | 12 => some false | _ => none) (fun _ => none) NoneOf (fun _ => Only NoneOf u1) (ScaT key nb Ag cg (.slice Ar nb cr) g m cp wr.heap.size 0 0 key false) rfl (by kernel_rfl) (by kernel_rfl) ?hskip ?hgv (fun _ _ _ _ h _ => h) ((Only.refl _ _).drew) ?hstep ?hend
        case hskip =>
          intro i o hi ho hw k
          have : i = 0 ∨ i = 1 ∨ i = 2 ∨ i = 3 ∨ i = 4 ∨ i = 5 ∨ i = 6 ∨ i = 7 ∨ i = 8 ∨ i = 9 ∨ i = 10 ∨ i = 11 ∨ i = 12 ∨ i = 13 ∨ i = 14 ∨ i = 15 ∨ i = 16 ∨ i = 17 ∨ i = 18 ∨ i = 19 ∨ i = 20 ∨ i = 21 ∨ i = 22 ∨ i = 23 := by omega
          rcases this with rfl | rfl | rfl | rfl | rfl | rfl | rfl | rfl | rfl | rfl | rfl | rfl | rfl | rfl | rfl | rfl | rfl | rfl | rfl | rfl | rfl | rfl | rfl | rfl
          · rfl
          · rfl
          · rfl
          · rfl
          · rfl
          · rfl
          · rfl
          · rfl
          · rfl
          · rfl
          · rfl
          · rfl
          · rfl
          · rfl
          · rfl
          · rfl
          · rfl
          · rfl
          · rfl
          · rfl
          · rfl
          · rfl
          · rfl
          · rfl
        case hgv =>
          intro g hg v w h
          have : g = 2 ∨ g = 9 ∨ g = 12 := by simpa using hg
          rcases this with rfl | rfl | rfl
          · obtain rfl : v = .bool false := h; rfl
          · obtain rfl : v = .bool false := h; rfl
          · obtain rfl : v = .bool false := h; rfl
        case hstep =>
          intro i o hi ho a u k hk hik hs ht
          have e8 : a.tmps.getD 8 undef = .slice (some ⟨g, 0, none⟩) m cp := hs 8 (of_decide_eq_true (by kernel_rfl))
          have e9 : a.tmps.getD 9 undef = .int .i64 (((0 : Nat) : Int)) := hs 9 (of_decide_eq_true (by kernel_rfl))
          have e10 : a.tmps.getD 10 undef = .pointer (some ⟨wr.heap.size, 0, none⟩) := hs 10 (of_decide_eq_true (by kernel_rfl))
          have e11 : a.tmps.getD 11 undef = .slice Ag nb cg := hs 11 (of_decide_eq_true (by kernel_rfl))
          have e12 : a.tmps.getD 12 undef = .bool true := hs 12 (of_decide_eq_true (by kernel_rfl))
          have F10 := HROW1.out.only hk (fun h => h)
          have e0 := F10.cellv 0 rfl
          have e1 := F10.cellv 1 rfl
          have : i = 0 ∨ i = 1 ∨ i = 2 ∨ i = 3 ∨ i = 4 ∨ i = 5 ∨ i = 6 ∨ i = 7 ∨ i = 8 ∨ i = 9 ∨ i = 10 ∨ i = 11 ∨ i = 12 ∨ i = 13 ∨ i = 14 ∨ i = 15 ∨ i = 16 ∨ i = 17 ∨ i = 18 ∨ i = 19 ∨ i = 20 ∨ i = 21 ∨ i = 22 ∨ i = 23 := by omega
          rcases this with rfl | rfl | rfl | rfl | rfl | rfl | rfl | rfl | rfl | rfl | rfl | rfl | rfl | rfl | rfl | rfl | rfl | rfl | rfl | rfl | rfl | rfl | rfl | rfl
          · obtain rfl := Option.some.inj (ho : some _ = some o)
            rw [if_pos (by decide)]
            exact left2_value (.bool true) (by simp [go_sem, e12]) rfl rfl hk
          · obtain rfl := Option.some.inj (ho : some _ = some o)
            rw [if_pos (by decide)]
            have s0 : a.tmps.getD 44 undef = .bool true := ht 0 (by omega) (by kernel_rfl)
            exact left2_value (.bool false) (by simp [go_sem, s0]) rfl rfl hk
          · obtain rfl := Option.some.inj (ho : some _ = some o)
            rw [if_pos (by decide)]
            have s1 : a.tmps.getD 45 undef = .bool false := ht 1 (by omega) (by kernel_rfl)
            exact left2_value (.bool false) (by simp [go_sem, s1]) rfl rfl hk
          · obtain rfl := Option.some.inj (ho : some _ = some o)
            rw [if_pos (by decide)]
            exact left2_value (.slice Ag nb cg) (by simp [go_sem, e11]) rfl rfl hk
          · obtain rfl := Option.some.inj (ho : some _ = some o)
            rw [if_pos (by decide)]
            exact left2_value (.pointer (some ⟨wr.heap.size, 1, none⟩)) (by simp [go_sem, e10]) rfl rfl hk
          · obtain rfl := Option.some.inj (ho : some _ = some o)
            rw [if_pos (by decide)]
            have s4 : a.tmps.getD 48 undef = .pointer (some ⟨wr.heap.size, 1, none⟩) := ht 4 (by omega) (by kernel_rfl)
            exact left2_value (.slice Ar nb cr) (by simp [go_sem, s4, e1]) rfl rfl hk
          · obtain rfl := Option.some.inj (ho : some _ = some o)
            rw [if_pos (by decide)]
            have s2 : a.tmps.getD 46 undef = .bool false := ht 2 (by omega) (by kernel_rfl)
            have s3 : a.tmps.getD 47 undef = .slice Ag nb cg := ht 3 (by omega) (by kernel_rfl)
            have s5 : a.tmps.getD 49 undef = .slice Ar nb cr := ht 5 (by omega) (by kernel_rfl)
            have s3c : a.tmps.getD 47 undef = .slice Ag nb cg := ht 3 (by omega) (by kernel_rfl)
            have s5c : a.tmps.getD 49 undef = .slice Ar nb cr := ht 5 (by omega) (by kernel_rfl)
            have heq := equal_is u Ag Ar nb nb cg cr bs bs HNB.out HNB.out (HB1.out.keep hk) (HBR1.out.keep hk) (by omega)
            rw [decide_eq_true rfl] at heq
            exact left2_calls 24 #[.slice Ag nb cg, .slice Ar nb cr] (by simp [go_sem, s3c, s5c]) (heq.mono (fun e w' ⟨he, ho⟩ => ⟨_, he, rfl, drewN_only ho⟩)) rfl (fun w' ho => hk.trans ho)
          · obtain rfl := Option.some.inj (ho : some _ = some o)
            rw [if_pos (by decide)]
            have s6 : a.tmps.getD 50 undef = .bool true := ht 6 (by omega) (by kernel_rfl)
            exact left2_value (.bool false) (by simp [go_sem, s6]) rfl rfl hk
          · obtain rfl := Option.some.inj (ho : some _ = some o)
            rw [if_pos (by decide)]
            have s2 : a.tmps.getD 46 undef = .bool false := ht 2 (by omega) (by kernel_rfl)
            have s7 : a.tmps.getD 51 undef = .bool false := ht 7 (by omega) (by kernel_rfl)
            exact left2_value (.bool false) (by simp [go_sem, s2, s7]) rfl rfl hk
          · obtain rfl := Option.some.inj (ho : some _ = some o)
            rw [if_pos (by decide)]
            have s6 : a.tmps.getD 50 undef = .bool true := ht 6 (by omega) (by kernel_rfl)
            have s8 : a.tmps.getD 52 undef = .bool false := ht 8 (by omega) (by kernel_rfl)
            exact left2_value (.bool false) (by simp [go_sem, s8]) rfl rfl hk
          · obtain rfl := Option.some.inj (ho : some _ = some o)
            rw [if_pos (by decide)]
            exact left2_value (.int .i64 (((0 : Nat) : Int))) (by simp [go_sem, e9]) rfl rfl hk
          · obtain rfl := Option.some.inj (ho : some _ = some o)
            rw [if_pos (by decide)]
            have s10 : a.tmps.getD 54 undef = .int .i64 (((0 : Nat) : Int)) := ht 10 (by omega) (by kernel_rfl)
            exact left2_value (.bool false) (by simp [go_sem, s10]) rfl rfl hk
          · obtain rfl := Option.some.inj (ho : some _ = some o)
            rw [if_pos (by decide)]
            have s9 : a.tmps.getD 53 undef = .bool false := ht 9 (by omega) (by kernel_rfl)
            have s11 : a.tmps.getD 55 undef = .bool false := ht 11 (by omega) (by kernel_rfl)
            exact left2_value (.bool false) (by simp [go_sem, s11]) rfl rfl hk
          · obtain rfl := Option.some.inj (ho : some _ = some o)
            rw [if_neg (by decide)]
            exact rfl
          · obtain rfl := Option.some.inj (ho : some _ = some o)
            rw [if_neg (by decide)]
            exact rfl
          · obtain rfl := Option.some.inj (ho : some _ = some o)
            rw [if_neg (by decide)]
            exact rfl
          · obtain rfl := Option.some.inj (ho : some _ = some o)
            rw [if_neg (by decide)]
            exact rfl
          · obtain rfl := Option.some.inj (ho : some _ = some o)
            rw [if_neg (by decide)]
            exact rfl
          · obtain rfl := Option.some.inj (ho : some _ = some o)
            rw [if_neg (by decide)]
            exact rfl
          · obtain rfl := Option.some.inj (ho : some _ = some o)
            rw [if_neg (by decide)]
            exact rfl
          · obtain rfl := Option.some.inj (ho : some _ = some o)
            rw [if_neg (by decide)]
            exact rfl
          · obtain rfl := Option.some.inj (ho : some _ = some o)
            rw [if_neg (by decide)]
            exact rfl
          · obtain rfl := Option.some.inj (ho : some _ = some o)
            rw [if_pos (by decide)]
            have s12 : a.tmps.getD 56 undef = .bool false := ht 12 (by omega) (by kernel_rfl)
            have s21 : a.tmps.getD 65 undef = undef := ht 21 (by omega) (by kernel_rfl)
            exact left2_value (.bool false) (by simp [go_sem, s12, s21]) rfl rfl hk
          · obtain rfl := Option.some.inj (ho : some _ = some o)
            rw [if_pos (by decide)]
            have s9 : a.tmps.getD 53 undef = .bool false := ht 9 (by omega) (by kernel_rfl)
            have s22 : a.tmps.getD 66 undef = .bool false := ht 22 (by omega) (by kernel_rfl)
            exact left2_value (.bool false) (by simp [go_sem, s9, s22]) rfl rfl hk
        case hend =>
          intro V' u k hk hkt hV'
          have v0 : V' 0 = .bool true := hV' 0 (by omega)
          have v1 : V' 1 = .bool false := hV' 1 (by omega)
          have v2 : V' 2 = .bool false := hV' 2 (by omega)
          have v3 : V' 3 = .slice Ag nb cg := hV' 3 (by omega)
          have v4 : V' 4 = .pointer (some ⟨wr.heap.size, 1, none⟩) := hV' 4 (by omega)
          have v5 : V' 5 = .slice Ar nb cr := hV' 5 (by omega)
          have v6 : V' 6 = .bool true := hV' 6 (by omega)
          have v7 : V' 7 = .bool false := hV' 7 (by omega)
          have v8 : V' 8 = .bool false := hV' 8 (by omega)
          have v9 : V' 9 = .bool false := hV' 9 (by omega)
          have v10 : V' 10 = .int .i64 (((0 : Nat) : Int)) := hV' 10 (by omega)
          have v11 : V' 11 = .bool false := hV' 11 (by omega)
          have v12 : V' 12 = .bool false := hV' 12 (by omega)
          have v13 : V' 13 = undef := hV' 13 (by omega)
          have v14 : V' 14 = undef := hV' 14 (by omega)
          have v15 : V' 15 = undef := hV' 15 (by omega)
          have v16 : V' 16 = undef := hV' 16 (by omega)
          have v17 : V' 17 = undef := hV' 17 (by omega)
          have v18 : V' 18 = undef := hV' 18 (by omega)
          have v19 : V' 19 = undef := hV' 19 (by omega)
          have v20 : V' 20 = undef := hV' 20 (by omega)
          have v21 : V' 21 = undef := hV' 21 (by omega)
          have v22 : V' 22 = .bool false := hV' 22 (by omega)
          have v23 : V' 23 = .bool false := hV' 23 (by omega)
          change wpList _ _ _ _ (Act.put (Act.put (Act.put (Act.put (Act.put (Act.put (Act.put (Act.put (Act.put (Act.put (Act.put (Act.put (Act.put (Act.put (Act.put (Act.put (Act.put (Act.put (Act.put (Act.put (Act.put (Act.put (Act.put (Act.put _ (some 44) (V' 0)) (some 45) (V' 1)) (some 46) (V' 2)) (some 47) (V' 3)) (some 48) (V' 4)) (some 49) (V' 5)) (some 50) (V' 6)) (some 51) (V' 7)) (some 52) (V' 8)) (some 53) (V' 9)) (some 54) (V' 10)) (some 55) (V' 11)) (some 56) (V' 12)) (some 57) (V' 13)) (some 58) (V' 14)) (some 59) (V' 15)) (some 60) (V' 16)) (some 61) (V' 17)) (some 62) (V' 18)) (some 63) (V' 19)) (some 64) (V' 20)) (some 65) (V' 21)) (some 66) (V' 22)) (some 67) (V' 23)) _
          rw [v0, v1, v2, v3, v4, v5, v6, v7, v8, v9, v10, v11, v12, v13, v14, v15, v16, v17, v18, v19, v20, v21, v22, v23]
          simp only [Act.put, List.setIfInBounds_toArray, List.set_cons_zero, List.set_cons_succ]
          simp only [List.drop_succ_cons, List.drop_zero]
          clear hV' v0 v1 v2 v3 v4 v5 v6 v7 v8 v9 v10 v11 v12 v13 v14 v15 v16 v17 v18 v19 v20 v21 v22 v23
          have HK := Lib.hid hk
          clear hk hkt
          go_wp2_with fail
          exact ⟨⟨1, rfl, by omega, HO1u.out.trans HK.out⟩, by simp [intOf]; omega⟩
      · obtain ⟨j, rfl⟩ : ∃ j, i = j + 1 := ⟨i - 1, by omega⟩
        have hxj : rs[j]? = some (rs[j]'(by rw [HM.out]; omega)) := List.getElem?_eq_getElem _
        generalize rs[j]'(by rw [HM.out]; omega) = q at hxj
        obtain ⟨pk, pv, pb⟩ := q
        have p0 : u1.cell? ⟨g, j * 2, none⟩ = some (.string pk) := HRW1.out.cell (fun _ => rfl) hxj (j := 0) (by omega)
        have hpl : Op.bytesLess pk.toList key.toList = true := by
          have h1 := scan_rise R ⟨#[]⟩ ⟨#[]⟩ st
          rw [← HPL.out] at h1
          have h2 := List.pairwise_iff_getElem.1 h1 j (j + 1) (by simp [HM.out]; omega) (by simp [HM.out]; omega) (by omega)
          rw [List.getElem_map, List.getElem_map] at h2
          have e1 := (List.getElem?_eq_some_iff.1 hxj).2
          have e2 := (List.getElem?_eq_some_iff.1 HMEM.out).2
          rw [e1, e2] at h2
          rw [Go.Proofs.bytesLess_eq, ByteArray.toList_eq, ByteArray.toList_eq]
          simpa [PRow.plain] using h2
        have hj : j < m := by omega
        go_upto_region 9 with (fail)
        refine wp_region_head2 24 154 [2, 9, 12] (fun g => match g with | 2 => some false | 9 => some false | 12 => some true | _ => none) (fun _ => none) NoneOf (fun _ => Only NoneOf u1) (ScaT key nb Ag cg (.slice Ar nb cr) g m cp wr.heap.size (j + 1) j pk true) rfl (by kernel_rfl) (by kernel_rfl) ?hskip ?hgv (fun _ _ _ _ h _ => h) ((Only.refl _ _).drew) ?hstep ?hend
        case hskip =>
          intro i o hi ho hw k
          have : i = 0 ∨ i = 1 ∨ i = 2 ∨ i = 3 ∨ i = 4 ∨ i = 5 ∨ i = 6 ∨ i = 7 ∨ i = 8 ∨ i = 9 ∨ i = 10 ∨ i = 11 ∨ i = 12 ∨ i = 13 ∨ i = 14 ∨ i = 15 ∨ i = 16 ∨ i = 17 ∨ i = 18 ∨ i = 19 ∨ i = 20 ∨ i = 21 ∨ i = 22 ∨ i = 23 := by omega
          rcases this with rfl | rfl | rfl | rfl | rfl | rfl | rfl | rfl | rfl | rfl | rfl | rfl | rfl | rfl | rfl | rfl | rfl | rfl | rfl | rfl | rfl | rfl | rfl | rfl
          · rfl
          · rfl
          · rfl
          · rfl
          · rfl
          · rfl
          · rfl
          · rfl
          · rfl
          · rfl
          · rfl
          · rfl
          · rfl
          · rfl
          · rfl
          · rfl
          · rfl
          · rfl
          · rfl
          · rfl
          · rfl
          · rfl
          · rfl
          · rfl
        case hgv =>
          intro g hg v w h
          have : g = 2 ∨ g = 9 ∨ g = 12 := by simpa using hg
          rcases this with rfl | rfl | rfl
          · obtain rfl : v = .bool false := h; rfl
          · obtain rfl : v = .bool false := h; rfl
          · obtain rfl : v = .bool true := h; rfl
        case hstep =>
          intro i o hi ho a u k hk hik hs ht
          have e8 : a.tmps.getD 8 undef = .slice (some ⟨g, 0, none⟩) m cp := hs 8 (of_decide_eq_true (by kernel_rfl))
          have e9 : a.tmps.getD 9 undef = .int .i64 ((j + 1 : Nat) : Int) := hs 9 (of_decide_eq_true (by kernel_rfl))
          have e10 : a.tmps.getD 10 undef = .pointer (some ⟨wr.heap.size, 0, none⟩) := hs 10 (of_decide_eq_true (by kernel_rfl))
          have e11 : a.tmps.getD 11 undef = .slice Ag nb cg := hs 11 (of_decide_eq_true (by kernel_rfl))
          have e12 : a.tmps.getD 12 undef = .bool true := hs 12 (of_decide_eq_true (by kernel_rfl))
          have F10 := HROW1.out.only hk (fun h => h)
          have e0 := F10.cellv 0 rfl
          have e1 := F10.cellv 1 rfl
          have qw : IntKind.i64.wrap (j : Int) = (j : Int) := by rw [IntKind.wrap_i64]; omega
          have p0w := (hk.cell (p := ⟨g, j * 2, none⟩) hgl1 (fun h => h)).trans p0
          have : i = 0 ∨ i = 1 ∨ i = 2 ∨ i = 3 ∨ i = 4 ∨ i = 5 ∨ i = 6 ∨ i = 7 ∨ i = 8 ∨ i = 9 ∨ i = 10 ∨ i = 11 ∨ i = 12 ∨ i = 13 ∨ i = 14 ∨ i = 15 ∨ i = 16 ∨ i = 17 ∨ i = 18 ∨ i = 19 ∨ i = 20 ∨ i = 21 ∨ i = 22 ∨ i = 23 := by omega
          rcases this with rfl | rfl | rfl | rfl | rfl | rfl | rfl | rfl | rfl | rfl | rfl | rfl | rfl | rfl | rfl | rfl | rfl | rfl | rfl | rfl | rfl | rfl | rfl | rfl
          · obtain rfl := Option.some.inj (ho : some _ = some o)
            rw [if_pos (by decide)]
            exact left2_value (.bool true) (by simp [go_sem, e12]) rfl rfl hk
          · obtain rfl := Option.some.inj (ho : some _ = some o)
            rw [if_pos (by decide)]
            have s0 : a.tmps.getD 44 undef = .bool true := ht 0 (by omega) (by kernel_rfl)
            exact left2_value (.bool false) (by simp [go_sem, s0]) rfl rfl hk
          · obtain rfl := Option.some.inj (ho : some _ = some o)
            rw [if_pos (by decide)]
            have s1 : a.tmps.getD 45 undef = .bool false := ht 1 (by omega) (by kernel_rfl)
            exact left2_value (.bool false) (by simp [go_sem, s1]) rfl rfl hk
          · obtain rfl := Option.some.inj (ho : some _ = some o)
            rw [if_pos (by decide)]
            exact left2_value (.slice Ag nb cg) (by simp [go_sem, e11]) rfl rfl hk
          · obtain rfl := Option.some.inj (ho : some _ = some o)
            rw [if_pos (by decide)]
            exact left2_value (.pointer (some ⟨wr.heap.size, 1, none⟩)) (by simp [go_sem, e10]) rfl rfl hk
          · obtain rfl := Option.some.inj (ho : some _ = some o)
            rw [if_pos (by decide)]
            have s4 : a.tmps.getD 48 undef = .pointer (some ⟨wr.heap.size, 1, none⟩) := ht 4 (by omega) (by kernel_rfl)
            exact left2_value (.slice Ar nb cr) (by simp [go_sem, s4, e1]) rfl rfl hk
          · obtain rfl := Option.some.inj (ho : some _ = some o)
            rw [if_pos (by decide)]
            have s2 : a.tmps.getD 46 undef = .bool false := ht 2 (by omega) (by kernel_rfl)
            have s3 : a.tmps.getD 47 undef = .slice Ag nb cg := ht 3 (by omega) (by kernel_rfl)
            have s5 : a.tmps.getD 49 undef = .slice Ar nb cr := ht 5 (by omega) (by kernel_rfl)
            have s3c : a.tmps.getD 47 undef = .slice Ag nb cg := ht 3 (by omega) (by kernel_rfl)
            have s5c : a.tmps.getD 49 undef = .slice Ar nb cr := ht 5 (by omega) (by kernel_rfl)
            have heq := equal_is u Ag Ar nb nb cg cr bs bs HNB.out HNB.out (HB1.out.keep hk) (HBR1.out.keep hk) (by omega)
            rw [decide_eq_true rfl] at heq
            exact left2_calls 24 #[.slice Ag nb cg, .slice Ar nb cr] (by simp [go_sem, s3c, s5c]) (heq.mono (fun e w' ⟨he, ho⟩ => ⟨_, he, rfl, drewN_only ho⟩)) rfl (fun w' ho => hk.trans ho)
          · obtain rfl := Option.some.inj (ho : some _ = some o)
            rw [if_pos (by decide)]
            have s6 : a.tmps.getD 50 undef = .bool true := ht 6 (by omega) (by kernel_rfl)
            exact left2_value (.bool false) (by simp [go_sem, s6]) rfl rfl hk
          · obtain rfl := Option.some.inj (ho : some _ = some o)
            rw [if_pos (by decide)]
            have s2 : a.tmps.getD 46 undef = .bool false := ht 2 (by omega) (by kernel_rfl)
            have s7 : a.tmps.getD 51 undef = .bool false := ht 7 (by omega) (by kernel_rfl)
            exact left2_value (.bool false) (by simp [go_sem, s2, s7]) rfl rfl hk
          · obtain rfl := Option.some.inj (ho : some _ = some o)
            rw [if_pos (by decide)]
            have s6 : a.tmps.getD 50 undef = .bool true := ht 6 (by omega) (by kernel_rfl)
            have s8 : a.tmps.getD 52 undef = .bool false := ht 8 (by omega) (by kernel_rfl)
            exact left2_value (.bool false) (by simp [go_sem, s8]) rfl rfl hk
          · obtain rfl := Option.some.inj (ho : some _ = some o)
            rw [if_pos (by decide)]
            exact left2_value (.int .i64 ((j + 1 : Nat) : Int)) (by simp [go_sem, e9]) rfl rfl hk
          · obtain rfl := Option.some.inj (ho : some _ = some o)
            rw [if_pos (by decide)]
            have s10 : a.tmps.getD 54 undef = .int .i64 ((j + 1 : Nat) : Int) := ht 10 (by omega) (by kernel_rfl)
            exact left2_value (.bool true) (by simp [go_sem, s10]) rfl rfl hk
          · obtain rfl := Option.some.inj (ho : some _ = some o)
            rw [if_pos (by decide)]
            have s9 : a.tmps.getD 53 undef = .bool false := ht 9 (by omega) (by kernel_rfl)
            have s11 : a.tmps.getD 55 undef = .bool true := ht 11 (by omega) (by kernel_rfl)
            exact left2_value (.bool true) (by simp [go_sem, s11]) rfl rfl hk
          · obtain rfl := Option.some.inj (ho : some _ = some o)
            rw [if_pos (by decide)]
            exact left2_value (.slice (some ⟨g, 0, none⟩) m cp) (by simp [go_sem, e8]) rfl rfl hk
          · obtain rfl := Option.some.inj (ho : some _ = some o)
            rw [if_pos (by decide)]
            exact left2_value (.int .i64 ((j + 1 : Nat) : Int)) (by simp [go_sem, e9]) rfl rfl hk
          · obtain rfl := Option.some.inj (ho : some _ = some o)
            rw [if_pos (by decide)]
            have s14 : a.tmps.getD 58 undef = .int .i64 ((j + 1 : Nat) : Int) := ht 14 (by omega) (by kernel_rfl)
            exact left2_value (.int .i64 (j : Int)) (by simp [go_sem, s14, qw]) rfl rfl hk
          · obtain rfl := Option.some.inj (ho : some _ = some o)
            rw [if_pos (by decide)]
            have s13 : a.tmps.getD 57 undef = .slice (some ⟨g, 0, none⟩) m cp := ht 13 (by omega) (by kernel_rfl)
            have s15 : a.tmps.getD 59 undef = .int .i64 (j : Int) := ht 15 (by omega) (by kernel_rfl)
            exact left2_value (.pointer (some ⟨g, j * 2, none⟩)) (by simp [go_sem, s13, s15, hj]) rfl rfl hk
          · obtain rfl := Option.some.inj (ho : some _ = some o)
            rw [if_pos (by decide)]
            have s16 : a.tmps.getD 60 undef = .pointer (some ⟨g, j * 2, none⟩) := ht 16 (by omega) (by kernel_rfl)
            exact left2_value (.pointer (some ⟨g, j * 2, none⟩)) (by simp [go_sem, s16]) rfl rfl hk
          · obtain rfl := Option.some.inj (ho : some _ = some o)
            rw [if_pos (by decide)]
            have s17 : a.tmps.getD 61 undef = .pointer (some ⟨g, j * 2, none⟩) := ht 17 (by omega) (by kernel_rfl)
            exact left2_value (.string pk) (by simp [go_sem, s17, p0w]) rfl rfl hk
          · obtain rfl := Option.some.inj (ho : some _ = some o)
            rw [if_pos (by decide)]
            exact left2_value (.pointer (some ⟨wr.heap.size, 0, none⟩)) (by simp [go_sem, e10]) rfl rfl hk
          · obtain rfl := Option.some.inj (ho : some _ = some o)
            rw [if_pos (by decide)]
            have s19 : a.tmps.getD 63 undef = .pointer (some ⟨wr.heap.size, 0, none⟩) := ht 19 (by omega) (by kernel_rfl)
            exact left2_value (.string key) (by simp [go_sem, s19, e0]) rfl rfl hk
          · obtain rfl := Option.some.inj (ho : some _ = some o)
            rw [if_pos (by decide)]
            have s18 : a.tmps.getD 62 undef = .string pk := ht 18 (by omega) (by kernel_rfl)
            have s20 : a.tmps.getD 64 undef = .string key := ht 20 (by omega) (by kernel_rfl)
            exact left2_value (.bool false) (by simp [go_sem, s18, s20, hpl]) rfl rfl hk
          · obtain rfl := Option.some.inj (ho : some _ = some o)
            rw [if_pos (by decide)]
            have s12 : a.tmps.getD 56 undef = .bool true := ht 12 (by omega) (by kernel_rfl)
            have s21 : a.tmps.getD 65 undef = .bool false := ht 21 (by omega) (by kernel_rfl)
            exact left2_value (.bool false) (by simp [go_sem, s12, s21]) rfl rfl hk
          · obtain rfl := Option.some.inj (ho : some _ = some o)
            rw [if_pos (by decide)]
            have s9 : a.tmps.getD 53 undef = .bool false := ht 9 (by omega) (by kernel_rfl)
            have s22 : a.tmps.getD 66 undef = .bool false := ht 22 (by omega) (by kernel_rfl)
            exact left2_value (.bool false) (by simp [go_sem, s9, s22]) rfl rfl hk
        case hend =>
          intro V' u k hk hkt hV'
          have v0 : V' 0 = .bool true := hV' 0 (by omega)
          have v1 : V' 1 = .bool false := hV' 1 (by omega)
          have v2 : V' 2 = .bool false := hV' 2 (by omega)
          have v3 : V' 3 = .slice Ag nb cg := hV' 3 (by omega)
          have v4 : V' 4 = .pointer (some ⟨wr.heap.size, 1, none⟩) := hV' 4 (by omega)
          have v5 : V' 5 = .slice Ar nb cr := hV' 5 (by omega)
          have v6 : V' 6 = .bool true := hV' 6 (by omega)
          have v7 : V' 7 = .bool false := hV' 7 (by omega)
          have v8 : V' 8 = .bool false := hV' 8 (by omega)
          have v9 : V' 9 = .bool false := hV' 9 (by omega)
          have v10 : V' 10 = .int .i64 ((j + 1 : Nat) : Int) := hV' 10 (by omega)
          have v11 : V' 11 = .bool true := hV' 11 (by omega)
          have v12 : V' 12 = .bool true := hV' 12 (by omega)
          have v13 : V' 13 = .slice (some ⟨g, 0, none⟩) m cp := hV' 13 (by omega)
          have v14 : V' 14 = .int .i64 ((j + 1 : Nat) : Int) := hV' 14 (by omega)
          have v15 : V' 15 = .int .i64 (j : Int) := hV' 15 (by omega)
          have v16 : V' 16 = .pointer (some ⟨g, j * 2, none⟩) := hV' 16 (by omega)
          have v17 : V' 17 = .pointer (some ⟨g, j * 2, none⟩) := hV' 17 (by omega)
          have v18 : V' 18 = .string pk := hV' 18 (by omega)
          have v19 : V' 19 = .pointer (some ⟨wr.heap.size, 0, none⟩) := hV' 19 (by omega)
          have v20 : V' 20 = .string key := hV' 20 (by omega)
          have v21 : V' 21 = .bool false := hV' 21 (by omega)
          have v22 : V' 22 = .bool false := hV' 22 (by omega)
          have v23 : V' 23 = .bool false := hV' 23 (by omega)
          change wpList _ _ _ _ (Act.put (Act.put (Act.put (Act.put (Act.put (Act.put (Act.put (Act.put (Act.put (Act.put (Act.put (Act.put (Act.put (Act.put (Act.put (Act.put (Act.put (Act.put (Act.put (Act.put (Act.put (Act.put (Act.put (Act.put _ (some 44) (V' 0)) (some 45) (V' 1)) (some 46) (V' 2)) (some 47) (V' 3)) (some 48) (V' 4)) (some 49) (V' 5)) (some 50) (V' 6)) (some 51) (V' 7)) (some 52) (V' 8)) (some 53) (V' 9)) (some 54) (V' 10)) (some 55) (V' 11)) (some 56) (V' 12)) (some 57) (V' 13)) (some 58) (V' 14)) (some 59) (V' 15)) (some 60) (V' 16)) (some 61) (V' 17)) (some 62) (V' 18)) (some 63) (V' 19)) (some 64) (V' 20)) (some 65) (V' 21)) (some 66) (V' 22)) (some 67) (V' 23)) _
          rw [v0, v1, v2, v3, v4, v5, v6, v7, v8, v9, v10, v11, v12, v13, v14, v15, v16, v17, v18, v19, v20, v21, v22, v23]
          simp only [Act.put, List.setIfInBounds_toArray, List.set_cons_zero, List.set_cons_succ]
          simp only [List.drop_succ_cons, List.drop_zero]
          clear hV' v0 v1 v2 v3 v4 v5 v6 v7 v8 v9 v10 v11 v12 v13 v14 v15 v16 v17 v18 v19 v20 v21 v22 v23
          have HK := Lib.hid hk
          clear hk hkt
          go_wp2_with fail
          exact ⟨⟨j + 1 + 1, rfl, by omega, HO1u.out.trans HK.out⟩, by simp [intOf]; omega⟩
    · obtain rfl : i = m := by omega
      have HOE := Lib.hid (HO3.out.trans HO.out)
      have HE := Lib.hid (H3.out.keep HO.out)
      have HVS := Lib.hid (versionsR wr s nv T1 NoneOf R HE.out (by unfold NMAX; omega))
      go_wp2_with fail
      refine HVS.out.mono ?_; rintro e w4 ⟨v2, rs2, rfl, hr2, hpl2, ho4⟩
      obtain ⟨A4, c4, rfl⟩ := ownsRow_slice hr2.own
      have HR2 := Lib.hid hr2
      have HP2 := Lib.hid hpl2
      have HO4 := Lib.hid (HOE.out.trans ho4)
      have H4 := Lib.hid (HE.out.keep ho4)
      obtain ⟨m2, hm2⟩ : ∃ m2, rs2.length = m2 := ⟨_, rfl⟩
      have HM2 := Lib.hid hm2
      have hm2v : m2 ≤ nv := by
        have e1 := congrArg List.length hpl2
        rw [List.length_map, hm2, versR_length] at e1
        have := HE.out.len
        omega
      rw [hm2]
      clear hr2 hpl2 ho4 HVS hm2 hlt HOE HE
      go_wp2_with fail
      go_loopw [13, 72] (fun vn vi wr => ∃ k cnt : Nat, vi = .int .i64 k ∧ vn = .int .i64 cnt ∧ k ≤ m2 ∧ Only NoneOf w4 wr ∧ cnt = ((versR R).take k).countP (cntP R st)) (fun _ vi _ => m2 - (intOf vi).toNat)
      case atStart => exact ⟨0, 0, rfl, rfl, by omega, Only.refl _ _, by simp⟩
      case round =>
        obtain ⟨k, cnt, rfl, rfl, hk, hO, hcnt⟩ := hrel
        have HO := Lib.hid hO
        have hcl : cnt ≤ k := by
          rw [hcnt]
          refine Nat.le_trans List.countP_le_length ?_
          rw [List.length_take]
          omega
        have HCN := Lib.hid hcnt
        clear hO hcnt
        by_cases hlt : k < m2
        · have hr : rs2[k]? = some (rs2[k]'(by rw [HM2.out]; exact hlt)) := List.getElem?_eq_getElem _
          generalize rs2[k]'(by rw [HM2.out]; exact hlt) = r at hr
          have hrB := HR2.out.val _ (List.mem_of_getElem? hr)
          obtain ⟨rk, rst, rv, rb, rd⟩ := r
          simp only at hrB
          obtain ⟨Ar, cr, rfl⟩ := ownsRow_slice hrB
          obtain ⟨g, rfl⟩ : ∃ g, A4 = some ⟨g, 0, none⟩ := by
            rcases HR2.out.own.2 with ⟨h0, h1⟩ | ⟨g, cap, cur, hv, _⟩
            · have := HM2.out; omega
            · injection hv with hv1
              exact ⟨g, hv1⟩
          have hRw := HR2.out.only HO.out (fun _ _ h => h)
          have d0 : wr.cell? ⟨g, k * 4, none⟩ = some (.string rk) := hRw.cell hr (j := 0) (by omega)
          have d1 : wr.cell? ⟨g, k * 4 + 1, none⟩ = some (.int .i64 rst) := hRw.cell hr (j := 1) (by omega)
          have d2 : wr.cell? ⟨g, k * 4 + 2, none⟩ = some (.slice Ar rb.length cr) := hRw.cell hr (j := 2) (by omega)
          have d3 : wr.cell? ⟨g, k * 4 + 3, none⟩ = some (.bool rd) := hRw.cell hr (j := 3) (by omega)
          have hx2 : (versR R)[k]? = some (rk, ⟨rst, rb, rd⟩) := by rw [← HP2.out, List.getElem?_map, hr]; rfl
          have hmR := versR_mem (List.mem_of_getElem? hx2)
          have hks : rk.size ≤ maxLen := by
            have := (H4.out.good.key _ hmR).2
            unfold maxLen
            simp only at this
            omega
          obtain ⟨y, hy⟩ : ∃ y, (verR R rk).getLast? = some y := by
            cases hl : (verR R rk).getLast? with
            | none =>
              rw [List.getLast?_eq_none_iff] at hl
              exact absurd hl (verR_ne.2 ⟨_, hmR⟩)
            | some y => exact ⟨y, rfl⟩
          have HY := Lib.hid hy
          have hnext : ((versR R).take (k + 1)).countP (cntP R st) = cnt + if cntP R st (rk, ⟨rst, rb, rd⟩) = true then 1 else 0 := by
            rw [List.take_add_one, hx2, List.countP_append, ← HCN.out]
            simp [List.countP_cons]
          have HNX := Lib.hid hnext
          have HROW := Lib.hid (Blk.new wr 27 #[.string rk, .int .i64 rst, .slice Ar rb.length cr, .bool rd])
          have HAL := Lib.hid ((Only.refl NoneOf wr).alloc (.cells #[.string rk, .int .i64 rst, .slice Ar rb.length cr, .bool rd] 27))
          have HSA := Lib.hid ((H4.out.keep HO.out).keep HAL.out)
          clear hRw hrB hr hx2 hmR hy hnext
          cases hf : found (verR R rk) st with
          | none =>
            have HCF := Lib.hid (show cntP R st (rk, ⟨rst, rb, rd⟩) = false by simp [cntP, hf])
            have HGET := Lib.hid (get_none HSA.out hks hf)
            clear hf
            go_wp2_with fail
            refine HGET.out.mono ?_; rintro e u1 ⟨rfl, hou⟩
            have HNW := Lib.hid (newest_some (HSA.out.keep hou) hks HY.out)
            have HO5 := Lib.hid ((HO.out.trans HAL.out).trans hou)
            have hb := HROW.out.only hou (fun h => h)
            have c0 := hb.cellv 0 rfl
            clear hou hb
            go_wp2_with fail
            refine HNW.out.mono ?_; rintro e u2 ⟨rfl, hou⟩
            have HO6 := Lib.hid (HO5.out.trans hou)
            clear hou
            go_wp2_with fail
            exact ⟨⟨k + 1, cnt, rfl, rfl, by omega, HO6.out, by rw [HNX.out, HCF.out]; rfl⟩, by simp [intOf]; omega⟩
          | some b =>
            have HCF := Lib.hid (show cntP R st (rk, ⟨rst, rb, rd⟩) = (y.st == rst) by simp [cntP, hf, HY.out])
            have HGET := Lib.hid (get_some HSA.out hks hf)
            clear hf
            go_wp2_with fail
            refine HGET.out.mono ?_; rintro e u1 ⟨Ab, cb, rfl, _, hou⟩
            have HNW := Lib.hid (newest_some (HSA.out.keep hou) hks HY.out)
            have HO5 := Lib.hid ((HO.out.trans HAL.out).trans hou)
            have HROW1 := Lib.hid (HROW.out.only hou (fun h => h))
            have c0 := HROW1.out.cellv 0 rfl
            clear hou
            go_wp2_with fail
            refine HNW.out.mono ?_; rintro e u2 ⟨rfl, hou⟩
            have HO6 := Lib.hid (HO5.out.trans hou)
            have c1 := (HROW1.out.only hou (fun h => h)).cellv 1 rfl
            clear hou c0
            cases qs : (y.st == rst)
            · go_wp2_with fail
              exact ⟨⟨k + 1, cnt, rfl, rfl, by omega, HO6.out, by rw [HNX.out, HCF.out, qs]; rfl⟩, by simp [intOf]; omega⟩
            · go_wp2_with fail
              exact ⟨⟨k + 1, cnt + 1, rfl, rfl, by omega, HO6.out, by rw [HNX.out, HCF.out, qs]; rfl⟩, by simp [intOf]; omega⟩
        · obtain rfl : k = m2 := by omega
          have hci : cnt = i := by
            rw [HCN.out, List.take_of_length_le (by rw [← HP2.out, List.length_map, HM2.out]; omega), scan_count H4.out.good st, ← HPL.out, List.length_map, HM.out]
          subst hci
          have HOE := Lib.hid (HO4.out.trans HO.out)
          have HE := Lib.hid (H4.out.keep HO.out)
          clear hlt hcl HCN
          by_cases h3 : n2 < 3
          · have q3 : decide ((n2 : Int) < 3) = true := decide_eq_true (by omega)
            go_wp2_with fail
            go_ret
            exact ⟨rfl, HOE.out⟩
          · have q3 : decide ((n2 : Int) < 3) = false := decide_eq_false (by omega)
            obtain ⟨g, off, ba, bb, bc, rfl, hgl, hb0, hb1, hb2⟩ := HB.out (by omega)
            have hcp := HCAP.out
            have hown : (wr.alloc (.cells #[] 9)).ownsRow wr.heap.size 9 1 (.slice (some ⟨wr.heap.size, 0, none⟩) 0 0) 0 [] :=
              ⟨rfl, .inr ⟨wr.heap.size, 0, #[], rfl, Nat.le_refl _, Blk.new wr 9 #[], Nat.le_refl _, Nat.zero_le _, rfl, rfl⟩⟩
            have HOWN := Lib.hid hown
            have HAL := Lib.hid ((Only.refl NoneOf wr).alloc (.cells #[] 9))
            have HWA := Lib.hid (HOE.out.trans HAL.out)
            clear hown
            go_wp2_with (at_builtin; refine wpList_append_own _ rfl (.tmp 108) (.tmp 110) 45 rfl wr.heap.size 9 i0 _ 1 16 Try.underlying45 hi0 hz0 hz1 hz3 rfl (by decide) (.slice (some ⟨wr.heap.size, 0, none⟩) 0 0) 0 [] rfl HOWN.out ⟨g, off, none⟩ 3 cap2 [.string ba, .string bb, .string bc] rfl rfl ?c1 ?c2 ?c3 ?c4 ?c5 ?_)
            case c1 =>
              intro j u hj
              have : j = 0 ∨ j = 1 ∨ j = 2 := by
                have := (List.getElem?_eq_some_iff.1 hj).1
                simp at this
                omega
              rcases this with rfl | rfl | rfl
              · obtain rfl := Option.some.inj hj
                exact (HWA.out.cell (p := ⟨g, off, none⟩) hgl (fun h => h)).trans hb0
              · obtain rfl := Option.some.inj hj
                exact (HWA.out.cell (p := ⟨g, off + 1, none⟩) hgl (fun h => h)).trans hb1
              · obtain rfl := Option.some.inj hj
                exact (HWA.out.cell (p := ⟨g, off + 2, none⟩) hgl (fun h => h)).trans hb2
            case c2 => intro u hu; simp at hu; rcases hu with rfl | rfl | rfl <;> rfl
            case c3 => unfold maxLen; omega
            case c4 => omega
            case c5 => simp
            intro v5 w5 hown5 hgr hnil
            have hown5' : w5.ownsRow wr.heap.size 9 1 v5 3 [.string ba, .string bb, .string bc] := by simpa using hown5
            obtain ⟨A5, c5, rfl⟩ := ownsRow_slice hown5'
            obtain ⟨g5, rfl⟩ : ∃ g5, A5 = some ⟨g5, 0, none⟩ := by
              rcases hown5'.2 with ⟨h0, h1⟩ | ⟨g, cap, cur, hv, _⟩
              · omega
              · injection hv with hv1
                exact ⟨g, hv1⟩
            obtain ⟨hg5, hg5l, k0, k1, k2⟩ := three_cells hown5'
            have HO5 := Lib.hid (((Only.refl NoneOf wr).alloc (.cells #[] 9)).step (only_grown hgr) (fun k hk e => by simp [Value.ownBlock] at e; omega))
            have HSORT := Lib.hid (sort_three w5 g5 c5 ba bb bc k0 k1 k2 hg5l)
            have HG5 := Lib.hid hg5
            clear hown5 hown5' hgr hnil k0 k1 k2 hg5 hb0 hb1 hb2 HOWN
            go_wp2_with fail
            refine HSORT.out.mono ?_; rintro e w6 ⟨rfl, x, y, z, k0, k1, k2, hxy, hyz, ho6⟩
            have HO6 := Lib.hid (HO5.out.step ho6 (fun k hk e => by have := HG5.out; omega))
            have HOW := Lib.hid (HOE.out.trans HO6.out)
            have HS6 := Lib.hid (HE.out.keep HO6.out)
            have hgl6 : g5 < w6.heap.size := Nat.lt_of_lt_of_le hg5l ho6.size
            clear ho6 HSORT HAL HWA
            cases qy : y.toList.isEmpty
            · cases qz : z.toList.isEmpty
              · have hyn : y.toList ≠ [] := fun e => by rw [e] at qy; cases qy
                have hzn : z.toList ≠ [] := fun e => by rw [e] at qz; cases qz
                have HSPL := Lib.hid (scan_split R x y z st hxy hyz hyn hzn)
                clear hxy hyz hyn hzn
                go_upto_region 29 with (fail)
                refine wp_region_head2 18 154 [] (fun _ => none) (fun _ => none) NoneOf (fun _ => Only NoneOf w6) (Q29 w6.heap.size s g5 c5 x y z st (scanR R x y st) (scanR R y z st)) rfl (by kernel_rfl) (by kernel_rfl) ?hskip ?hgv (Q29_keep _ _ _ _ _ _ _ _ _ _) ((Only.refl _ _).drew) ?hstep ?hend
                case hskip =>
                  intro i o hi ho hw k
                  have : i = 0 ∨ i = 1 ∨ i = 2 ∨ i = 3 ∨ i = 4 ∨ i = 5 ∨ i = 6 ∨ i = 7 ∨ i = 8 ∨ i = 9 ∨ i = 10 ∨ i = 11 ∨ i = 12 ∨ i = 13 ∨ i = 14 ∨ i = 15 ∨ i = 16 ∨ i = 17 := by omega
                  rcases this with rfl | rfl | rfl | rfl | rfl | rfl | rfl | rfl | rfl | rfl | rfl | rfl | rfl | rfl | rfl | rfl | rfl | rfl
                  · rfl
                  · rfl
                  · rfl
                  · rfl
                  · rfl
                  · rfl
                  · rfl
                  · rfl
                  · rfl
                  · rfl
                  · rfl
                  · rfl
                  · rfl
                  · rfl
                  · rfl
                  · rfl
                  · rfl
                  · rfl
                case hgv =>
                  intro g hg v w h
                  cases hg
                case hstep =>
                  intro i o hi ho a u k hk hik hs ht
                  have e7 : a.tmps.getD 7 undef = .pointer (some ⟨s, 0, none⟩) := hs 7 (of_decide_eq_true (by kernel_rfl))
                  have e20 : a.tmps.getD 20 undef = .slice (some ⟨g5, 0, none⟩) 3 c5 := hs 20 (of_decide_eq_true (by kernel_rfl))
                  have e2 : a.tmps.getD 2 undef = .int .i64 st := hs 2 (of_decide_eq_true (by kernel_rfl))
                  have k0w := (hk.cell (p := ⟨g5, 0, none⟩) hgl6 (fun h => h)).trans k0
                  have k1w := (hk.cell (p := ⟨g5, 1, none⟩) hgl6 (fun h => h)).trans k1
                  have k2w := (hk.cell (p := ⟨g5, 2, none⟩) hgl6 (fun h => h)).trans k2
                  have : i = 0 ∨ i = 1 ∨ i = 2 ∨ i = 3 ∨ i = 4 ∨ i = 5 ∨ i = 6 ∨ i = 7 ∨ i = 8 ∨ i = 9 ∨ i = 10 ∨ i = 11 ∨ i = 12 ∨ i = 13 ∨ i = 14 ∨ i = 15 ∨ i = 16 ∨ i = 17 := by omega
                  rcases this with rfl | rfl | rfl | rfl | rfl | rfl | rfl | rfl | rfl | rfl | rfl | rfl | rfl | rfl | rfl | rfl | rfl | rfl
                  · obtain rfl := Option.some.inj (ho : some _ = some o)
                    rw [if_pos (by decide)]
                    exact left2_value (.pointer (some ⟨s, 0, none⟩)) (by simp [go_sem, e7]) rfl rfl hk
                  · obtain rfl := Option.some.inj (ho : some _ = some o)
                    rw [if_pos (by decide)]
                    exact left2_value (.slice (some ⟨g5, 0, none⟩) 3 c5) (by simp [go_sem, e20]) rfl rfl hk
                  · obtain rfl := Option.some.inj (ho : some _ = some o)
                    rw [if_pos (by decide)]
                    have s1 : a.tmps.getD 125 undef = .slice (some ⟨g5, 0, none⟩) 3 c5 := ht 1 (by omega) (by kernel_rfl)
                    exact left2_value (.pointer (some ⟨g5, 0, none⟩)) (by simp [go_sem, s1]) rfl rfl hk
                  · obtain rfl := Option.some.inj (ho : some _ = some o)
                    rw [if_pos (by decide)]
                    have s2 : a.tmps.getD 126 undef = .pointer (some ⟨g5, 0, none⟩) := ht 2 (by omega) (by kernel_rfl)
                    exact left2_value (.string x) (by simp [go_sem, s2, k0w]) rfl rfl hk
                  · obtain rfl := Option.some.inj (ho : some _ = some o)
                    rw [if_pos (by decide)]
                    exact left2_value (.slice (some ⟨g5, 0, none⟩) 3 c5) (by simp [go_sem, e20]) rfl rfl hk
                  · obtain rfl := Option.some.inj (ho : some _ = some o)
                    rw [if_pos (by decide)]
                    have s4 : a.tmps.getD 128 undef = .slice (some ⟨g5, 0, none⟩) 3 c5 := ht 4 (by omega) (by kernel_rfl)
                    exact left2_value (.pointer (some ⟨g5, 1, none⟩)) (by simp [go_sem, s4]) rfl rfl hk
                  · obtain rfl := Option.some.inj (ho : some _ = some o)
                    rw [if_pos (by decide)]
                    have s5 : a.tmps.getD 129 undef = .pointer (some ⟨g5, 1, none⟩) := ht 5 (by omega) (by kernel_rfl)
                    exact left2_value (.string y) (by simp [go_sem, s5, k1w]) rfl rfl hk
                  · obtain rfl := Option.some.inj (ho : some _ = some o)
                    rw [if_pos (by decide)]
                    exact left2_value (.int .i64 st) (by simp [go_sem, e2]) rfl rfl hk
                  · obtain rfl := Option.some.inj (ho : some _ = some o)
                    rw [if_pos (by decide)]
                    have s0 : a.tmps.getD 124 undef = .pointer (some ⟨s, 0, none⟩) := ht 0 (by omega) (by kernel_rfl)
                    have s3 : a.tmps.getD 127 undef = .string x := ht 3 (by omega) (by kernel_rfl)
                    have s6 : a.tmps.getD 130 undef = .string y := ht 6 (by omega) (by kernel_rfl)
                    have s7 : a.tmps.getD 131 undef = .int .i64 st := ht 7 (by omega) (by kernel_rfl)
                    have s0c : a.tmps.getD 124 undef = .pointer (some ⟨s, 0, none⟩) := ht 0 (by omega) (by kernel_rfl)
                    have s3c : a.tmps.getD 127 undef = .string x := ht 3 (by omega) (by kernel_rfl)
                    have s6c : a.tmps.getD 130 undef = .string y := ht 6 (by omega) (by kernel_rfl)
                    have s7c : a.tmps.getD 131 undef = .int .i64 st := ht 7 (by omega) (by kernel_rfl)
                    exact left2_calls 22 #[.pointer (some ⟨s, 0, none⟩), .string x, .string y, .int .i64 st] (by simp [go_sem, s0c, s3c, s6c, s7c]) ((scannedR u s nv T1 NoneOf R (HS6.out.keep hk) (by unfold NMAX; omega) x y st).mono (fun e w' ⟨v, rs, he, hr, hpl, ho⟩ => ⟨v, he, (show PTold w6.heap.size (scanR R x y st) v w' by rw [← hpl]; exact PTold.of hr hk.size), ho⟩)) rfl (fun w' ho => hk.trans ho)
                  · obtain rfl := Option.some.inj (ho : some _ = some o)
                    rw [if_pos (by decide)]
                    exact left2_value (.pointer (some ⟨s, 0, none⟩)) (by simp [go_sem, e7]) rfl rfl hk
                  · obtain rfl := Option.some.inj (ho : some _ = some o)
                    rw [if_pos (by decide)]
                    exact left2_value (.slice (some ⟨g5, 0, none⟩) 3 c5) (by simp [go_sem, e20]) rfl rfl hk
                  · obtain rfl := Option.some.inj (ho : some _ = some o)
                    rw [if_pos (by decide)]
                    have s10 : a.tmps.getD 134 undef = .slice (some ⟨g5, 0, none⟩) 3 c5 := ht 10 (by omega) (by kernel_rfl)
                    exact left2_value (.pointer (some ⟨g5, 1, none⟩)) (by simp [go_sem, s10]) rfl rfl hk
                  · obtain rfl := Option.some.inj (ho : some _ = some o)
                    rw [if_pos (by decide)]
                    have s11 : a.tmps.getD 135 undef = .pointer (some ⟨g5, 1, none⟩) := ht 11 (by omega) (by kernel_rfl)
                    exact left2_value (.string y) (by simp [go_sem, s11, k1w]) rfl rfl hk
                  · obtain rfl := Option.some.inj (ho : some _ = some o)
                    rw [if_pos (by decide)]
                    exact left2_value (.slice (some ⟨g5, 0, none⟩) 3 c5) (by simp [go_sem, e20]) rfl rfl hk
                  · obtain rfl := Option.some.inj (ho : some _ = some o)
                    rw [if_pos (by decide)]
                    have s13 : a.tmps.getD 137 undef = .slice (some ⟨g5, 0, none⟩) 3 c5 := ht 13 (by omega) (by kernel_rfl)
                    exact left2_value (.pointer (some ⟨g5, 2, none⟩)) (by simp [go_sem, s13]) rfl rfl hk
                  · obtain rfl := Option.some.inj (ho : some _ = some o)
                    rw [if_pos (by decide)]
                    have s14 : a.tmps.getD 138 undef = .pointer (some ⟨g5, 2, none⟩) := ht 14 (by omega) (by kernel_rfl)
                    exact left2_value (.string z) (by simp [go_sem, s14, k2w]) rfl rfl hk
                  · obtain rfl := Option.some.inj (ho : some _ = some o)
                    rw [if_pos (by decide)]
                    exact left2_value (.int .i64 st) (by simp [go_sem, e2]) rfl rfl hk
                  · obtain rfl := Option.some.inj (ho : some _ = some o)
                    rw [if_pos (by decide)]
                    have s9 : a.tmps.getD 133 undef = .pointer (some ⟨s, 0, none⟩) := ht 9 (by omega) (by kernel_rfl)
                    have s12 : a.tmps.getD 136 undef = .string y := ht 12 (by omega) (by kernel_rfl)
                    have s15 : a.tmps.getD 139 undef = .string z := ht 15 (by omega) (by kernel_rfl)
                    have s16 : a.tmps.getD 140 undef = .int .i64 st := ht 16 (by omega) (by kernel_rfl)
                    have s9c : a.tmps.getD 133 undef = .pointer (some ⟨s, 0, none⟩) := ht 9 (by omega) (by kernel_rfl)
                    have s12c : a.tmps.getD 136 undef = .string y := ht 12 (by omega) (by kernel_rfl)
                    have s15c : a.tmps.getD 139 undef = .string z := ht 15 (by omega) (by kernel_rfl)
                    have s16c : a.tmps.getD 140 undef = .int .i64 st := ht 16 (by omega) (by kernel_rfl)
                    exact left2_calls 22 #[.pointer (some ⟨s, 0, none⟩), .string y, .string z, .int .i64 st] (by simp [go_sem, s9c, s12c, s15c, s16c]) ((scannedR u s nv T1 NoneOf R (HS6.out.keep hk) (by unfold NMAX; omega) y z st).mono (fun e w' ⟨v, rs, he, hr, hpl, ho⟩ => ⟨v, he, (show PTold w6.heap.size (scanR R y z st) v w' by rw [← hpl]; exact PTold.of hr hk.size), ho⟩)) rfl (fun w' ho => hk.trans ho)
                case hend =>
                  intro V' u k hk hkt hV'
                  have v0 : V' 0 = .pointer (some ⟨s, 0, none⟩) := hV' 0 (by omega)
                  have v1 : V' 1 = .slice (some ⟨g5, 0, none⟩) 3 c5 := hV' 1 (by omega)
                  have v2 : V' 2 = .pointer (some ⟨g5, 0, none⟩) := hV' 2 (by omega)
                  have v3 : V' 3 = .string x := hV' 3 (by omega)
                  have v4 : V' 4 = .slice (some ⟨g5, 0, none⟩) 3 c5 := hV' 4 (by omega)
                  have v5 : V' 5 = .pointer (some ⟨g5, 1, none⟩) := hV' 5 (by omega)
                  have v6 : V' 6 = .string y := hV' 6 (by omega)
                  have v7 : V' 7 = .int .i64 st := hV' 7 (by omega)
                  obtain ⟨pv8, v8, h8⟩ : ∃ pv, V' 8 = pv ∧ PTold w6.heap.size (scanR R x y st) pv u := ⟨_, rfl, hV' 8 (by omega)⟩
                  have v9 : V' 9 = .pointer (some ⟨s, 0, none⟩) := hV' 9 (by omega)
                  have v10 : V' 10 = .slice (some ⟨g5, 0, none⟩) 3 c5 := hV' 10 (by omega)
                  have v11 : V' 11 = .pointer (some ⟨g5, 1, none⟩) := hV' 11 (by omega)
                  have v12 : V' 12 = .string y := hV' 12 (by omega)
                  have v13 : V' 13 = .slice (some ⟨g5, 0, none⟩) 3 c5 := hV' 13 (by omega)
                  have v14 : V' 14 = .pointer (some ⟨g5, 2, none⟩) := hV' 14 (by omega)
                  have v15 : V' 15 = .string z := hV' 15 (by omega)
                  have v16 : V' 16 = .int .i64 st := hV' 16 (by omega)
                  obtain ⟨pv17, v17, h17⟩ : ∃ pv, V' 17 = pv ∧ PTold w6.heap.size (scanR R y z st) pv u := ⟨_, rfl, hV' 17 (by omega)⟩
                  change wpList _ _ _ _ (Act.put (Act.put (Act.put (Act.put (Act.put (Act.put (Act.put (Act.put (Act.put (Act.put (Act.put (Act.put (Act.put (Act.put (Act.put (Act.put (Act.put (Act.put _ (some 124) (V' 0)) (some 125) (V' 1)) (some 126) (V' 2)) (some 127) (V' 3)) (some 128) (V' 4)) (some 129) (V' 5)) (some 130) (V' 6)) (some 131) (V' 7)) (some 132) (V' 8)) (some 133) (V' 9)) (some 134) (V' 10)) (some 135) (V' 11)) (some 136) (V' 12)) (some 137) (V' 13)) (some 138) (V' 14)) (some 139) (V' 15)) (some 140) (V' 16)) (some 141) (V' 17)) _
                  rw [v0, v1, v2, v3, v4, v5, v6, v7, v8, v9, v10, v11, v12, v13, v14, v15, v16, v17]
                  simp only [Act.put, List.setIfInBounds_toArray, List.set_cons_zero, List.set_cons_succ]
                  simp only [List.drop_succ_cons, List.drop_zero]
                  clear hV' v0 v1 v2 v3 v4 v5 v6 v7 v8 v9 v10 v11 v12 v13 v14 v15 v16 v17
                  have HK := Lib.hid hk
                  obtain ⟨rs1, p1, o1, b1⟩ := h8
                  obtain ⟨rs2, p2, o2, b2⟩ := h17
                  clear hk hkt
                  have hsum : (scanR R x y st).length + (scanR R y z st).length ≤ 2513169434843 := by
                    have e1 := congrArg List.length HSPL.out
                    rw [List.length_append] at e1
                    have e2 : (scanR R x z st).length ≤ (keysR R).length := List.length_filterMap_le _ _
                    have e3 := keysR_length R
                    have e4 := HS6.out.len
                    omega
                  have H8 := Lib.hid (show PTold w6.heap.size (scanR R x y st) pv8 u from ⟨rs1, p1, o1, b1⟩)
                  have H17 := Lib.hid (show PTold w6.heap.size (scanR R y z st) pv17 u from ⟨rs2, p2, o2, b2⟩)
                  clear o1 o2 b1 b2 p1 p2
                  refine wpList_append_told rfl (.tmp 132) (.tmp 141) rfl rfl rfl H8.out H17.out HK.out.size hsum fun v7 w7 hpt ho7 => ?_
                  rw [HSPL.out] at hpt
                  have HO7 := Lib.hid (HK.out.step ho7 (fun k hk h => by omega))
                  have HPT := Lib.hid hpt
                  have HS7 := Lib.hid (HS6.out.keep HO7.out)
                  have hfit : ∀ p ∈ scanR R x z st, p.2.length ≤ 4611686018427387904 := fun p hp => by
                    obtain ⟨y, hy, e⟩ := found_mem (scan_get hp)
                    have := HS6.out.good.bs _ (verR_mem.1 hy)
                    rw [← e]
                    simp only at this
                    omega
                  have hfl : (scanR R x z st).length ≤ 4611686018427387904 := by
                    have e1 := congrArg List.length HSPL.out
                    rw [List.length_append] at e1
                    omega
                  have k0' := (HO7.out.cell (p := ⟨g5, 0, none⟩) hgl6 (fun h => h)).trans k0
                  have k2' := (HO7.out.cell (p := ⟨g5, 2, none⟩) hgl6 (fun h => h)).trans k2
                  have hgl7 : g5 < w7.heap.size := Nat.lt_of_lt_of_le hgl6 HO7.out.size
                  have HFIT := Lib.hid hfit
                  clear hpt ho7 H8 H17 hfit
                  go_upto_region 30 with (fail)
                  refine wp_region_head2 10 154 [] (fun _ => none) (fun _ => none) NoneOf (fun _ => Only NoneOf w7) (Q30 0 s g5 c5 x z st v7 (scanR R x z st)) rfl (by kernel_rfl) (by kernel_rfl) ?hskip ?hgv (Q30_keep _ _ _ _ _ _ _ _ _) ((Only.refl _ _).drew) ?hstep ?hend
                  case hskip =>
                    intro i o hi ho hw k
                    have : i = 0 ∨ i = 1 ∨ i = 2 ∨ i = 3 ∨ i = 4 ∨ i = 5 ∨ i = 6 ∨ i = 7 ∨ i = 8 ∨ i = 9 := by omega
                    rcases this with rfl | rfl | rfl | rfl | rfl | rfl | rfl | rfl | rfl | rfl
                    · rfl
                    · rfl
                    · rfl
                    · rfl
                    · rfl
                    · rfl
                    · rfl
                    · rfl
                    · rfl
                    · rfl
                  case hgv =>
                    intro g hg v w h
                    cases hg
                  case hstep =>
                    intro i o hi ho a u k hk hik hs ht
                    have e7 : a.tmps.getD 7 undef = .pointer (some ⟨s, 0, none⟩) := hs 7 (of_decide_eq_true (by kernel_rfl))
                    have e20 : a.tmps.getD 20 undef = .slice (some ⟨g5, 0, none⟩) 3 c5 := hs 20 (of_decide_eq_true (by kernel_rfl))
                    have e2 : a.tmps.getD 2 undef = .int .i64 st := hs 2 (of_decide_eq_true (by kernel_rfl))
                    have e21 : a.tmps.getD 21 undef = v7 := hs 21 (of_decide_eq_true (by kernel_rfl))
                    have k0w := (hk.cell (p := ⟨g5, 0, none⟩) hgl7 (fun h => h)).trans k0'
                    have k2w := (hk.cell (p := ⟨g5, 2, none⟩) hgl7 (fun h => h)).trans k2'
                    have : i = 0 ∨ i = 1 ∨ i = 2 ∨ i = 3 ∨ i = 4 ∨ i = 5 ∨ i = 6 ∨ i = 7 ∨ i = 8 ∨ i = 9 := by omega
                    rcases this with rfl | rfl | rfl | rfl | rfl | rfl | rfl | rfl | rfl | rfl
                    · obtain rfl := Option.some.inj (ho : some _ = some o)
                      rw [if_pos (by decide)]
                      exact left2_value (v7) (by simp [go_sem, e21]) rfl rfl hk
                    · obtain rfl := Option.some.inj (ho : some _ = some o)
                      rw [if_pos (by decide)]
                      exact left2_value (.pointer (some ⟨s, 0, none⟩)) (by simp [go_sem, e7]) rfl rfl hk
                    · obtain rfl := Option.some.inj (ho : some _ = some o)
                      rw [if_pos (by decide)]
                      exact left2_value (.slice (some ⟨g5, 0, none⟩) 3 c5) (by simp [go_sem, e20]) rfl rfl hk
                    · obtain rfl := Option.some.inj (ho : some _ = some o)
                      rw [if_pos (by decide)]
                      have s2 : a.tmps.getD 145 undef = .slice (some ⟨g5, 0, none⟩) 3 c5 := ht 2 (by omega) (by kernel_rfl)
                      exact left2_value (.pointer (some ⟨g5, 0, none⟩)) (by simp [go_sem, s2]) rfl rfl hk
                    · obtain rfl := Option.some.inj (ho : some _ = some o)
                      rw [if_pos (by decide)]
                      have s3 : a.tmps.getD 146 undef = .pointer (some ⟨g5, 0, none⟩) := ht 3 (by omega) (by kernel_rfl)
                      exact left2_value (.string x) (by simp [go_sem, s3, k0w]) rfl rfl hk
                    · obtain rfl := Option.some.inj (ho : some _ = some o)
                      rw [if_pos (by decide)]
                      exact left2_value (.slice (some ⟨g5, 0, none⟩) 3 c5) (by simp [go_sem, e20]) rfl rfl hk
                    · obtain rfl := Option.some.inj (ho : some _ = some o)
                      rw [if_pos (by decide)]
                      have s5 : a.tmps.getD 148 undef = .slice (some ⟨g5, 0, none⟩) 3 c5 := ht 5 (by omega) (by kernel_rfl)
                      exact left2_value (.pointer (some ⟨g5, 2, none⟩)) (by simp [go_sem, s5]) rfl rfl hk
                    · obtain rfl := Option.some.inj (ho : some _ = some o)
                      rw [if_pos (by decide)]
                      have s6 : a.tmps.getD 149 undef = .pointer (some ⟨g5, 2, none⟩) := ht 6 (by omega) (by kernel_rfl)
                      exact left2_value (.string z) (by simp [go_sem, s6, k2w]) rfl rfl hk
                    · obtain rfl := Option.some.inj (ho : some _ = some o)
                      rw [if_pos (by decide)]
                      exact left2_value (.int .i64 st) (by simp [go_sem, e2]) rfl rfl hk
                    · obtain rfl := Option.some.inj (ho : some _ = some o)
                      rw [if_pos (by decide)]
                      have s1 : a.tmps.getD 144 undef = .pointer (some ⟨s, 0, none⟩) := ht 1 (by omega) (by kernel_rfl)
                      have s4 : a.tmps.getD 147 undef = .string x := ht 4 (by omega) (by kernel_rfl)
                      have s7 : a.tmps.getD 150 undef = .string z := ht 7 (by omega) (by kernel_rfl)
                      have s8 : a.tmps.getD 151 undef = .int .i64 st := ht 8 (by omega) (by kernel_rfl)
                      have s1c : a.tmps.getD 144 undef = .pointer (some ⟨s, 0, none⟩) := ht 1 (by omega) (by kernel_rfl)
                      have s4c : a.tmps.getD 147 undef = .string x := ht 4 (by omega) (by kernel_rfl)
                      have s7c : a.tmps.getD 150 undef = .string z := ht 7 (by omega) (by kernel_rfl)
                      have s8c : a.tmps.getD 151 undef = .int .i64 st := ht 8 (by omega) (by kernel_rfl)
                      exact left2_calls 22 #[.pointer (some ⟨s, 0, none⟩), .string x, .string z, .int .i64 st] (by simp [go_sem, s1c, s4c, s7c, s8c]) ((scannedR u s nv T1 NoneOf R (HS7.out.keep hk) (by unfold NMAX; omega) x z st).mono (fun e w' ⟨v, rs, he, hr, hpl, ho⟩ => ⟨v, he, (show PTold 0 (scanR R x z st) v w' by rw [← hpl]; exact PTold.of hr (Nat.zero_le _)), ho⟩)) rfl (fun w' ho => hk.trans ho)
                  case hend =>
                    intro V' u k hk hkt hV'
                    have v0 : V' 0 = v7 := hV' 0 (by omega)
                    have v1 : V' 1 = .pointer (some ⟨s, 0, none⟩) := hV' 1 (by omega)
                    have v2 : V' 2 = .slice (some ⟨g5, 0, none⟩) 3 c5 := hV' 2 (by omega)
                    have v3 : V' 3 = .pointer (some ⟨g5, 0, none⟩) := hV' 3 (by omega)
                    have v4 : V' 4 = .string x := hV' 4 (by omega)
                    have v5 : V' 5 = .slice (some ⟨g5, 0, none⟩) 3 c5 := hV' 5 (by omega)
                    have v6 : V' 6 = .pointer (some ⟨g5, 2, none⟩) := hV' 6 (by omega)
                    have v7 : V' 7 = .string z := hV' 7 (by omega)
                    have v8 : V' 8 = .int .i64 st := hV' 8 (by omega)
                    obtain ⟨pv9, v9, h9⟩ : ∃ pv, V' 9 = pv ∧ PTold 0 (scanR R x z st) pv u := ⟨_, rfl, hV' 9 (by omega)⟩
                    change wpList _ _ _ _ (Act.put (Act.put (Act.put (Act.put (Act.put (Act.put (Act.put (Act.put (Act.put (Act.put _ (some 143) (V' 0)) (some 144) (V' 1)) (some 145) (V' 2)) (some 146) (V' 3)) (some 147) (V' 4)) (some 148) (V' 5)) (some 149) (V' 6)) (some 150) (V' 7)) (some 151) (V' 8)) (some 152) (V' 9)) _
                    rw [v0, v1, v2, v3, v4, v5, v6, v7, v8, v9]
                    simp only [Act.put, List.setIfInBounds_toArray, List.set_cons_zero, List.set_cons_succ]
                    simp only [List.drop_succ_cons, List.drop_zero]
                    clear hV' v0 v1 v2 v3 v4 v5 v6 v7 v8 v9
                    have HPA := pairs_alike u v7 pv9 _ _ (HPT.out.keep hk).list h9.list hfl HFIT.out
                    rw [decide_eq_true rfl] at HPA
                    replace HPA := Lib.hid HPA
                    have HK2 := Lib.hid ((HOW.out.trans HO7.out).trans hk)
                    clear hk hkt h9
                    go_wp2_with fail
                    refine HPA.out.mono ?_; rintro e w9 ⟨rfl, hw9⟩
                    have HO9 := Lib.hid (HK2.out.trans (drewN_only hw9))
                    clear hw9
                    go_wp2_with fail
                    go_ret
                    exact ⟨rfl, HO9.out⟩
              · go_wp2_with fail
                go_ret
                exact ⟨rfl, HOW.out⟩
            · go_wp2_with fail
              go_ret
              exact ⟨rfl, HOW.out⟩

end Go.Proofs.Ytnonnencdhogiaa

/-
  Layer 14's laws: a list of texts that comes in, opened.
-/
namespace Go.Proofs.Ytnonnencdhogiaa
open Go.ChangeShapes Go.WideShapes Go.ChangeAt Go.RowKit Go.Deep

theorem open_texts {H : Type} {enc : TypeId × Value → H} {w : World} {held : Bool} {v : Value} {d : DataW H} {p : List MemPlace} (hv : ∃ a len cap, v = .slice a len cap) (h : DataW.Trod enc Try.prog w 0 (fun _ => true) held 45 v d p) :
    ∃ A n cap, v = .slice A n cap ∧ n ≤ cap ∧ (3 ≤ n → ∃ g off a b c, A = some ⟨g, off, none⟩ ∧ g < w.heap.size ∧ w.cell? ⟨g, off, none⟩ = some (.string a) ∧ w.cell? ⟨g, off + 1, none⟩ = some (.string b) ∧ w.cell? ⟨g, off + 2, none⟩ = some (.string c)) := by
  obtain ⟨A, n, cap, rfl, hl, _, _, hi⟩ := open_elems (sz := 1) Try.underlying45 (by kernel_rfl) (by omega) hv h
  refine ⟨A, n, cap, rfl, hl, fun h3 => ?_⟩
  have one : ∀ i, i < n → ∃ g off t, A = some ⟨g, off, none⟩ ∧ g < w.heap.size ∧ w.cell? ⟨g, off + i, none⟩ = some (.string t) := fun i hlt => by
    obtain ⟨blk, off, cs, m, y, hA, hb, hlen, hc, ht⟩ := hi i hlt
    match cs, hlen with
    | [c], _ =>
      obtain ⟨t, rfl, _⟩ := field_string Try.underlying9 ht
      have h0 := hc 0 _ rfl
      rw [Nat.mul_one, Nat.add_zero] at h0
      exact ⟨blk, off, t, hA, hb, h0⟩
  obtain ⟨g, off, a, hA, hg, ha⟩ := one 0 (by omega)
  obtain ⟨g1, o1, b, hA1, _, hb⟩ := one 1 (by omega)
  obtain ⟨g2, o2, c, hA2, _, hc⟩ := one 2 (by omega)
  rw [hA] at hA1 hA2
  injection hA1 with hA1
  injection hA1 with e1 e2 _
  injection hA2 with hA2
  injection hA2 with e3 e4 _
  subst e1; subst e2; subst e3; subst e4
  exact ⟨g, off, a, b, c, hA, hg, ha, hb, hc⟩

end Go.Proofs.Ytnonnencdhogiaa

/-
  Layer 14's law StoreWalk: what stands in a round of its walk.
-/
namespace Go.Proofs.Ytnonnencdhogiaa
open Go.RowKit

/-- cells that stay: block, type, cells -/
abbrev Cl := Nat × TypeId × Array Value
def Kc (B : World) (cs : List Cl) : Prop := ∀ c ∈ cs, Blk B c.1 c.2.1 c.2.2
theorem Kc.onlyS {B B' : World} {cs : List Cl} {S : Nat → Prop} (h : Kc B cs) (ho : Only S B B') (hS : ∀ c ∈ cs, ¬ S c.1) : Kc B' cs := fun c hc => (h c hc).only ho (hS c hc)
theorem Kc.only {B B' : World} {cs : List Cl} (h : Kc B cs) (ho : Only NoneOf B B') : Kc B' cs := h.onlyS ho (fun _ _ h => h)
theorem Kc.cons {B : World} {cs : List Cl} {b : Nat} {t : TypeId} {x : Array Value} (h : Kc B cs) (hb : Blk B b t x) : Kc B ((b, t, x) :: cs) := fun c hc => by
  rcases List.mem_cons.1 hc with rfl | hc
  · exact hb
  · exact h c hc
theorem Kc.nil (B : World) : Kc B [] := fun c hc => by cases hc
theorem Kc.get {B : World} {cs : List Cl} (h : Kc B cs) (i : Nat) {b : Nat} {t : TypeId} {x : Array Value} (hi : cs[i]? = some (b, t, x)) : Blk B b t x := h (b, t, x) (List.mem_of_getElem? hi)

/-- pairs told, their blocks between two numbers -/
def PIn (lo hi : Nat) (L : List (ByteArray × List UInt8)) (v : Value) (w : World) : Prop := ∃ rs, PRows w lo v rs ∧ rs.map PRow.plain = L ∧ ∀ k, PBlocks v rs k → lo ≤ k ∧ k < hi
theorem PIn.of {w : World} {lo : Nat} {v : Value} {rs : List PRow} {L : List (ByteArray × List UInt8)} (h : PRows w lo v rs) (hL : rs.map PRow.plain = L) : PIn lo w.heap.size L v w := ⟨rs, h, hL, fun _ hk => h.lt hk⟩
theorem PIn.only {lo hi : Nat} {L : List (ByteArray × List UInt8)} {v : Value} {w w' : World} {S : Nat → Prop} (h : PIn lo hi L v w) (ho : Only S w w') (hS : ∀ k, lo ≤ k → k < hi → ¬ S k) : PIn lo hi L v w' := by
  obtain ⟨rs, h1, h2, h3⟩ := h
  exact ⟨rs, h1.only ho (fun k hk => hS k (h3 k hk).1 (h3 k hk).2), h2, h3⟩
theorem PIn.list {lo hi : Nat} {L : List (ByteArray × List UInt8)} {v : Value} {w : World} (h : PIn lo hi L v w) : ListAt 2 PairE w v L := by
  obtain ⟨rs, h1, rfl, _⟩ := h
  exact listAt_pairs h1

/-- one of a list that stands in memory -/
theorem ListAt.one {α : Type} {sz : Nat} {E : World → α → List Value → Prop} {w : World} {A : Option Addr} {n c c' j : Nat} {xs : List α} {x : α} (h : ListAt sz E w (.slice A n c) xs) (hj : xs[j]? = some x) :
    ∃ g off, A = some ⟨g, off, none⟩ ∧ g < w.heap.size ∧ ListAt sz E w (.slice (some ⟨g, off + j * sz, none⟩) 1 c') [x] := by
  obtain ⟨A', cap, hv, h⟩ := h
  injection hv with e1 e2 e3
  subst e1
  obtain ⟨g, off, cs, hA, hg, hc, hl, he⟩ := h j x hj
  refine ⟨g, off, hA, hg, _, _, rfl, fun i y hy => ?_⟩
  match i, hy with
  | 0, hy =>
    simp at hy
    subst hy
    exact ⟨g, off + j * sz, cs, rfl, hg, fun k c hk => by rw [Nat.zero_mul, Nat.add_zero]; exact hc k c hk, hl, he⟩
  | i + 1, hy => simp at hy
/-- a row of its own, as a list of one -/
theorem listAt_new {w : World} {b : Nat} {x : ByteArray × List UInt8} {v : Value} {lo : Nat} (h : Blk w b 48 #[.string x.1, v]) (hv : RowB w lo v x.2) (c : Nat) : ListAt 2 PairE w (.slice (some ⟨b, 0, none⟩) 1 c) [x] := by
  refine ⟨_, _, rfl, fun i y hy => ?_⟩
  match i, hy with
  | 0, hy =>
    simp at hy
    subst hy
    obtain ⟨A, c', e, hb⟩ := hv.bytesV
    refine ⟨b, 0, [.string x.1, v], rfl, h.lt, fun j c hj => ?_, rfl, A, c', by rw [e], hb⟩
    simp only [Nat.zero_mul, Nat.zero_add, h.cell]
    simpa using hj
  | i + 1, hy => simp at hy

/-- an operation that makes memory -/
theorem left2_new {P : Program} {T : Nat → Value → World → Prop} {G : Nat → World → Prop} {S : Nat → Prop} {tn : Nat → Option Nat} {i k : Nat} {o : Oper} {a : Act} {w : World} {Q : Exit → Act → World → Prop}
    (v : Value) (w' : World) (ho : (execOp a.eval o).run P w = .ok (.value v) w') (hw : Only NoneOf w w') (hv : T i v w') (hn : tn i = none) (hg : G k w') : o.wp P a w (Left2 T G S tn i k o a w) Q := by
  unfold Oper.wp
  rw [ho]
  exact ⟨v, rfl, hv, by unfold nextPh; rw [if_neg (by rw [hn]; simp)]; exact hg, hw.mono fun _ _ h => h.elim⟩

/-- What stands in a round: what the walk began with (Wr) but for the store and the counter; the store. -/
structure WSt (Wr : World) (s B1 B2 bn nv nx : Nat) (at_ : Int) (E j : Nat) (B : World) : Prop where
  e2 : Wr.heap.size + 2 ≤ E
  eb : E ≤ B.heap.size
  only : Only (fun k => (B1 ≤ k ∧ k < B2) ∨ k = bn) Wr B
  cnt : Blk B bn 3 #[.int .i64 j]
  sto : ∃ T Rk Nk, StoR B s T (fun k => B2 ≤ k ∧ k < E) Rk Nk ∧ (∀ k, T k → B1 ≤ k ∧ (k < B2 ∨ E ≤ k)) ∧ Nk ≤ nv + nx ∧ ((j : Int) ≤ at_ → Nk ≤ nv)

theorem WSt.zone {Wr A B : World} {s B1 B2 bn nv nx E j : Nat} {at_ : Int} (h : WSt Wr s B1 B2 bn nv nx at_ E j A) (hb : B2 ≤ bn ∧ bn < Wr.heap.size) (ho : Only (Ours Wr.heap.size E) A B) : WSt Wr s B1 B2 bn nv nx at_ E j B := by
  obtain ⟨h1, h2, h3, h4, T, Rk, Nk, h5, h6, h7⟩ := h
  have hs := ho.size
  exact ⟨h1, by omega, h3.step ho (fun k hk hh => by have := hh.1; omega), h4.only ho (fun hh => by have := hh.1; omega), T, Rk, Nk,
    h5.other ho (fun k hk => ⟨by have := hk.1; omega, hk.2⟩) (fun k hk => ⟨by have := hk.2; omega, .inl hk⟩), h6, h7⟩
theorem WSt.keep {Wr A B : World} {s B1 B2 bn nv nx E j : Nat} {at_ : Int} (h : WSt Wr s B1 B2 bn nv nx at_ E j A) (ho : Only NoneOf A B) : WSt Wr s B1 B2 bn nv nx at_ E j B := by
  obtain ⟨h1, h2, h3, h4, T, Rk, Nk, h5, h6, h7⟩ := h
  have hs := ho.size
  exact ⟨h1, by omega, h3.step ho (fun _ _ hh => hh.elim), h4.only ho (fun hh => hh), T, Rk, Nk, h5.keep ho, h6, h7⟩
theorem WSt.start {Wr B : World} {s B1 B2 bn nv nx E : Nat} {at_ : Int} {T : Nat → Prop} {R : List KV} (hE : Wr.heap.size + 2 ≤ E) (hEB : E ≤ B.heap.size) (ho : Only NoneOf Wr B) (hc : Blk Wr bn 3 #[.int .i64 (0 : Nat)])
    (h : StoR Wr s T (fun k => B2 ≤ k ∧ k < Wr.heap.size) R nv) (hT : ∀ k, T k → B1 ≤ k ∧ k < B2) : WSt Wr s B1 B2 bn nv nx at_ E 0 B :=
  ⟨hE, hEB, ho.mono (fun _ _ h => h.elim), hc.only ho (fun h => h), T, R, nv, h.other ho (fun _ h => h.elim) (fun k hk => ⟨by have := hk.2; omega, by by_cases hk' : k < Wr.heap.size; exact .inl ⟨hk.1, hk'⟩; exact .inr (by omega)⟩),
    fun k hk => ⟨(hT k hk).1, .inl (hT k hk).2⟩, by omega, fun _ => Nat.le_refl _⟩
/-- the counter goes on -/
theorem WSt.put {Wr B : World} {s B1 B2 bn nv nx E j : Nat} {a1 a2 : Int} (h : WSt Wr s B1 B2 bn nv nx a1 E j B) (hb : B2 ≤ bn ∧ bn < Wr.heap.size) (hn : ((j + 1 : Nat) : Int) ≤ a2 → (j : Int) ≤ a1) :
    WSt Wr s B1 B2 bn nv nx a2 E (j + 1) (B.setCell ⟨bn, 0, none⟩ (.int .i64 ((j : Int) + 1))) := by
  obtain ⟨h1, h2, h3, h4, T, Rk, Nk, h5, h6, h7, h8⟩ := h
  have ho : Only (· = bn) B (B.setCell ⟨bn, 0, none⟩ (.int .i64 ((j : Int) + 1))) := (Only.refl (· = bn) B).put (.inl rfl) _
  have hs := ho.size
  exact ⟨h1, by omega, h3.step ho (fun k hk hh => .inr hh), h4.put 0 _, T, Rk, Nk, h5.other ho (fun k hk => by subst hk; exact ⟨hb.1, by omega⟩) (fun k hk => ⟨by have := hk.2; omega, .inl hk⟩), h6, h7, fun hj => h8 (hn hj)⟩
/-- the script begins -/
theorem WSt.script {Wr B : World} {s B1 B2 bn nv nx E j : Nat} {at_ : Int} (h : WSt Wr s B1 B2 bn nv nx at_ E j B) (hj : (j : Int) = at_) : WSt Wr s B1 B2 bn nv 0 (-1) E j B := by
  obtain ⟨h1, h2, h3, h4, T, Rk, Nk, h5, h6, h7, h8⟩ := h
  exact ⟨h1, h2, h3, h4, T, Rk, Nk, h5, h6, h8 (by omega), fun hj' => by omega⟩
/-- a call of the script -/
theorem WSt.call {Wr A : World} {s B1 B2 bn nv i E j : Nat} (h : WSt Wr s B1 B2 bn nv i (-1) E j A) (hb : B1 ≤ B2 ∧ B2 ≤ bn ∧ bn < Wr.heap.size) (hN : nv + i < NMAX) (x : Stp) (Ab : Option Addr) (cb : Nat) (hkey : x.key.size ≤ maxLen) (hby : BytesAt A Ab x.bs) :
    Calls Try.prog 17 #[.pointer (some ⟨s, 0, none⟩), .agg (stepC x.kind x.key x.st (.slice Ab x.bs.length cb) x.dead x.tt)] A fun e w' => (∃ v, e = .returned v) ∧ WSt Wr s B1 B2 bn nv (i + 1) (-1) E j w' ∧ Only (Theirs Wr.heap.size E NoneOf) A w' := by
  obtain ⟨h1, h2, h3, h4, T, Rk, Nk, h5, h6, h7, h8⟩ := h
  refine (call_is A s Nk T _ Rk h5 (by omega) x Ab cb hkey hby).mono ?_
  rintro e w' ⟨cs, T', rfl, _, hs, ho, hk⟩
  have hsz := ho.size
  refine ⟨⟨_, rfl⟩, ⟨h1, by omega, h3.step ho (fun k hk' ht => .inl ⟨(h6 k ht).1, by have := (h6 k ht).2; omega⟩), h4.only ho (fun ht => by have := (h6 _ ht).2; omega), T', _, Nk + 1, hs, fun k hk' => ?_, by omega, fun hj => by omega⟩, ho.mono fun k _ ht => ?_⟩
  · rcases hk k hk' with h | h
    · exact h6 k h
    · exact ⟨by omega, .inr (by omega)⟩
  · rcases (h6 k ht).2 with h | h
    · exact .inl ⟨by omega, fun h => h⟩
    · exact .inr h

theorem WSt.weak {Wr B : World} {s B1 B2 bn nv nx E j : Nat} {at_ : Int} (h : WSt Wr s B1 B2 bn nv nx at_ E j B) : WSt Wr s B1 B2 bn nv nx (-1) E j B := by
  obtain ⟨h1, h2, h3, h4, T, Rk, Nk, h5, h6, h7, h8⟩ := h
  exact ⟨h1, h2, h3, h4, T, Rk, Nk, h5, h6, h7, fun hj' => by omega⟩
theorem WSt.cells {Wr B : World} {s B1 B2 bn nv nx E j : Nat} {at_ : Int} {cs : List Cl} (h : WSt Wr s B1 B2 bn nv nx at_ E j B) (hc : Kc Wr cs) (hcs : ∀ c ∈ cs, (c.1 < B1 ∨ B2 ≤ c.1) ∧ c.1 < bn) : Kc B cs :=
  hc.onlyS h.only (fun c hc hh => by have := hcs c hc; rcases hh with hh | hh <;> omega)
theorem WSt.told {Wr B : World} {s B1 B2 bn nv nx E j lo hi : Nat} {at_ : Int} {L : List (ByteArray × List UInt8)} {v : Value} (h : WSt Wr s B1 B2 bn nv nx at_ E j B) (hp : PIn lo hi L v Wr) (hb : B2 ≤ lo ∧ hi ≤ bn) : PIn lo hi L v B :=
  hp.only h.only (fun k h1 h2 hh => by rcases hh with hh | hh <;> omega)
theorem PIn.form {lo hi n c j : Nat} {A : Option Addr} {L : List (ByteArray × List UInt8)} {w : World} {x : ByteArray × List UInt8} (h : PIn lo hi L (.slice A n c) w) (hj : L[j]? = some x) : ∃ g, A = some ⟨g, 0, none⟩ ∧ L.length = n ∧ n ≤ c ∧ c ≤ maxLen := by
  obtain ⟨rs, h1, h2, _⟩ := h
  have hl : rs.length = L.length := by rw [← h2, List.length_map]
  have hlt := (List.getElem?_eq_some_iff.1 hj).1
  rcases h1.own.2 with ⟨h0, h3⟩ | ⟨g, cap, cur, hv, _, _, h4, h5, _⟩
  · omega
  · injection hv with e1 e2 e3
    subst e1; subst e2; subst e3
    exact ⟨g, rfl, hl.symm, h4, h5⟩

/-- a range that is left early or not goes on alike -/
theorem cut_block {n : Nat} {P : Program} {c : Code} {id : Nat} {Q0 : Exit → Act → World → Prop} {a : Act} {w : World} (a1 : Act) (MID : World → Prop)
    (h1 : c.wpIn Fence.wide n P (fun e a' w' => (e = .normal ∨ e = .exit id) ∧ a' = a1 ∧ MID w') a w) (h2 : ∀ w', MID w' → Q0 .normal a1 w') : c.wpIn Fence.wide n P (Exit.inBlock id Q0) a w := by
  refine wpIn_mono h1 ?_
  rintro e a' w' ⟨he, rfl, hm⟩
  rcases he with rfl | rfl
  · exact h2 _ hm
  · simpa [Exit.inBlock] using h2 _ hm

def WI (Wr : World) (s B1 B2 bn nv nx : Nat) (at_ stop : Int) (E : Nat) (pre : List (ByteArray × List UInt8)) (B : World) : Prop :=
  WSt Wr s B1 B2 bn nv nx at_ E pre.length B ∧ ∀ j, j < pre.length → (j : Int) ≠ stop
def WIx (Wr : World) (s B1 B2 bn nv nx : Nat) (at_ stop : Int) (cd : Code) (E : Nat) (pre : List (ByteArray × List UInt8)) (B : World) : Prop :=
  cd = .exit 0 ∧ WSt Wr s B1 B2 bn nv nx at_ E pre.length B ∧ 1 ≤ pre.length ∧ (pre.length : Int) = stop + 1
theorem walk_end {Wr Wb u : World} {s B1 B2 bn nv nx E j : Nat} {a1 at_ stop : Int} {pre : List (ByteArray × List UInt8)} (h : WSt Wr s B1 B2 bn nv nx a1 E j u) (hb : B2 ≤ bn ∧ bn < Wr.heap.size) (ho : Only (Theirs Wr.heap.size E NoneOf) Wb u)
    (hn : ((j + 1 : Nat) : Int) ≤ at_ → (j : Int) ≤ a1) (hl : pre.length = j + 1) (hst : ∀ i, i < j → (i : Int) ≠ stop) (a : Act) :
    ((j : Int) = stop → roundEnds Wr.heap.size E NoneOf (WI Wr s B1 B2 bn nv nx at_ stop) (WIx Wr s B1 B2 bn nv nx at_ stop) pre Wb (.exit 0) a (u.setCell ⟨bn, 0, none⟩ (.int .i64 ((j : Int) + 1)))) ∧
    ((j : Int) ≠ stop → roundEnds Wr.heap.size E NoneOf (WI Wr s B1 B2 bn nv nx at_ stop) (WIx Wr s B1 B2 bn nv nx at_ stop) pre Wb .normal a (u.setCell ⟨bn, 0, none⟩ (.int .i64 ((j : Int) + 1)))) := by
  have h1 := h.put (a2 := at_) hb hn
  have h2 : Only (Theirs Wr.heap.size E NoneOf) Wb (u.setCell ⟨bn, 0, none⟩ (.int .i64 ((j : Int) + 1))) := ho.put (.inl (.inl ⟨hb.2, fun h => h⟩)) _
  refine ⟨fun e => ⟨h2, rfl, by rw [hl]; exact h1, by omega, by rw [hl]; omega⟩, fun e => ⟨h2, by rw [hl]; exact h1, fun i hi => ?_⟩⟩
  rw [hl] at hi
  by_cases hij : i = j
  · subst hij; exact e
  · exact hst i (by omega)

/-- the script in a round -/
def ScrRel (Wr Wb : World) (s B1 B2 bn nv n E j : Nat) (v : Value) (wr : World) : Prop := ∃ i : Nat, v = .int .i64 i ∧ i ≤ n ∧ WSt Wr s B1 B2 bn nv i (-1) E j wr ∧ Only (Theirs Wr.heap.size E NoneOf) Wb wr

/-- the values of the last question -/
def T27 (b : Value) (s : Nat) (st : Int) (L : List (ByteArray × List UInt8)) : Nat → Value → World → Prop
  | 0, v, _ => v = b
  | 1, v, _ => v = .pointer (some ⟨s, 0, none⟩)
  | 2, v, _ => v = .int .i64 st
  | 3, v, w => ListAt 2 PairE w v L
  | 4, v, _ => v = .bool true
  | _, _, _ => True
theorem T27_keep (b : Value) (s : Nat) (st : Int) (L : List (ByteArray × List UInt8)) (i : Nat) (v : Value) (w w' : World) (h : T27 b s st L i v w) (ho : Only NoneOf w w') : T27 b s st L i v w' :=
  match i, h with
  | 0, h | 1, h | 2, h | 4, h => h
  | 3, h => ListAt.keep h (fun x cs => PairE.keep ho x cs) ho
  | _ + 5, _ => trivial
/-- what stands in a round of the second walk -/
def WI2 (Wa : World) (b D : Nat) (E : Nat) (pre : List (ByteArray × List UInt8)) (B : World) : Prop :=
  Wa.heap.size + 2 ≤ E ∧ Only (· = b) Wa B ∧ B.heap[D]? = some (.deferred (some [])) ∧ ∃ v rs, Blk B b 30 #[v] ∧ PRows B 0 v rs ∧ rs.map PRow.plain = pre ∧ ∀ k, PBlocks v rs k → E ≤ k
theorem WI2.zone {Wa A B : World} {b D E : Nat} {pre : List (ByteArray × List UInt8)} (h : WI2 Wa b D E pre A) (hb : b < Wa.heap.size) (hD : D < Wa.heap.size) (ho : Only (Ours Wa.heap.size E) A B) : WI2 Wa b D E pre B := by
  obtain ⟨h1, h2, h3, v, rs, h5, h6, h7, h8⟩ := h
  exact ⟨h1, h2.step ho (fun k hk hh => by have := hh.1; omega), (ho.block D (Array.getElem?_eq_some_iff.1 h3).1 (fun hh => by have := hh.1; omega)).trans h3,
    v, rs, h5.only ho (fun hh => by have := hh.1; omega), h6.only ho (fun k hk hh => by have := h8 k hk; have := hh.2; omega), h7, h8⟩

/-- the values of a round's question -/
def WalkT (j nl gw cw : Nat) (key : ByteArray) (vv : Value) : Nat → Value → World → Prop
  | 0, v, _ => v = .int .i64 (j : Int)
  | 1, v, _ => v = .slice (some ⟨gw, 0, none⟩) nl cw
  | 2, v, _ => v = .int .i64 (nl : Int)
  | 3, v, _ => v = .bool false
  | 4, v, _ => v = .bool false
  | 5, v, _ => v = .agg #[.string key, vv]
  | 6, v, w => ∃ b, v = .slice (some ⟨b, 0, none⟩) 1 1 ∧ Blk w b 48 #[.string key, vv]
  | 7, v, _ => v = .slice (some ⟨gw, 0, none⟩) nl cw
  | 8, v, _ => v = .int .i64 (j : Int)
  | 9, v, _ => v = .int .i64 (j : Int)
  | 10, v, _ => v = .int .i64 ((j : Int) + 1)
  | 11, v, _ => v = .slice (some ⟨gw, j * 2, none⟩) 1 (cw - j)
  | 12, v, _ => v = .bool true
  | 13, v, _ => v = .bool false
  | 14, v, _ => v = .bool false
  | _, _, _ => True
theorem WalkT_keep (j nl gw cw : Nat) (key : ByteArray) (vv : Value) (i : Nat) (v : Value) (w w' : World) (h : WalkT j nl gw cw key vv i v w) (ho : Only NoneOf w w') : WalkT j nl gw cw key vv i v w' :=
  match i, h with
  | 0, h | 1, h | 2, h | 3, h | 4, h | 5, h | 7, h | 8, h | 9, h | 10, h | 11, h | 12, h | 13, h | 14, h => h
  | 6, ⟨b, h1, h2⟩ => ⟨b, h1, h2.only ho (fun h => h)⟩
  | _ + 15, _ => trivial

end Go.Proofs.Ytnonnencdhogiaa

/-
  The reference of layer 14: its list of versions in memory; newest, last.
-/
namespace Go.Proofs.Ytnonnencdhogiaa
open Go.RowKit

/-- a list of versions in memory, row by row, each with the value that stands in it -/
def RAt (w : World) (A : Option Addr) (rs : List VRow) : Prop := ∀ i r, rs[i]? = some r → ∃ g off Ab cb, A = some ⟨g, off, none⟩ ∧ g < w.heap.size ∧ w.cell? ⟨g, off + i * 4, none⟩ = some (.string r.key) ∧ w.cell? ⟨g, off + i * 4 + 1, none⟩ = some (.int .i64 r.st) ∧
  w.cell? ⟨g, off + i * 4 + 2, none⟩ = some (.slice Ab r.bs.length cb) ∧ w.cell? ⟨g, off + i * 4 + 3, none⟩ = some (.bool r.dead) ∧ r.val = .slice Ab r.bs.length cb ∧ BytesAt w Ab r.bs ∧ r.key.size ≤ maxLen
theorem RAt.keep {w w' : World} {A : Option Addr} {rs : List VRow} (h : RAt w A rs) (ho : Only NoneOf w w') : RAt w' A rs := fun i r hi => by
  obtain ⟨g, off, Ab, cb, h1, h2, d0, d1, d2, d3, h4, h5, h6⟩ := h i r hi
  have hc : ∀ o v, w.cell? ⟨g, o, none⟩ = some v → w'.cell? ⟨g, o, none⟩ = some v := fun o v hv => (ho.cell (p := ⟨g, o, none⟩) h2 (fun h => h)).trans hv
  exact ⟨g, off, Ab, cb, h1, Nat.lt_of_lt_of_le h2 ho.size, hc _ _ d0, hc _ _ d1, hc _ _ d2, hc _ _ d3, h4, h5.keep ho, h6⟩

def zeroV : Array Value := #[.string ⟨#[]⟩, .int .i64 0, .slice none 0 0, .bool false]
/-- the row that a search tells -/
def rowC : Option VRow → Array Value
  | none => zeroV
  | some r => #[.string r.key, .int .i64 r.st, r.val, .bool r.dead]
/-- is it the better one? -/
def nwB (key : ByteArray) (st : Int) (b : Option VRow) (r : VRow) : Bool := decide (r.key = key) && decide (r.st ≤ st) && (match b with | none => true | some x => decide (x.st < r.st))
def nwRow (rs : List VRow) (key : ByteArray) (st : Int) : Option VRow := rs.foldl (fun b r => if nwB key st b r then some r else b) none
theorem nwRow_take {rs : List VRow} {key : ByteArray} {st : Int} {i : Nat} {r : VRow} (h : rs[i]? = some r) : nwRow (rs.take (i + 1)) key st = if nwB key st (nwRow (rs.take i) key st) r then some r else nwRow (rs.take i) key st := by
  rw [List.take_add_one, h]
  unfold nwRow
  rw [List.foldl_append]
  rfl
theorem nwRow_mem {rs : List VRow} {key : ByteArray} {st : Int} {r : VRow} (h : nwRow rs key st = some r) : r ∈ rs := by
  have key' : ∀ (l : List VRow) (b : Option VRow), l.foldl (fun b r => if nwB key st b r then some r else b) b = some r → b = some r ∨ r ∈ l := by
    intro l
    induction l with
    | nil => intro b h; exact .inl h
    | cons x l ih =>
      intro b h
      rw [List.foldl_cons] at h
      rcases ih _ h with h | h
      · split at h
        · injection h with h; exact .inr (by simp [h])
        · exact .inl h
      · exact .inr (by simp [h])
  rcases key' rs none h with h | h
  · cases h
  · exact h

def NwPost (o : Option VRow) (w : World) (e : Ending) (w' : World) : Prop := e = .returned (.tuple #[.agg (rowC o), .bool o.isSome]) ∧ Only NoneOf w w'
/-- in a round -/
def NwRel (w : World) (rs : List VRow) (key : ByteArray) (st : Int) (n : Nat) (vis vi : Value) (wr : World) : Prop :=
  ∃ i : Nat, vi = .int .i64 i ∧ i ≤ n ∧ vis = .bool (nwRow (rs.take i) key st).isSome ∧ Blk wr w.heap.size 27 zeroV ∧ Blk wr (w.heap.size + 1) 27 (rowC (nwRow (rs.take i) key st)) ∧ Only NoneOf w wr

set_option maxRecDepth 100000 in
set_option maxHeartbeats 4000000 in
theorem newest_ref (w : World) (A : Option Addr) (cap : Nat) (rs : List VRow) (key : ByteArray) (st : Int) (hA : RAt w A rs) (hfew : rs.length ≤ 2513169434916) :
    Calls Try.prog 82 #[.slice A rs.length cap, .string key, .int .i64 st] w (NwPost (nwRow rs key st) w) := by
  have HA := Lib.hid hA
  obtain ⟨n, hn⟩ : ∃ n, rs.length = n := ⟨_, rfl⟩
  have HN := Lib.hid hn
  rw [hn] at hfew ⊢
  clear hA hn
  go_enter Try.func82, Try.ntmps82
  go_wp2_with fail
  go_loopw [9, 15] (fun vis vi wr => NwRel w rs key st n vis vi wr) (fun _ vi _ => n - (intOf vi).toNat)
  case atStart => exact ⟨0, rfl, by omega, rfl, (Blk.new w 27 zeroV).alloc _, Blk.new' _ _ _ (by simp), ((Only.refl _ _).alloc _).alloc _⟩
  case round =>
    obtain ⟨i, rfl, hi, rfl, hB6, hB8, hO⟩ := hrel
    have HO := Lib.hid hO
    have HB6 := Lib.hid hB6
    have HB8 := Lib.hid hB8
    clear hO hB6 hB8
    by_cases hlt : i < n
    · have hx : rs[i]? = some (rs[i]'(by rw [HN.out]; exact hlt)) := List.getElem?_eq_getElem _
      generalize rs[i]'(by rw [HN.out]; exact hlt) = r at hx
      obtain ⟨g, off, Ab, cb, rfl, hg, d0, d1, d2, d3, hval, _, hks⟩ := (HA.out.keep HO.out) i r hx
      have HTK := Lib.hid (nwRow_take (key := key) (st := st) hx)
      obtain ⟨b, hb⟩ : ∃ b, nwRow (rs.take i) key st = b := ⟨_, rfl⟩
      rw [hb] at HB8 HTK ⊢
      clear hx hb
      cases b with
      | none =>
        simp only [Option.isSome_none]
        by_cases hk : r.key = key
        · subst hk
          by_cases hs : r.st ≤ st
          · have HNW := Lib.hid (show nwB r.key st none r = true by simp [nwB, hs])
            have HB8a := Lib.hid (HB8.out.alloc (.cells #[.string r.key, .int .i64 r.st, .slice Ab r.bs.length cb, .bool r.dead] 27))
            have HB6a := Lib.hid (HB6.out.alloc (.cells #[.string r.key, .int .i64 r.st, .slice Ab r.bs.length cb, .bool r.dead] 27))
            have HOa := Lib.hid (HO.out.alloc (.cells #[.string r.key, .int .i64 r.st, .slice Ab r.bs.length cb, .bool r.dead] 27))
            have HVAL := Lib.hid hval
            go_wp2_with (first | (refine wpList_store_row rfl 27 (.tmp 8) (.tmp 40) rfl (w.heap.size + 1) #[.string r.key, .int .i64 r.st, .slice Ab r.bs.length cb, .bool r.dead] rfl rfl 27 _ HB8a.out info27 rfl (by simp [Value.oneCell']) ?_) | fail)
            exact ⟨⟨i + 1, by rw [show ((i + 1 : Nat) : Int) = (i : Int) + 1 by omega], by omega, by rw [HTK.out, HNW.out]; rfl, HB6a.out.only ((Only.refl (· = w.heap.size + 1) _).row (.inl rfl) _) (by omega), by rw [HTK.out, HNW.out]; simp only [if_true, rowC, HVAL.out]; exact HB8a.out.row _, HOa.out.row (.inr (by omega)) _⟩, by simp [intOf]; omega⟩
          · have HNW := Lib.hid (show nwB r.key st none r = false by simp [nwB, hs])
            have HB8a := Lib.hid (HB8.out.alloc (.cells #[.string r.key, .int .i64 r.st, .slice Ab r.bs.length cb, .bool r.dead] 27))
            have HB6a := Lib.hid (HB6.out.alloc (.cells #[.string r.key, .int .i64 r.st, .slice Ab r.bs.length cb, .bool r.dead] 27))
            have HOa := Lib.hid (HO.out.alloc (.cells #[.string r.key, .int .i64 r.st, .slice Ab r.bs.length cb, .bool r.dead] 27))
            go_wp2_with fail
            exact ⟨⟨i + 1, by rw [show ((i + 1 : Nat) : Int) = (i : Int) + 1 by omega], by omega, by rw [HTK.out, HNW.out]; rfl, HB6a.out, by rw [HTK.out, HNW.out]; exact HB8a.out, HOa.out⟩, by simp [intOf]; omega⟩
        · have HNW := Lib.hid (show nwB key st none r = false by simp [nwB, hk])
          have hk1 : (r.key.toList == key.toList) = false := by rw [bytes_beq]; exact decide_eq_false hk
          have HB8a := Lib.hid (HB8.out.alloc (.cells #[.string r.key, .int .i64 r.st, .slice Ab r.bs.length cb, .bool r.dead] 27))
          have HB6a := Lib.hid (HB6.out.alloc (.cells #[.string r.key, .int .i64 r.st, .slice Ab r.bs.length cb, .bool r.dead] 27))
          have HOa := Lib.hid (HO.out.alloc (.cells #[.string r.key, .int .i64 r.st, .slice Ab r.bs.length cb, .bool r.dead] 27))
          go_wp2_with fail
          exact ⟨⟨i + 1, by rw [show ((i + 1 : Nat) : Int) = (i : Int) + 1 by omega], by omega, by rw [HTK.out, HNW.out]; rfl, HB6a.out, by rw [HTK.out, HNW.out]; exact HB8a.out, HOa.out⟩, by simp [intOf]; omega⟩
      | some x =>
        simp only [Option.isSome_some]
        have c1 : wr.cell? ⟨w.heap.size + 1, 1, none⟩ = some (.int .i64 x.st) := HB8.out.cellv 1 rfl
        have hl8 := HB8.out.lt
        by_cases hk : r.key = key
        · subst hk
          by_cases hs : r.st ≤ st
          · by_cases hx : x.st < r.st
            · have HNW := Lib.hid (show nwB r.key st (some x) r = true by simp [nwB, hs, hx])
              have HB8a := Lib.hid (HB8.out.alloc (.cells #[.string r.key, .int .i64 r.st, .slice Ab r.bs.length cb, .bool r.dead] 27))
              have HB6a := Lib.hid (HB6.out.alloc (.cells #[.string r.key, .int .i64 r.st, .slice Ab r.bs.length cb, .bool r.dead] 27))
              have HOa := Lib.hid (HO.out.alloc (.cells #[.string r.key, .int .i64 r.st, .slice Ab r.bs.length cb, .bool r.dead] 27))
              have HVAL := Lib.hid hval
              go_wp2_with (first | (refine wpList_store_row rfl 27 (.tmp 8) (.tmp 40) rfl (w.heap.size + 1) #[.string r.key, .int .i64 r.st, .slice Ab r.bs.length cb, .bool r.dead] rfl rfl 27 _ HB8a.out info27 rfl (by simp [Value.oneCell']) ?_) | fail)
              exact ⟨⟨i + 1, by rw [show ((i + 1 : Nat) : Int) = (i : Int) + 1 by omega], by omega, by rw [HTK.out, HNW.out]; rfl, HB6a.out.only ((Only.refl (· = w.heap.size + 1) _).row (.inl rfl) _) (by omega), by rw [HTK.out, HNW.out]; simp only [if_true, rowC, HVAL.out]; exact HB8a.out.row _, HOa.out.row (.inr (by omega)) _⟩, by simp [intOf]; omega⟩
            · have HNW := Lib.hid (show nwB r.key st (some x) r = false by simp [nwB, hs, hx])
              have HB8a := Lib.hid (HB8.out.alloc (.cells #[.string r.key, .int .i64 r.st, .slice Ab r.bs.length cb, .bool r.dead] 27))
              have HB6a := Lib.hid (HB6.out.alloc (.cells #[.string r.key, .int .i64 r.st, .slice Ab r.bs.length cb, .bool r.dead] 27))
              have HOa := Lib.hid (HO.out.alloc (.cells #[.string r.key, .int .i64 r.st, .slice Ab r.bs.length cb, .bool r.dead] 27))
              go_wp2_with fail
              exact ⟨⟨i + 1, by rw [show ((i + 1 : Nat) : Int) = (i : Int) + 1 by omega], by omega, by rw [HTK.out, HNW.out]; rfl, HB6a.out, by rw [HTK.out, HNW.out]; exact HB8a.out, HOa.out⟩, by simp [intOf]; omega⟩
          · have HNW := Lib.hid (show nwB r.key st (some x) r = false by simp [nwB, hs])
            have HB8a := Lib.hid (HB8.out.alloc (.cells #[.string r.key, .int .i64 r.st, .slice Ab r.bs.length cb, .bool r.dead] 27))
            have HB6a := Lib.hid (HB6.out.alloc (.cells #[.string r.key, .int .i64 r.st, .slice Ab r.bs.length cb, .bool r.dead] 27))
            have HOa := Lib.hid (HO.out.alloc (.cells #[.string r.key, .int .i64 r.st, .slice Ab r.bs.length cb, .bool r.dead] 27))
            go_wp2_with fail
            exact ⟨⟨i + 1, by rw [show ((i + 1 : Nat) : Int) = (i : Int) + 1 by omega], by omega, by rw [HTK.out, HNW.out]; rfl, HB6a.out, by rw [HTK.out, HNW.out]; exact HB8a.out, HOa.out⟩, by simp [intOf]; omega⟩
        · have HNW := Lib.hid (show nwB key st (some x) r = false by simp [nwB, hk])
          have hk1 : (r.key.toList == key.toList) = false := by rw [bytes_beq]; exact decide_eq_false hk
          have HB8a := Lib.hid (HB8.out.alloc (.cells #[.string r.key, .int .i64 r.st, .slice Ab r.bs.length cb, .bool r.dead] 27))
          have HB6a := Lib.hid (HB6.out.alloc (.cells #[.string r.key, .int .i64 r.st, .slice Ab r.bs.length cb, .bool r.dead] 27))
          have HOa := Lib.hid (HO.out.alloc (.cells #[.string r.key, .int .i64 r.st, .slice Ab r.bs.length cb, .bool r.dead] 27))
          go_wp2_with fail
          exact ⟨⟨i + 1, by rw [show ((i + 1 : Nat) : Int) = (i : Int) + 1 by omega], by omega, by rw [HTK.out, HNW.out]; rfl, HB6a.out, by rw [HTK.out, HNW.out]; exact HB8a.out, HOa.out⟩, by simp [intOf]; omega⟩
    · obtain rfl : i = n := by omega
      have e1 : rs.take i = rs := by rw [← HN.out, List.take_length]
      rw [e1] at HB8 ⊢
      obtain ⟨o, ho⟩ : ∃ o, nwRow rs key st = o := ⟨_, rfl⟩
      rw [ho] at HB8 ⊢
      cases o with
      | none =>
        have HOQ := Lib.hid ho
        simp only [rowC] at HB8
        simp only [Option.isSome_none]
        clear ho
        clear e1 hlt
        have HR := Lib.hid (HB6.out.row #[.string ⟨#[]⟩, .int .i64 0, .slice none 0 0, .bool false])
        have HOR := Lib.hid (HO.out.row (b := w.heap.size) (.inr (Nat.le_refl _)) #[.string ⟨#[]⟩, .int .i64 0, .slice none 0 0, .bool false])
        go_wp2_with (first | (refine wpList_load_row rfl 27 (.tmp 8) rfl (w.heap.size + 1) rfl 27 #[.string ⟨#[]⟩, .int .i64 0, .slice none 0 0, .bool false] (0, 0) _ HB8.out Try.underlying27 rfl info27 ?_) | (refine wpList_store_row rfl 27 (.tmp 6) (.tmp 42) rfl w.heap.size #[.string ⟨#[]⟩, .int .i64 0, .slice none 0 0, .bool false] rfl rfl 27 _ HB6.out info27 rfl (by simp [Value.oneCell']) ?_) | fail)
        have f0 := HR.out.cellv 0 rfl
        have f1 := HR.out.cellv 1 rfl
        have f2 := HR.out.cellv 2 rfl
        have f3 := HR.out.cellv 3 rfl
        exact bodyPost_ret (v := .tuple #[.agg #[.string ⟨#[]⟩, .int .i64 0, .slice none 0 0, .bool false], .bool false]) (by simp [results, Try.results82, go_sem, f0, f1, f2, f3]) rfl ⟨by rw [HOQ.out]; rfl, HOR.out⟩
      | some r =>
        obtain ⟨k, hk⟩ := List.getElem?_of_mem (nwRow_mem ho)
        obtain ⟨_, _, Ab, cb, _, _, _, _, _, _, hval, _⟩ := HA.out k r hk
        have HOQ := Lib.hid ho
        have HVL := Lib.hid hval
        simp only [rowC, hval] at HB8
        simp only [Option.isSome_some]
        clear e1 hlt ho hk hval
        have HR := Lib.hid (HB6.out.row #[.string r.key, .int .i64 r.st, .slice Ab r.bs.length cb, .bool r.dead])
        have HOR := Lib.hid (HO.out.row (b := w.heap.size) (.inr (Nat.le_refl _)) #[.string r.key, .int .i64 r.st, .slice Ab r.bs.length cb, .bool r.dead])
        go_wp2_with (first | (refine wpList_load_row rfl 27 (.tmp 8) rfl (w.heap.size + 1) rfl 27 #[.string r.key, .int .i64 r.st, .slice Ab r.bs.length cb, .bool r.dead] (0, 0) _ HB8.out Try.underlying27 rfl info27 ?_) | (refine wpList_store_row rfl 27 (.tmp 6) (.tmp 42) rfl w.heap.size #[.string r.key, .int .i64 r.st, .slice Ab r.bs.length cb, .bool r.dead] rfl rfl 27 _ HB6.out info27 rfl (by simp [Value.oneCell']) ?_) | fail)
        have f0 := HR.out.cellv 0 rfl
        have f1 := HR.out.cellv 1 rfl
        have f2 := HR.out.cellv 2 rfl
        have f3 := HR.out.cellv 3 rfl
        exact bodyPost_ret (v := .tuple #[.agg #[.string r.key, .int .i64 r.st, .slice Ab r.bs.length cb, .bool r.dead], .bool true]) (by simp [results, Try.results82, go_sem, f0, f1, f2, f3]) rfl ⟨by rw [HOQ.out]; simp only [rowC, HVL.out, Option.isSome_some], HOR.out⟩

end Go.Proofs.Ytnonnencdhogiaa

/-
  The reference of layer 14, plain: what its search tells is what counts of a key's versions.
-/
namespace Go.Proofs.Ytnonnencdhogiaa

def VRow.ver (r : VRow) : Ver := ⟨r.st, r.bs, r.dead⟩
theorem nwRow_snoc (rs : List VRow) (r : VRow) (key : ByteArray) (st : Int) : nwRow (rs ++ [r]) key st = if nwB key st (nwRow rs key st) r then some r else nwRow rs key st := by
  unfold nwRow
  rw [List.foldl_append]
  rfl
theorem newest_mem {xs : List Ver} {st : Int} {x : Ver} (h : newest xs st = some x) : x ∈ xs := by
  unfold newest at h
  exact (List.takeWhile_prefix _).subset (List.mem_of_getLast? h)
theorem newest_all {xs : List Ver} {st : Int} (h : ∀ x ∈ xs, x.st ≤ st) : newest xs st = xs.getLast? := by
  unfold newest
  have : xs.takeWhile (fun x => decide (x.st ≤ st)) = xs := by
    induction xs with
    | nil => rfl
    | cons y ys ih =>
      rw [List.takeWhile_cons, if_pos (by simpa using h y (by simp)), ih fun x hx => h x (by simp [hx])]
  rw [this]
theorem newest_le {xs : List Ver} {x : Ver} {st : Int} (h : ∀ y ∈ xs, y.st < x.st) (hx : x.st ≤ st) : newest (xs ++ [x]) st = some x := by
  rw [newest_all]
  · simp
  · intro y hy
    rcases List.mem_append.1 hy with hy | hy
    · have := h y hy; omega
    · obtain rfl : y = x := by simpa using hy
      exact hx
theorem newest_gt {xs : List Ver} {x : Ver} {st : Int} (hx : st < x.st) : newest (xs ++ [x]) st = newest xs st := by
  unfold newest
  congr 1
  induction xs with
  | nil => simp only [List.nil_append]; rw [List.takeWhile_cons, if_neg (by simp; omega)]; rfl
  | cons y ys ih =>
    rw [List.cons_append, List.takeWhile_cons, List.takeWhile_cons, ih]

theorem nwRow_newest : ∀ (n : Nat) (rs : List VRow) (key : ByteArray) (st : Int), rs.length = n → (verR (rs.map VRow.plain) key).Pairwise (fun a b => a.st < b.st) → (nwRow rs key st).map VRow.ver = newest (verR (rs.map VRow.plain) key) st := by
  intro n
  induction n with
  | zero =>
    intro rs key st hn _
    rw [List.eq_nil_of_length_eq_zero hn]
    rfl
  | succ n ih =>
    intro rs key st hn h
    rcases List.eq_nil_or_concat rs with rfl | ⟨l, r, hr⟩
    · cases hn
    · rw [List.concat_eq_append] at hr
      subst hr
      have hl : l.length = n := by simpa using hn
      rw [List.map_append, verR_append] at h ⊢
      obtain ⟨h1, _, h3⟩ := List.pairwise_append.1 h
      have ih' := ih l key st hl h1
      rw [nwRow_snoc]
      rw [show List.map VRow.plain [r] = [(r.key, r.ver)] from rfl, verR_one] at h3 ⊢
      by_cases hk : r.key = key
      · rw [if_pos hk] at h3 ⊢
        have h4 : ∀ y ∈ verR (l.map VRow.plain) key, y.st < r.ver.st := fun y hy => h3 y hy r.ver (by simp)
        by_cases hs : r.st ≤ st
        · rw [newest_le h4 hs]
          have : nwB key st (nwRow l key st) r = true := by
            unfold nwB
            cases hw : nwRow l key st with
            | none => simp [hk, hs]
            | some x =>
              rw [hw] at ih'
              have := h4 _ (newest_mem ih'.symm)
              simp only [VRow.ver] at this
              simp [hk, hs, this]
          rw [if_pos this]
          rfl
        · rw [newest_gt (by show st < r.st; omega), ← ih']
          have : nwB key st (nwRow l key st) r = false := by simp [nwB, hs]
          rw [this]
          rfl
      · rw [if_neg hk, List.append_nil, ← ih']
        have : nwB key st (nwRow l key st) r = false := by simp [nwB, hk]
        rw [this]
        rfl

/-- what is held of a reference's list -/
structure RGood (rs : List VRow) (R : List KV) : Prop where
  eq : rs.map VRow.plain = R
  good : GoodR R
theorem RGood.newest {rs : List VRow} {R : List KV} (h : RGood rs R) (key : ByteArray) (st : Int) : (nwRow rs key st).map VRow.ver = newest (verR R key) st := by
  have := nwRow_newest _ rs key st rfl (by rw [h.eq]; exact h.good.rise key)
  rwa [h.eq] at this
theorem RGood.last {rs : List VRow} {R : List KV} (h : RGood rs R) (key : ByteArray) : (nwRow rs key 4611686018427387904).map VRow.ver = (verR R key).getLast? := by
  rw [h.newest, newest_all fun x hx => (h.good.st _ (verR_mem.1 hx)).2]
theorem RGood.found {rs : List VRow} {R : List KV} (h : RGood rs R) (key : ByteArray) (st : Int) : found (verR R key) st = (nwRow rs key st).bind fun r => if r.dead then none else some r.bs := by
  unfold Proofs.Ytnonnencdhogiaa.found
  rw [← h.newest]
  cases nwRow rs key st <;> rfl
theorem RGood.len {rs : List VRow} {R : List KV} (h : RGood rs R) : rs.length = R.length := by rw [← h.eq, List.length_map]

end Go.Proofs.Ytnonnencdhogiaa

/-
  The reference of layer 14: an append of whatever slice to a list that is its own; last, Newest, Get.
-/
namespace Go.Proofs.Ytnonnencdhogiaa
open Go.RowKit

theorem run_append_owned_zero {P : Program} {w : World} (base : Nat) (t ty e : TypeId) (i : TypeInfo) (size : Nat) (ht : P.underlying t = some (.slice e)) (hi : P.info? e = some i)
    (v : Value) (n : Nat) (xs : List Value) (hown : w.ownsRow base e size v n xs) (A : Option Addr) (c : Nat) :
    (Builtin.append_ #[t, t] ty #[v, .slice A 0 c]).run P w = .ok v w := by
  cases A with
  | none =>
    rcases hown.2 with ⟨rfl, rfl⟩ | ⟨g, cap, cur, rfl, _, _, hnc, _⟩
    · simp [Builtin.append_, run_underlying ht, sizeOf, typeInfo, hi, Builtin.lenOf, Builtin.firstCells]
    · simp [Builtin.append_, run_underlying ht, sizeOf, typeInfo, hi, Builtin.lenOf, Builtin.firstCells, hnc, storeCells]
  | some ad =>
    rcases hown.2 with ⟨rfl, rfl⟩ | ⟨g, cap, cur, rfl, _, _, hnc, _⟩
    · simp [Builtin.append_, run_underlying ht, sizeOf, typeInfo, hi, Builtin.lenOf, Builtin.firstCells, loadCells, loadCellsFrom]
    · simp [Builtin.append_, run_underlying ht, sizeOf, typeInfo, hi, Builtin.lenOf, Builtin.firstCells, loadCells, loadCellsFrom, hnc, storeCells]

theorem wpList_append_any {P : Program} {w : World} {ops : Array Oper} {rest : List Oper} {o : Oper} {a : Act} {Q : Exit → Act → World → Prop} (hgd : o.guard = none) (s x : Operand) (t : TypeId)
    (ho : o.op = .call { callee := .builtin .append, args := #[s, x], argTypes := #[t, t] })
    (base : Nat) (e : TypeId) (i : TypeInfo) (z : Value) (size bytes : Nat) (ht : P.underlying t = some (.slice e)) (hi : P.info? e = some i) (hz : i.zero = some z)
    (hsize : i.size = size) (hby : i.bytes = bytes) (hzs : z.cells.size = size) (hsz : 0 < size)
    (v : Value) (n : Nat) (xs : List Value) (hs : a.eval s = v) (hown : w.ownsRow base e size v n xs)
    (A : Option Addr) (m c : Nat) (news : List Value) (hx : a.eval x = .slice A m c) (hl : news.length = m * size) (hnews : ∀ j u, news[j]? = some u → ∃ g off, A = some ⟨g, off, none⟩ ∧ w.cell? ⟨g, off + j, none⟩ = some u) (h1 : ∀ u ∈ news, u.oneCell' = true)
    (h63 : n + m ≤ maxLen) (hbytes : (n + m) * bytes ≤ 140737488355328) (hbase : base ≤ w.heap.size)
    (h : ∀ v' w', w'.ownsRow base e size v' (n + m) (xs ++ news) → Only (fun k => v.ownBlock = some k) w w' → (v'.ownBlock = v.ownBlock ∨ v'.ownBlock = some w.heap.size) → wpList P ops Q rest (a.put o.dst v') w') : wpList P ops Q (o :: rest) a w := by
  rcases Nat.eq_zero_or_pos m with h0 | h0
  · subst h0
    obtain rfl : news = [] := List.eq_nil_of_length_eq_zero (by omega)
    refine wpList_plain hgd fun K hK => ?_
    have hrun := run_append_owned_zero (P := P) (w := w) base t o.type e i size ht hi v n xs hown A c
    unfold Oper.wp
    simp [execOp, ho, resolve, invoke, builtin, hs, hx, hrun, Result.andThen]
    exact hK _ _ (h v w (by rw [List.append_nil]; exact hown) (Only.refl _ _) (.inl rfl))
  · have hlt : 0 < news.length := by rw [hl]; exact Nat.mul_pos h0 hsz
    obtain ⟨g, off, rfl, _⟩ := hnews 0 news[0] (List.getElem?_eq_getElem hlt)
    refine wpList_append_lies w hgd s x t ho base e i z size bytes ht hi hz hsize hby hzs hsz v n xs hs hown ⟨g, off, none⟩ m c news hx hl (fun j u hj => ?_) h1 h0 h63 hbytes hbase w.heap.size rfl fun g' cap w' h2 h3 h4 _ => ?_
    · obtain ⟨g1, o1, he, hc⟩ := hnews j u hj
      injection he with he
      injection he with e1 e2 _
      subst e1; subst e2
      have hadd : (⟨g, off, none⟩ : Addr).add j = ⟨g, off + j, none⟩ := by unfold Addr.add; split <;> simp_all
      rw [hadd]
      exact hc
    · refine h _ w' h2 (only_grown h3) ?_
      rcases h4 with h4 | rfl
      · exact .inl h4.symm
      · exact .inr rfl

theorem BytesAt.news {w : World} {A : Option Addr} {bs : List UInt8} (h : BytesAt w A bs) (j : Nat) (u : Value) (hj : (bs.map byteV)[j]? = some u) : ∃ g off, A = some ⟨g, off, none⟩ ∧ w.cell? ⟨g, off + j, none⟩ = some u := by
  rw [List.getElem?_map] at hj
  obtain ⟨b, hb, rfl⟩ := Option.map_eq_some_iff.1 hj
  obtain ⟨g, off, he, _, h1⟩ := h j b hb
  exact ⟨g, off, he, h1⟩
theorem one_bytes (bs : List UInt8) (u : Value) (hu : u ∈ bs.map byteV) : u.oneCell' = true := by
  obtain ⟨b, _, rfl⟩ := List.mem_map.1 hu
  rfl
theorem own_empty {w : World} {B g sz : Nat} {t : TypeId} (h : Blk w g t #[]) (hB : B ≤ g) : w.ownsRow B t sz (.slice (some ⟨g, 0, none⟩) 0 0) 0 [] :=
  ⟨by simp, .inr ⟨g, 0, #[], rfl, hB, h, Nat.le_refl _, Nat.zero_le _, by simp, by simp⟩⟩

/-- the row that a search tells, its parts named -/
theorem row_form {w : World} {A : Option Addr} {rs : List VRow} (hA : RAt w A rs) (key : ByteArray) (st : Int) : ∃ k s Ab bs cb d, rowC (nwRow rs key st) = #[.string k, .int .i64 s, .slice Ab bs.length cb, .bool d] ∧ BytesAt w Ab bs ∧
    (nwRow rs key st = none ∧ s = 0 ∧ d = false ∨ ∃ r, nwRow rs key st = some r ∧ k = r.key ∧ s = r.st ∧ bs = r.bs ∧ d = r.dead ∧ k.size ≤ maxLen) := by
  cases h : nwRow rs key st with
  | none => exact ⟨⟨#[]⟩, 0, none, [], 0, false, rfl, fun i c hc => by simp at hc, .inl ⟨rfl, rfl, rfl⟩⟩
  | some r =>
    obtain ⟨k, hk⟩ := List.getElem?_of_mem (nwRow_mem h)
    obtain ⟨_, _, Ab, cb, _, _, _, _, _, _, hval, hb, hks⟩ := hA k r hk
    exact ⟨r.key, r.st, Ab, r.bs, cb, r.dead, by simp only [rowC, hval], hb, .inr ⟨r, rfl, rfl, rfl, rfl, rfl, hks⟩⟩

set_option maxRecDepth 100000 in
set_option maxHeartbeats 1000000 in
theorem last_ref (w : World) (A : Option Addr) (cap : Nat) (rs : List VRow) (key : ByteArray) (hA : RAt w A rs) (hfew : rs.length ≤ 2513169434916) :
    Calls Try.prog 63 #[.slice A rs.length cap, .string key] w (NwPost (nwRow rs key 4611686018427387904) w) := by
  have HNW := Lib.hid (newest_ref (w.alloc (.cells zeroV 27)) A cap rs key 4611686018427387904 (hA.keep ((Only.refl _ _).alloc _)) hfew)
  obtain ⟨k, s, Ab, bs, cb, d, hform, _, _⟩ := row_form hA key 4611686018427387904
  have HFORM := Lib.hid hform
  have HB := Lib.hid (Blk.new w 27 zeroV)
  obtain ⟨n, hn⟩ : ∃ n, rs.length = n := ⟨_, rfl⟩
  rw [hn] at HNW ⊢
  clear hA hn hform hfew
  go_enter Try.func63, Try.ntmps63
  go_wp2_with fail
  refine HNW.out.mono ?_; rintro e w2 ⟨rfl, ho2⟩
  have HB2 := Lib.hid (HB.out.only ho2 (fun h => h))
  have HO2 := Lib.hid (((Only.refl NoneOf w).alloc (.cells zeroV 27)).trans ho2)
  obtain ⟨is, his⟩ : ∃ is, (nwRow rs key 4611686018427387904).isSome = is := ⟨_, rfl⟩
  have HIS := Lib.hid his
  rw [his, HFORM.out]
  have HR := Lib.hid (HB2.out.row #[.string k, .int .i64 s, .slice Ab bs.length cb, .bool d])
  have HOR := Lib.hid (HO2.out.row (b := w.heap.size) (.inr (Nat.le_refl _)) #[.string k, .int .i64 s, .slice Ab bs.length cb, .bool d])
  clear ho2 his HNW
  go_wp2_with (first | (refine wpList_store_row rfl 27 (.tmp 4) (.tmp 9) rfl w.heap.size #[.string k, .int .i64 s, .slice Ab bs.length cb, .bool d] rfl rfl 27 _ HB2.out info27 rfl (by simp [Value.oneCell']) ?_) | fail)
  have f0 := HR.out.cellv 0 rfl
  have f1 := HR.out.cellv 1 rfl
  have f2 := HR.out.cellv 2 rfl
  have f3 := HR.out.cellv 3 rfl
  exact bodyPost_ret (v := .tuple #[.agg #[.string k, .int .i64 s, .slice Ab bs.length cb, .bool d], .bool is]) (by simp [results, Try.results63, go_sem, f0, f1, f2, f3]) rfl ⟨by rw [HFORM.out, HIS.out], HOR.out⟩

def NewestRefPost (o : Option VRow) (w : World) (e : Ending) (w' : World) : Prop := e = .returned (.tuple #[.int .i64 (match o with | none => 0 | some r => r.st), .bool o.isSome]) ∧ Only NoneOf w w'
set_option maxRecDepth 100000 in
set_option maxHeartbeats 1000000 in
theorem Newest_ref (w : World) (A : Option Addr) (cap : Nat) (rs : List VRow) (key : ByteArray) (hA : RAt w A rs) (hfew : rs.length ≤ 2513169434916) :
    Calls Try.prog 59 #[.slice A rs.length cap, .string key] w (NewestRefPost (nwRow rs key 4611686018427387904) w) := by
  have HNW := Lib.hid (last_ref w A cap rs key hA hfew)
  obtain ⟨k, s, Ab, bs, cb, d, hform, _, hst⟩ := row_form hA key 4611686018427387904
  have HFORM := Lib.hid hform
  have HST : Hid ((match nwRow rs key 4611686018427387904 with | none => 0 | some r => r.st) = s) := Lib.hid (by
    rcases hst with ⟨h, rfl, _⟩ | ⟨r, h, _, rfl, _⟩ <;> rw [h])
  obtain ⟨n, hn⟩ : ∃ n, rs.length = n := ⟨_, rfl⟩
  rw [hn] at HNW ⊢
  clear hA hn hform hfew hst
  go_enter Try.func59, Try.ntmps59
  go_wp2_with fail
  refine HNW.out.mono ?_; rintro e w2 ⟨rfl, ho2⟩
  have HO2 := Lib.hid (ho2.alloc (.cells #[.string k, .int .i64 s, .slice Ab bs.length cb, .bool d] 27))
  obtain ⟨is, his⟩ : ∃ is, (nwRow rs key 4611686018427387904).isSome = is := ⟨_, rfl⟩
  have HIS := Lib.hid his
  rw [his, HFORM.out]
  clear ho2 his HNW
  go_wp2_with fail
  go_ret2
  refine ⟨?_, HO2.out⟩
  show Ending.returned (.tuple #[.int .i64 s, .bool is]) = _
  rw [HST.out, HIS.out]

def GetRefPost (f : Option (List UInt8)) (w : World) (e : Ending) (w' : World) : Prop := (match f with
  | none => e = .returned (.tuple #[.slice none 0 0, .bool false])
  | some b => ∃ v, e = .returned (.tuple #[v, .bool true]) ∧ RowB w' w.heap.size v b) ∧ Only NoneOf w w'
set_option maxRecDepth 100000 in
set_option maxHeartbeats 1000000 in
theorem Get_ref (w : World) (A : Option Addr) (cap : Nat) (rs : List VRow) (key : ByteArray) (st : Int) (hA : RAt w A rs) (hfew : rs.length ≤ 2513169434916) (hbs : ∀ r ∈ rs, r.bs.length ≤ 4096) :
    Calls Try.prog 58 #[.slice A rs.length cap, .string key, .int .i64 st] w (GetRefPost ((nwRow rs key st).bind fun r => if r.dead then none else some r.bs) w) := by
  have HNW := Lib.hid (newest_ref w A cap rs key st hA hfew)
  obtain ⟨k, s, Ab, bs, cb, d, hform, hby, hst⟩ := row_form hA key st
  have HFORM := Lib.hid hform
  have HBY := Lib.hid hby
  have hcase : (((nwRow rs key st).bind fun r => if r.dead then none else some r.bs) = none ∧ ((nwRow rs key st).isSome = false ∨ (nwRow rs key st).isSome = true ∧ d = true)) ∨
      (((nwRow rs key st).bind fun r => if r.dead then none else some r.bs) = some bs ∧ (nwRow rs key st).isSome = true ∧ d = false ∧ bs.length ≤ 4096) := by
    rcases hst with ⟨h, rfl, rfl⟩ | ⟨r, h, _, rfl, rfl, rfl, _⟩
    · rw [h]; exact .inl ⟨rfl, .inl rfl⟩
    · have := hbs r (nwRow_mem h)
      rw [h]
      cases hd : r.dead
      · exact .inr ⟨by simp [hd], rfl, rfl, this⟩
      · exact .inl ⟨by simp [hd], .inr ⟨rfl, rfl⟩⟩
  obtain ⟨n, hn⟩ : ∃ n, rs.length = n := ⟨_, rfl⟩
  rw [hn] at HNW ⊢
  clear hA hn hform hfew hst hbs hby
  go_enter Try.func58, Try.ntmps58
  go_wp2_with fail
  refine HNW.out.mono ?_; rintro e w2 ⟨rfl, ho2⟩
  have HO2 := Lib.hid (ho2.alloc (.cells #[.string k, .int .i64 s, .slice Ab bs.length cb, .bool d] 27))
  have HOP := Lib.hid ho2
  obtain ⟨is, his⟩ : ∃ is, (nwRow rs key st).isSome = is := ⟨_, rfl⟩
  rw [his] at hcase
  rw [his, HFORM.out]
  clear ho2 his HNW
  rcases hcase with ⟨hf, rfl | ⟨rfl, rfl⟩⟩ | ⟨hf, rfl, rfl, hlen⟩
  · have HF := Lib.hid hf
    clear hf
    go_wp2_with fail
    go_ret2
    refine ⟨?_, HO2.out⟩
    rw [HF.out]
    rfl
  · have HF := Lib.hid hf
    clear hf
    go_wp2_with fail
    go_ret2
    refine ⟨?_, HO2.out⟩
    rw [HF.out]
    rfl
  · have HF := Lib.hid hf
    clear hf
    obtain ⟨i0, hi, hz0, hz1, hz3⟩ := info_parts info5
    have hz2 := HOP.out.size
    have HE := Lib.hid (own_empty (B := w.heap.size) (sz := 1) (Blk.new' (w2.alloc (.cells #[.string k, .int .i64 s, .slice Ab bs.length cb, .bool false] 27)) 5 #[] (n := w2.heap.size + 1) (by simp)) (by omega))
    have HNEW := Lib.hid (BytesAt.news (HBY.out.keep ((HO2.out.alloc (.cells #[] 5)))))
    obtain ⟨nb, hnb⟩ : ∃ nb, bs.length = nb := ⟨_, rfl⟩
    have HNB := Lib.hid hnb
    have HL := Lib.hid (show (bs.map byteV).length = nb * 1 by rw [List.length_map, hnb, Nat.mul_one])
    rw [hnb] at hlen HE HO2 HNEW ⊢
    clear hnb
    go_wp2_with (at_builtin; refine wpList_append_any rfl (.tmp 23) (.tmp 25) 25 rfl w.heap.size 5 i0 _ 1 1 Try.underlying25 hi hz0 hz1 hz3 rfl (by decide) _ 0 [] rfl HE.out Ab nb cb (bs.map byteV) rfl HL.out HNEW.out (one_bytes bs) (by unfold maxLen; omega) (by omega) (by simp; omega) ?_; intro v' w3 hown ho3 hat)
    have HOWN := Lib.hid hown
    have HO3 := Lib.hid (show Only NoneOf w w3 from (HO2.out.alloc (.cells #[] 5)).step ho3 (fun k hk e => by
      have e' : (Value.slice (some ⟨w2.heap.size + 1, 0, none⟩) 0 0).ownBlock = some k := e
      simp [Value.ownBlock] at e'
      omega))
    clear hown ho3 hat
    go_wp2_with fail
    go_ret2
    refine ⟨?_, HO3.out⟩
    rw [HF.out]
    refine ⟨_, rfl, ?_⟩
    show World.ownsRow w3 w.heap.size 5 1 v' bs.length (bs.map byteV)
    have := HOWN.out
    rw [Nat.zero_add, List.nil_append, ← HNB.out] at this
    exact this

end Go.Proofs.Ytnonnencdhogiaa

/-
  The reference of layer 14: an append to an empty list turns nothing; Apply.
-/
namespace Go.Proofs.Ytnonnencdhogiaa
open Go.RowKit

theorem run_append_base0 {P : Program} {w : World} (t ty e : TypeId) (i : TypeInfo) (ht : P.underlying t = some (.slice e)) (hi : P.info? e = some i) (ad : Addr) (A : Option Addr) (m c : Nat) (hm : 0 < m) (hb : m * i.bytes ≤ 140737488355328) :
    (Builtin.append_ #[t, t] ty #[.slice (some ad) 0 0, .slice A m c]).run P w = (Builtin.append_ #[t, t] ty #[.slice none 0 0, .slice A m c]).run P w := by
  have h1 : ¬ m = 0 := by omega
  have h2 : ¬ (281474976710656 : Nat) < m * i.bytes := by omega
  simp [Builtin.append_, run_underlying ht, sizeOf, typeInfo, hi, Builtin.lenOf, Builtin.firstCells, loadCells, loadCellsFrom, Builtin.nextslicecap, hm, h1, h2]

theorem wp_append_empty {P : Program} {w : World} {o : Oper} {a : Act} {K : Act → World → Prop} {Q : Exit → Act → World → Prop} (s x : Operand) (t : TypeId)
    (ho : o.op = .call { callee := .builtin .append, args := #[s, x], argTypes := #[t, t] })
    (base : Nat) (e : TypeId) (i : TypeInfo) (z : Value) (size bytes : Nat) (ht : P.underlying t = some (.slice e)) (hi : P.info? e = some i) (hz : i.zero = some z)
    (hsize : i.size = size) (hby : i.bytes = bytes) (hzs : z.cells.size = size) (hsz : 0 < size)
    (g : Nat) (hs : a.eval s = .slice (some ⟨g, 0, none⟩) 0 0) (hg : Blk w g e #[]) (hbg : base ≤ g)
    (A : Option Addr) (m c : Nat) (news : List Value) (hx : a.eval x = .slice A m c) (hl : news.length = m * size) (hnews : ∀ j u, news[j]? = some u → ∃ g off, A = some ⟨g, off, none⟩ ∧ w.cell? ⟨g, off + j, none⟩ = some u) (h1 : ∀ u ∈ news, u.oneCell' = true)
    (h63 : m ≤ maxLen) (hbytes : m * bytes ≤ 140737488355328) (hbase : base ≤ w.heap.size)
    (h : ∀ v' w', w'.ownsRow base e size v' m news → Only NoneOf w w' → K (a.put o.dst v') w') : o.wp P a w K Q := by
  rcases Nat.eq_zero_or_pos m with h0 | h0
  · subst h0
    obtain rfl : news = [] := List.eq_nil_of_length_eq_zero (by omega)
    have hown := own_empty (sz := size) hg hbg
    have hrun := run_append_owned_zero (P := P) (w := w) base t o.type e i size ht hi _ 0 [] hown A c
    unfold Oper.wp
    simp [execOp, ho, resolve, invoke, builtin, hs, hx, hrun, Result.andThen]
    exact h _ _ hown (Only.refl _ _)
  · have hlt : 0 < news.length := by rw [hl]; exact Nat.mul_pos h0 hsz
    obtain ⟨g1, off, rfl, _⟩ := hnews 0 news[0] (List.getElem?_eq_getElem hlt)
    have key : ({ o with op := .call { callee := .builtin .append, args := #[.const (.slice none 0 0), x], argTypes := #[t, t] } } : Oper).wp P a w K Q :=
      wp_append_lies w (.const (.slice none 0 0)) x t rfl base e i z size bytes ht hi hz hsize hby hzs hsz (.slice none 0 0) 0 [] rfl ⟨by simp, .inl ⟨rfl, rfl⟩⟩ ⟨g1, off, none⟩ m c news hx hl (fun j u hj => by
        obtain ⟨g2, o2, he, hc⟩ := hnews j u hj
        injection he with he
        injection he with e1 e2 _
        subst e1; subst e2
        have hadd : (⟨g1, off, none⟩ : Addr).add j = ⟨g1, off + j, none⟩ := by unfold Addr.add; split <;> simp_all
        rw [hadd]
        exact hc) h1 h0 (by rw [Nat.zero_add]; exact h63) (by rw [Nat.zero_add]; exact hbytes) hbase w.heap.size rfl fun g' cap w' h2 h3 h4 _ => by
          rw [Nat.zero_add, List.nil_append] at h2
          rw [Nat.zero_add]
          exact h _ _ h2 ((only_grown h3).mono fun k _ e => by simp [Value.ownBlock] at e)
    have hrun := run_append_base0 (P := P) (w := w) t o.type e i ht hi ⟨g, 0, none⟩ (some ⟨g1, off, none⟩) m c h0 (by rw [hby]; exact hbytes)
    have e1 : (execOp a.eval o).run P w = ((Builtin.append_ #[t, t] o.type #[.slice none 0 0, .slice (some ⟨g1, off, none⟩) m c]).run P w).andThen fun v w => .ok (.value v) w := by
      simp [execOp, ho, resolve, invoke, builtin, hs, hx, hrun]
    have e2 : (execOp a.eval ({ o with op := .call { callee := .builtin .append, args := #[.const (.slice none 0 0), x], argTypes := #[t, t] } } : Oper)).run P w = ((Builtin.append_ #[t, t] o.type #[.slice none 0 0, .slice (some ⟨g1, off, none⟩) m c]).run P w).andThen fun v w => .ok (.value v) w := by
      simp [execOp, resolve, invoke, builtin, hx]
      rfl
    unfold Oper.wp at key ⊢
    rw [e1]
    rw [e2] at key
    generalize (Builtin.append_ #[t, t] o.type #[.slice none 0 0, .slice (some ⟨g1, off, none⟩) m c]).run P w = res at key ⊢
    cases res with
    | ok v w' => exact key
    | halt x w' => exact key

/-- the cells of a list of rows, one behind the other -/
theorem vflat_get {rs : List VRow} {j : Nat} {u : Value} (h : (vflat rs)[j]? = some u) : ∃ r, rs[j / 4]? = some r ∧ r.cells[j % 4]? = some u := by
  have hl : j < (vflat rs).length := (List.getElem?_eq_some_iff.1 h).1
  rw [vflat_length] at hl
  have hi : j / 4 < rs.length := by omega
  refine ⟨rs[j / 4], List.getElem?_eq_getElem hi, ?_⟩
  have := flatMap_get VRow.cells 4 (fun _ => rfl) rs (j / 4) (j % 4) rs[j / 4] (List.getElem?_eq_getElem hi) (by omega)
  rw [show j / 4 * 4 + j % 4 = j by omega, h] at this
  exact this.symm
theorem RAt.news {w : World} {A : Option Addr} {rs : List VRow} (h : RAt w A rs) (j : Nat) (u : Value) (hj : (vflat rs)[j]? = some u) : ∃ g off, A = some ⟨g, off, none⟩ ∧ w.cell? ⟨g, off + j, none⟩ = some u := by
  obtain ⟨r, hr, hc⟩ := vflat_get hj
  obtain ⟨g, off, Ab, cb, hA, _, d0, d1, d2, d3, hv, _⟩ := h _ r hr
  refine ⟨g, off, hA, ?_⟩
  have hm : j % 4 = 0 ∨ j % 4 = 1 ∨ j % 4 = 2 ∨ j % 4 = 3 := by omega
  have hj' : j = j / 4 * 4 + j % 4 := by omega
  rcases hm with e | e | e | e <;> rw [e] at hc hj' <;> simp [VRow.cells] at hc <;> subst hc <;> rw [hj']
  · exact d0
  · rw [← Nat.add_assoc]; exact d1
  · rw [← Nat.add_assoc, hv]; exact d2
  · rw [← Nat.add_assoc]; exact d3
theorem RAt.one {w : World} {A : Option Addr} {rs : List VRow} (h : RAt w A rs) (u : Value) (hu : u ∈ vflat rs) : u.oneCell' = true := by
  obtain ⟨j, hj⟩ := List.getElem?_of_mem hu
  obtain ⟨r, hr, hc⟩ := vflat_get hj
  obtain ⟨g, off, Ab, cb, hA, _, d0, d1, d2, d3, hv, _⟩ := h _ r hr
  have hm : j % 4 = 0 ∨ j % 4 = 1 ∨ j % 4 = 2 ∨ j % 4 = 3 := by omega
  rcases hm with e | e | e | e <;> rw [e] at hc <;> simp [VRow.cells] at hc <;> subst hc
  · rfl
  · rfl
  · rw [hv]; rfl
  · rfl
/-- a list of rows of its own, read -/
theorem rat_own {w : World} {B : Nat} {v : Value} {rs : List VRow} (h : w.ownsRow B 27 4 v rs.length (vflat rs)) (hr : ∀ r ∈ rs, ∃ Ab cb, r.val = .slice Ab r.bs.length cb ∧ BytesAt w Ab r.bs ∧ r.key.size ≤ maxLen) : ∃ A cap, v = .slice A rs.length cap ∧ RAt w A rs := by
  obtain ⟨A, c, rfl⟩ := ownsRow_slice h
  refine ⟨A, c, rfl, fun i r hi => ?_⟩
  obtain ⟨Ab, cb, hv, hb, hk⟩ := hr r (List.mem_of_getElem? hi)
  rcases h.2 with ⟨h0, h1⟩ | ⟨g, cap, cur, hv', _, hb', hle, _, hs, hcur⟩
  · rw [List.eq_nil_of_length_eq_zero h1] at hi; cases hi
  · injection hv' with e1 e2 e3
    subst e1
    have hil : i < rs.length := (List.getElem?_eq_some_iff.1 hi).1
    have hcur' : cur.toList.take (rs.length * 4) = rs.flatMap VRow.cells := hcur
    have hc : ∀ j, j < 4 → w.cell? ⟨g, i * 4 + j, none⟩ = r.cells[j]? := fun j hj => by
      rw [Blk.cell (t := 27) (cs := cur) hb', ← flatMap_get VRow.cells 4 (fun _ => rfl) rs i j r hi hj, ← hcur', List.getElem?_take_of_lt (by omega), Array.getElem?_toList]
    exact ⟨g, 0, Ab, cb, rfl, (ownsRow_lt h (g := g) rfl).2, by rw [Nat.zero_add]; exact hc 0 (by omega), by rw [Nat.zero_add]; exact hc 1 (by omega), by rw [Nat.zero_add, hc 2 (by omega), ← hv]; rfl, by rw [Nat.zero_add]; exact hc 3 (by omega), hv, hb, hk⟩

end Go.Proofs.Ytnonnencdhogiaa

