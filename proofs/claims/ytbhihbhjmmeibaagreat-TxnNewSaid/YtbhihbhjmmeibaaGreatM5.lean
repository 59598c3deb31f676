/-
  Texts of this proof, laid together: Head2, T19, T20, T21, T22, T23.
-/
import Derived.Test.YtbhihbhjmmeibaaGreatM2
import Derived.Test.YtbhihbhjmmeibaaGreatM4
import Derived.Maps.AppendAt
/-
  A region that draws its order, with guards that are known, and with calls that turn memory in a forced order; behind it a tail in order.
-/
namespace Go.Proofs.YtbhihbhjmmeibaaGreat
open Go.RowKit

/-- what a value yields to a guard -/
def boolOf (v : Value) : Option Bool := match v with | .bool b => some b | _ => none
/-- is it wanted, where the guards' values are known? -/
def wantOf (gv : Nat → Option Bool) (o : Oper) : Bool := match o.guard with | none => true | some (g, b) => gv g == some b
def bindsOn (o : Oper) (j : Nat) : Bool := o.after.any fun e => Region.binds .any e && decide (e.on = j)
def headB2 (ops : Array Oper) (n : Nat) (srcs : List Nat) (tn : Nat → Option Nat) : Bool :=
  (List.range n).all fun i => match ops[i]? with
    | some o => (match o.guard with | none => true | some (g, _) => decide (g < n) && srcs.contains g && bindsOn o g) && o.dst.isSome && (o.after.all fun e => !Region.binds .any e || decide (e.on < i)) &&
        ((List.range n).all fun j => decide (i = j) || !decide (dstOf ops i = dstOf ops j)) && (match tn i with | some (t + 1) => (List.range n).any fun j => decide (tn j = some t) && bindsOn o j | _ => true) &&
        ((List.range n).all fun j => decide (i = j) || decide (tn i = none) || !decide (tn i = tn j))
    | none => false
def regionB2 (ops : Array Oper) (n m : Nat) (srcs : List Nat) (tn : Nat → Option Nat) : Bool :=
  (decide (n = ops.size) || (decide (n < ops.size) && Region.sinkB .any ops n && Region.chainB .any ops n)) && Region.seqB .any ops (ops.size - n) n (Array.ofFn fun i : Fin ops.size => decide (i.1 < n)) &&
    headB2 ops n srcs tn && ((List.range n).all fun i => decide (dstOf ops i < m))

theorem bindsOn_spec {o : Oper} {j : Nat} (h : bindsOn o j = true) : ∃ e ∈ o.after, Region.binds .any e = true ∧ e.on = j := by
  obtain ⟨i, hi, he⟩ := Array.any_eq_true.1 h
  simp only [Bool.and_eq_true, decide_eq_true_eq] at he
  exact ⟨_, Array.getElem_mem hi, he.1, he.2⟩

structure HSpec (ops : Array Oper) (n : Nat) (srcs : List Nat) (tn : Nat → Option Nat) (i : Nat) (o : Oper) : Prop where
  at_ : ops[i]? = some o
  guard : ∀ g b, o.guard = some (g, b) → g < n ∧ g ∈ srcs ∧ ∃ e ∈ o.after, Region.binds .any e = true ∧ e.on = g
  dst : o.dst = some (dstOf ops i)
  back : ∀ e ∈ o.after, Region.binds .any e = true → e.on < i
  apart : ∀ j, j < n → i ≠ j → dstOf ops i ≠ dstOf ops j
  turn : ∀ t, tn i = some (t + 1) → ∃ j, j < n ∧ tn j = some t ∧ ∃ e ∈ o.after, Region.binds .any e = true ∧ e.on = j
  one : ∀ j, j < n → i ≠ j → tn i ≠ none → tn i ≠ tn j

theorem headB2_spec {ops : Array Oper} {n : Nat} {srcs : List Nat} {tn : Nat → Option Nat} (h : headB2 ops n srcs tn = true) {i : Nat} (hi : i < n) : ∃ o, HSpec ops n srcs tn i o := by
  have h1 := List.all_eq_true.1 h i (List.mem_range.2 hi)
  cases ho : ops[i]? with
  | none => rw [ho] at h1; cases h1
  | some o =>
    rw [ho] at h1
    simp only [Bool.and_eq_true] at h1
    obtain ⟨⟨⟨⟨⟨h2, h3⟩, h4⟩, h5⟩, h6⟩, h7⟩ := h1
    refine ⟨o, ho, fun g b hg => ?_, ?_, fun e he hb => ?_, fun j hj hij => ?_, fun t ht => ?_, fun j hj hij hne => ?_⟩
    · rw [hg] at h2
      simp only [Bool.and_eq_true, decide_eq_true_eq, List.contains_iff_mem] at h2
      exact ⟨h2.1.1, h2.1.2, bindsOn_spec h2.2⟩
    · obtain ⟨d, hd⟩ := Option.isSome_iff_exists.1 h3
      simp [dstOf, ho, hd]
    · have := Array.all_eq_true_iff_forall_mem.1 h4 e he
      rw [hb] at this
      simpa using this
    · have := List.all_eq_true.1 h5 j (List.mem_range.2 hj)
      simp only [Bool.or_eq_true, decide_eq_true_eq, Bool.not_eq_true', decide_eq_false_iff_not] at this
      exact this.resolve_left hij
    · rw [ht] at h6
      obtain ⟨j, hj, hh⟩ := List.any_eq_true.1 h6
      simp only [Bool.and_eq_true, decide_eq_true_eq] at hh
      exact ⟨j, List.mem_range.1 hj, hh.1, bindsOn_spec hh.2⟩
    · have := List.all_eq_true.1 h7 j (List.mem_range.2 hj)
      simp only [Bool.or_eq_true, decide_eq_true_eq, Bool.not_eq_true', decide_eq_false_iff_not] at this
      rcases this with (h | h) | h
      · exact absurd h hij
      · exact absurd h hne
      · exact h

section
variable {P : Program} {ops : Array Oper} {n : Nat} {a0 : Act} {T : Nat → Value → World → Prop} {G : Nat → World → Prop} {S : Nat → Prop} {gv : Nat → Option Bool} {srcs : List Nat} {tn : Nat → Option Nat}

structure HInv2 (ops : Array Oper) (n : Nat) (a0 : Act) (T : Nat → Value → World → Prop) (G : Nat → World → Prop) (tn : Nat → Option Nat) (listed : Array Bool) (a : Act) (w : World) : Prop where
  defers : a.defers = a0.defers
  size : a.tmps.size = a0.tmps.size
  other : ∀ s, (∀ i, i < n → listed.getD i false = true → dstOf ops i ≠ s) → a.tmps.getD s undef = a0.tmps.getD s undef
  held : ∀ i, i < n → listed.getD i false = true → T i (a.tmps.getD (dstOf ops i) undef) w
  phase : ∃ k, G k w ∧ ∀ i t, i < n → tn i = some t → (listed.getD i false = true ↔ t < k)

/-- the phase behind an operation -/
def nextPh (tn : Nat → Option Nat) (i k : Nat) : Nat := if tn i = some k then k + 1 else k
/-- What an operation leaves. -/
def Left2 (T : Nat → Value → World → Prop) (G : Nat → World → Prop) (S : Nat → Prop) (tn : Nat → Option Nat) (i k : Nat) (o : Oper) (a : Act) (w : World) (a' : Act) (w' : World) : Prop :=
  ∃ v, a' = a.put o.dst v ∧ T i v w' ∧ G (nextPh tn i k) w' ∧ Only S w w'

theorem HInv2.put {listed : Array Bool} {a : Act} {w : World} (inv : HInv2 ops n a0 T G tn listed a w) (hb : headB2 ops n srcs tn = true) (hd : ∀ i, i < n → dstOf ops i < a0.tmps.size)
    (hT : ∀ i v w w', T i v w → Only S w w' → T i v w') {i : Nat} (hi : i < n) {o : Oper} (ho : ops[i]? = some o) (hun : listed.getD i true = false) {k : Nat} (hk : ∀ j t, j < n → tn j = some t → (listed.getD j false = true ↔ t < k))
    (hik : tn i = none ∨ tn i = some k) {a' : Act} {w' : World} (h : Left2 T G S tn i k o a w a' w') : HInv2 ops n a0 T G tn (listed.setIfInBounds i true) a' w' := by
  obtain ⟨v, rfl, hv, hg', ho'⟩ := h
  obtain ⟨o', sp⟩ := headB2_spec hb hi
  obtain rfl : o' = o := Option.some.inj (sp.at_.symm.trans ho)
  have hg := fun s => put_getD a (dstOf ops i) s v (by rw [inv.size]; exact hd i hi)
  rw [sp.dst]
  have hother : ∀ j, j ≠ i → (listed.setIfInBounds i true).getD j false = true → listed.getD j false = true := fun j hj hl => by rwa [getD_set_ne false (Ne.symm hj)] at hl
  have hself : (listed.setIfInBounds i true).getD i false = true := by
    have : i < listed.size := by
      rcases Nat.lt_or_ge i listed.size with h' | h'
      · exact h'
      · simp [Array.getElem?_eq_none h'] at hun
    simp [this]
  refine ⟨(put_defers _ _ _).trans inv.defers, (put_size _ _ _).trans inv.size, fun s hs => ?_, fun j hj hl => ?_, nextPh tn i k, hg', fun j t hj ht => ?_⟩
  · rw [hg, if_neg (hs i hi hself)]
    exact inv.other s fun j hj hl => hs j hj (getD_set_true hl)
  · by_cases hji : j = i
    · subst hji
      rw [hg, if_pos rfl]
      exact hv
    · rw [hg, if_neg (sp.apart j hj (Ne.symm hji))]
      exact hT _ _ _ _ (inv.held j hj (hother j hji hl)) ho'
  · unfold nextPh
    by_cases hji : j = i
    · subst hji
      rcases hik with hik | hik
      · rw [hik] at ht; cases ht
      · rw [hik] at ht
        injection ht with ht
        rw [if_pos hik]
        exact ⟨fun _ => by omega, fun _ => hself⟩
    · rw [getD_set_ne false (Ne.symm hji), hk j t hj ht]
      by_cases he : tn i = some k
      · rw [if_pos he]
        have : t ≠ k := fun e => sp.one j hj (Ne.symm hji) (by rw [he]; simp) (by rw [he, ht, e])
        constructor <;> intro h <;> omega
      · rw [if_neg he]

theorem HInv2.end {listed : Array Bool} {a : Act} {w : World} (inv : HInv2 ops n a0 T G tn listed a w) (hd : ∀ i, i < n → dstOf ops i < a0.tmps.size) :
    a = endFrame ops n a0 (fun i => a.tmps.getD (dstOf ops i) undef) := by
  obtain ⟨h1, h2, h3⟩ := foldl_put (fun s => a.tmps.getD s undef) (dstOf ops) (List.range n) a0 (fun i hi => hd i (List.mem_range.1 hi))
  refine act_ext (inv.defers.trans h1.symm) (inv.size.trans h2.symm) fun s => ?_
  unfold endFrame
  rw [h3 s]
  split
  · rfl
  · rename_i hs
    exact inv.other s fun i hi _ he => hs ⟨i, List.mem_range.2 hi, he⟩
end

section
variable {P : Program}
theorem head2_any {Q : Exit → Act → World → Prop} {l : List Oper} {a0 : Act} {W : World} (n m : Nat) (srcs : List Nat) (gv : Nat → Option Bool) (tn : Nat → Option Nat) (S : Nat → Prop) (G : Nat → World → Prop) (T : Nat → Value → World → Prop) (hsz : a0.tmps.size = m)
    (hB : regionB2 l.toArray n m srcs tn = true) (hskip : ∀ i o, i < n → l[i]? = some o → wantOf gv o = false → ∀ k, nextPh tn i k = k) (hgv : ∀ g, g ∈ srcs → ∀ v w, T g v w → boolOf v = gv g)
    (hT : ∀ i v w w', T i v w → Only S w w' → T i v w') (hG : G 0 { W with drawn := W.drawn + 1 })
    (hstep : ∀ i o, i < n → l[i]? = some o → ∀ a w k, G k w → (tn i = none ∨ tn i = some k) → (∀ s, (∀ j, j < n → dstOf l.toArray j ≠ s) → a.tmps.getD s undef = a0.tmps.getD s undef) →
      (∀ j, j < n → Region.waitsFor .any l.toArray i j = true → T j (a.tmps.getD (dstOf l.toArray j) undef) w) → if wantOf gv o = true then o.wp P a w (Left2 T G S tn i k o a w) Q else T i undef w)
    (hend : ∀ (V : Nat → Value) w k, G k w → (∀ i t, i < n → tn i = some t → t < k) → (∀ i, i < n → T i (V i) w) → wpList P l.toArray Q (l.drop n) (endFrame l.toArray n a0 V) w) :
    wpAny P .any l.toArray Q l.toArray.size (Array.replicate l.toArray.size false) a0 { W with drawn := W.drawn + 1 } := by
  simp only [regionB2, Bool.and_eq_true, Bool.or_eq_true, decide_eq_true_eq] at hB
  obtain ⟨⟨⟨hnn, hseq⟩, hb⟩, hd'⟩ := hB
  have hns : n ≤ l.toArray.size := by rcases hnn with h | ⟨⟨h, _⟩, _⟩ <;> omega
  have hd : ∀ i, i < n → dstOf l.toArray i < a0.tmps.size := fun i hi => by
    have := List.all_eq_true.1 hd' i (List.mem_range.2 hi)
    rw [hsz]
    simpa using this
  have hdl : (l.drop n).length = l.toArray.size - n := by simp
  have key : ∀ (f : Nat) (listed : Array Bool) (a : Act) (w : World), (List.range n).countP (fun i => !listed.getD i false) = f → HeadInv .any l.toArray n listed → HInv2 l.toArray n a0 T G tn listed a w →
      wpAny P .any l.toArray Q (f + (l.toArray.size - n)) listed a w := by
    intro f
    induction f with
    | zero =>
      intro listed a w hcount hinv inv
      have hl : ∀ i, i < n → listed.getD i false = true := fun i hi => by
        have := List.countP_eq_zero.1 hcount i (List.mem_range.2 hi)
        simpa using this
      have he : listed = Array.ofFn fun i : Fin l.toArray.size => decide (i.1 < n) := by
        refine Array.ext (by simp [hinv.size]) fun i h1 h2 => ?_
        rw [Array.getElem_ofFn]
        by_cases hi : i < n
        · have := hl i hi
          simpa [h1, hi] using this
        · have := hinv.tail i (by omega) (by rw [← hinv.size]; exact h1)
          simpa [h1, hi] using this
      obtain ⟨k, hk, hph⟩ := inv.phase
      have hend' := hend (fun i => a.tmps.getD (dstOf l.toArray i) undef) w k hk (fun i t hi ht => (hph i t hi ht).1 (hl i hi)) (fun i hi => inv.held i hi (hl i hi))
      rw [← inv.end hd] at hend'
      have := wpAny_of_seq (md := .any) (Q' := Q) (l.drop n) n listed a w (fun j => by simp [List.getElem?_drop]) (by rw [hdl, he]; exact hseq) hend'
      rw [hdl] at this
      rw [Nat.zero_add]
      exact this
    | succ f ih =>
      intro listed a w hcount hinv inv
      rw [show f + 1 + (l.toArray.size - n) = (f + (l.toArray.size - n)) + 1 by omega]
      obtain ⟨i0, hi0, hu0⟩ : ∃ i, i < n ∧ listed.getD i false = false := by
        have : 0 < (List.range n).countP (fun i => !listed.getD i false) := by omega
        obtain ⟨i, hi, hu⟩ := List.countP_pos_iff.1 this
        exact ⟨i, List.mem_range.1 hi, by simpa using hu⟩
      have hus : ∀ i, i < n → listed.getD i false = false → listed.getD i true = false := fun i hi hu => getD_in (by rw [hinv.size]; omega) hu
      have hready : ∀ i, i ∈ Region.ready .any l.toArray listed → i < n := fun i hi => by
        rcases Nat.lt_or_ge i n with h | h
        · exact h
        · rcases hnn with h' | ⟨⟨hn, hs⟩, hc⟩
          · obtain ⟨_, o, ho, _⟩ := mem_ready.1 hi
            have := (Array.getElem?_eq_some_iff.1 ho).1
            omega
          · exact absurd hi (tail_waits hs hc hn hinv _ i0 rfl hi0 (hus i0 hi0 hu0) i h)
      refine ⟨fun hr => ?_, fun i hi => ?_⟩
      · exfalso
        have : ∀ k i, i < k → i < n → listed.getD i false = false → ∃ j, j ∈ Region.ready .any l.toArray listed := by
          intro k
          induction k with
          | zero => intro i hi; omega
          | succ k ihk =>
            intro i hik hi hu
            by_cases hlow : ∃ j, j < i ∧ listed.getD j false = false
            · obtain ⟨j, hj, huj⟩ := hlow
              exact ihk j (by omega) (by omega) huj
            · obtain ⟨o, sp⟩ := headB2_spec hb hi
              refine ⟨i, mem_ready.2 ⟨hus i hi hu, o, sp.at_, fun e he hbe => ?_⟩⟩
              have hlt := sp.back e he hbe
              cases hle : listed.getD e.on false with
              | true => rfl
              | false => exact absurd ⟨e.on, hlt, hle⟩ hlow
        obtain ⟨j, hj⟩ := this (i0 + 1) i0 (by omega) hi0 hu0
        rw [hr] at hj
        cases hj
      · have hin := hready i hi
        obtain ⟨hun, o, ho, hall⟩ := mem_ready.1 hi
        obtain ⟨o', sp⟩ := headB2_spec hb hin
        obtain rfl : o' = o := Option.some.inj (sp.at_.symm.trans ho)
        obtain ⟨k, hk, hph⟩ := inv.phase
        have hik : tn i = none ∨ tn i = some k := by
          cases ht : tn i with
          | none => exact .inl rfl
          | some t =>
            refine .inr (congrArg some ?_)
            have h1 : ¬ t < k := fun h => by
              have := (hph i t hin ht).2 h
              rw [getD_both hun] at this
              cases this
            cases t with
            | zero =>
              rcases Nat.eq_zero_or_pos k with h | h
              · exact h.symm
              · omega
            | succ t =>
              obtain ⟨j, hj, htj, e, he, hbe, hon⟩ := sp.turn t ht
              have := (hph j t hj htj).1 (by rw [← hon]; exact hall e he hbe)
              omega
        have hw := hstep i o' hin (by simpa using ho) a w k hk hik (fun s hs => inv.other s fun j hj _ => hs j hj) (fun j hj hwt => by
          obtain ⟨oj, hoj, e, he, hbe, hon⟩ := Region.waitsFor_spec hwt
          obtain rfl : oj = o' := Option.some.inj (hoj.symm.trans ho)
          have := hall e he hbe
          rw [hon] at this
          exact inv.held j hj this)
        have hwant : Region.wanted o' (yielded l.toArray a.tmps) = wantOf gv o' := by
          unfold Region.wanted wantOf
          cases hgd : o'.guard with
          | none => rfl
          | some gb =>
            obtain ⟨g, b⟩ := gb
            obtain ⟨hgn, hgs, e, he, hbe, hon⟩ := sp.guard g b hgd
            have hlg : listed.getD g false = true := by rw [← hon]; exact hall e he hbe
            have hTg := hgv g hgs _ _ (inv.held g hgn hlg)
            obtain ⟨og, spg⟩ := headB2_spec hb hgn
            have hy : yielded l.toArray a.tmps g = boolOf (a.tmps.getD (dstOf l.toArray g) undef) := by
              unfold yielded
              rw [spg.at_, Option.bind_some, spg.dst, Option.bind_some]
              have hlt : dstOf l.toArray g < a.tmps.size := by rw [inv.size]; exact hd g hgn
              rw [Array.getElem?_eq_getElem hlt]
              simp only [Array.getD_eq_getD_getElem?, Array.getElem?_eq_getElem hlt, Option.getD_some]
              cases a.tmps[dstOf l.toArray g] <;> rfl
            simp only
            rw [hy, hTg]
        have hfin : ∀ a' w', Left2 T G S tn i k o' a w a' w' → wpAny P .any l.toArray Q (f + (l.toArray.size - n)) (listed.setIfInBounds i true) a' w' := fun a' w' h' => ih _ a' w' (by
          have hself : (listed.setIfInBounds i true).getD i false = true := by
            have : i < listed.size := by rw [hinv.size]; omega
            simp [this]
          have := countP_less (fun i => !listed.getD i false) (fun j => !(listed.setIfInBounds i true).getD j false) i (List.range n) List.nodup_range (List.mem_range.2 hin) (by rw [getD_both hun]; rfl) (by rw [hself]; rfl) (fun j hj => by rw [getD_set_ne false (Ne.symm hj)])
          omega) (hinv.set hi hin) (inv.put hb hd hT hin ho hun hph hik h')
        unfold wpOp
        simp only [ho]
        rw [hwant]
        cases hwv : wantOf gv o'
        · rw [hwv] at hw
          rw [if_neg (by simp)] at hw
          rw [if_neg (by simp)]
          exact hfin _ _ ⟨undef, rfl, hw, by
            have hnp : nextPh tn i k = k := hskip i o' hin (by simpa using ho) hwv k
            rw [hnp]
            exact hk, Only.refl _ _⟩
        · rw [hwv, if_pos rfl] at hw
          rw [if_pos rfl]
          exact .inl (Oper.wp_mono hfin hw)
  have h0 := key n (Array.replicate l.toArray.size false) a0 { W with drawn := W.drawn + 1 } (by
      rw [List.countP_eq_length.2 (fun i _ => by rw [getD_replicate_false]; rfl)]
      simp)
    ⟨by simp, fun j oj _ hl => (by rw [getD_replicate_false] at hl; cases hl), fun t _ ht => getD_in (by simpa using ht) (getD_replicate_false _ _)⟩
    ⟨rfl, rfl, fun _ _ => rfl, fun i _ hl => (by rw [getD_replicate_false] at hl; cases hl), 0, hG, fun i t _ _ => ⟨fun hl => (by rw [getD_replicate_false] at hl; cases hl), fun h => (by omega)⟩⟩
  rw [show n + (l.toArray.size - n) = l.toArray.size by omega] at h0
  exact h0
end

section
variable {F : Fence} {n' : Nat} {P : Program}
theorem head2_anyIn {Q : Exit → Act → World → Prop} {l : List Oper} {a0 : Act} {W : World} (n m : Nat) (srcs : List Nat) (gv : Nat → Option Bool) (tn : Nat → Option Nat) (S : Nat → Prop) (G : Nat → World → Prop) (T : Nat → Value → World → Prop) (hsz : a0.tmps.size = m)
    (hB : regionB2 l.toArray n m srcs tn = true) (hskip : ∀ i o, i < n → l[i]? = some o → wantOf gv o = false → ∀ k, nextPh tn i k = k) (hgv : ∀ g, g ∈ srcs → ∀ v w, T g v w → boolOf v = gv g)
    (hT : ∀ i v w w', T i v w → Only S w w' → T i v w') (hG : G 0 { W with drawn := W.drawn + 1 })
    (habout : ∀ (o : Oper) (a : Act) (w : World) (f : FuncId), o.about P w a.eval = some f → F.fn f)
    (hop : ∀ (o : Oper) (a : Act) (w : World) (K : Act → World → Prop), o ∈ l.take n → o.wp P a w K Q → o.wpIn F n' P a w K Q)
    (hstep : ∀ i o, i < n → l[i]? = some o → ∀ a w k, G k w → (tn i = none ∨ tn i = some k) → (∀ s, (∀ j, j < n → dstOf l.toArray j ≠ s) → a.tmps.getD s undef = a0.tmps.getD s undef) →
      (∀ j, j < n → Region.waitsFor .any l.toArray i j = true → T j (a.tmps.getD (dstOf l.toArray j) undef) w) → if wantOf gv o = true then o.wp P a w (Left2 T G S tn i k o a w) Q else T i undef w)
    (hend : ∀ (V : Nat → Value) w k, G k w → (∀ i t, i < n → tn i = some t → t < k) → (∀ i, i < n → T i (V i) w) → wpListIn F n' P l.toArray Q (l.drop n) (endFrame l.toArray n a0 V) w) :
    wpAnyIn F n' P .any l.toArray Q l.toArray.size (Array.replicate l.toArray.size false) a0 { W with drawn := W.drawn + 1 } := by
  simp only [regionB2, Bool.and_eq_true, Bool.or_eq_true, decide_eq_true_eq] at hB
  obtain ⟨⟨⟨hnn, hseq⟩, hb⟩, hd'⟩ := hB
  have hns : n ≤ l.toArray.size := by rcases hnn with h | ⟨⟨h, _⟩, _⟩ <;> omega
  have hd : ∀ i, i < n → dstOf l.toArray i < a0.tmps.size := fun i hi => by
    have := List.all_eq_true.1 hd' i (List.mem_range.2 hi)
    rw [hsz]
    simpa using this
  have hdl : (l.drop n).length = l.toArray.size - n := by simp
  have key : ∀ (f : Nat) (listed : Array Bool) (a : Act) (w : World), (List.range n).countP (fun i => !listed.getD i false) = f → HeadInv .any l.toArray n listed → HInv2 l.toArray n a0 T G tn listed a w →
      wpAnyIn F n' P .any l.toArray Q (f + (l.toArray.size - n)) listed a w := by
    intro f
    induction f with
    | zero =>
      intro listed a w hcount hinv inv
      have hl : ∀ i, i < n → listed.getD i false = true := fun i hi => by
        have := List.countP_eq_zero.1 hcount i (List.mem_range.2 hi)
        simpa using this
      have he : listed = Array.ofFn fun i : Fin l.toArray.size => decide (i.1 < n) := by
        refine Array.ext (by simp [hinv.size]) fun i h1 h2 => ?_
        rw [Array.getElem_ofFn]
        by_cases hi : i < n
        · have := hl i hi
          simpa [h1, hi] using this
        · have := hinv.tail i (by omega) (by rw [← hinv.size]; exact h1)
          simpa [h1, hi] using this
      obtain ⟨k, hk, hph⟩ := inv.phase
      have hend' := hend (fun i => a.tmps.getD (dstOf l.toArray i) undef) w k hk (fun i t hi ht => (hph i t hi ht).1 (hl i hi)) (fun i hi => inv.held i hi (hl i hi))
      rw [← inv.end hd] at hend'
      have := wpAnyIn_of_seq (md := .any) (Q' := Q) (l.drop n) n listed a w (fun j => by simp [List.getElem?_drop]) (by rw [hdl, he]; exact hseq) hend'
      rw [hdl] at this
      rw [Nat.zero_add]
      exact this
    | succ f ih =>
      intro listed a w hcount hinv inv
      rw [show f + 1 + (l.toArray.size - n) = (f + (l.toArray.size - n)) + 1 by omega]
      obtain ⟨i0, hi0, hu0⟩ : ∃ i, i < n ∧ listed.getD i false = false := by
        have : 0 < (List.range n).countP (fun i => !listed.getD i false) := by omega
        obtain ⟨i, hi, hu⟩ := List.countP_pos_iff.1 this
        exact ⟨i, List.mem_range.1 hi, by simpa using hu⟩
      have hus : ∀ i, i < n → listed.getD i false = false → listed.getD i true = false := fun i hi hu => getD_in (by rw [hinv.size]; omega) hu
      have hready : ∀ i, i ∈ Region.ready .any l.toArray listed → i < n := fun i hi => by
        rcases Nat.lt_or_ge i n with h | h
        · exact h
        · rcases hnn with h' | ⟨⟨hn, hs⟩, hc⟩
          · obtain ⟨_, o, ho, _⟩ := mem_ready.1 hi
            have := (Array.getElem?_eq_some_iff.1 ho).1
            omega
          · exact absurd hi (tail_waits hs hc hn hinv _ i0 rfl hi0 (hus i0 hi0 hu0) i h)
      refine ⟨fun hr => ?_, fun i hi => ?_⟩
      · exfalso
        have : ∀ k i, i < k → i < n → listed.getD i false = false → ∃ j, j ∈ Region.ready .any l.toArray listed := by
          intro k
          induction k with
          | zero => intro i hi; omega
          | succ k ihk =>
            intro i hik hi hu
            by_cases hlow : ∃ j, j < i ∧ listed.getD j false = false
            · obtain ⟨j, hj, huj⟩ := hlow
              exact ihk j (by omega) (by omega) huj
            · obtain ⟨o, sp⟩ := headB2_spec hb hi
              refine ⟨i, mem_ready.2 ⟨hus i hi hu, o, sp.at_, fun e he hbe => ?_⟩⟩
              have hlt := sp.back e he hbe
              cases hle : listed.getD e.on false with
              | true => rfl
              | false => exact absurd ⟨e.on, hlt, hle⟩ hlow
        obtain ⟨j, hj⟩ := this (i0 + 1) i0 (by omega) hi0 hu0
        rw [hr] at hj
        cases hj
      · have hin := hready i hi
        obtain ⟨hun, o, ho, hall⟩ := mem_ready.1 hi
        obtain ⟨o', sp⟩ := headB2_spec hb hin
        obtain rfl : o' = o := Option.some.inj (sp.at_.symm.trans ho)
        obtain ⟨k, hk, hph⟩ := inv.phase
        have hik : tn i = none ∨ tn i = some k := by
          cases ht : tn i with
          | none => exact .inl rfl
          | some t =>
            refine .inr (congrArg some ?_)
            have h1 : ¬ t < k := fun h => by
              have := (hph i t hin ht).2 h
              rw [getD_both hun] at this
              cases this
            cases t with
            | zero =>
              rcases Nat.eq_zero_or_pos k with h | h
              · exact h.symm
              · omega
            | succ t =>
              obtain ⟨j, hj, htj, e, he, hbe, hon⟩ := sp.turn t ht
              have := (hph j t hj htj).1 (by rw [← hon]; exact hall e he hbe)
              omega
        have hw := hstep i o' hin (by simpa using ho) a w k hk hik (fun s hs => inv.other s fun j hj _ => hs j hj) (fun j hj hwt => by
          obtain ⟨oj, hoj, e, he, hbe, hon⟩ := Region.waitsFor_spec hwt
          obtain rfl : oj = o' := Option.some.inj (hoj.symm.trans ho)
          have := hall e he hbe
          rw [hon] at this
          exact inv.held j hj this)
        have hwant : Region.wanted o' (yielded l.toArray a.tmps) = wantOf gv o' := by
          unfold Region.wanted wantOf
          cases hgd : o'.guard with
          | none => rfl
          | some gb =>
            obtain ⟨g, b⟩ := gb
            obtain ⟨hgn, hgs, e, he, hbe, hon⟩ := sp.guard g b hgd
            have hlg : listed.getD g false = true := by rw [← hon]; exact hall e he hbe
            have hTg := hgv g hgs _ _ (inv.held g hgn hlg)
            obtain ⟨og, spg⟩ := headB2_spec hb hgn
            have hy : yielded l.toArray a.tmps g = boolOf (a.tmps.getD (dstOf l.toArray g) undef) := by
              unfold yielded
              rw [spg.at_, Option.bind_some, spg.dst, Option.bind_some]
              have hlt : dstOf l.toArray g < a.tmps.size := by rw [inv.size]; exact hd g hgn
              rw [Array.getElem?_eq_getElem hlt]
              simp only [Array.getD_eq_getD_getElem?, Array.getElem?_eq_getElem hlt, Option.getD_some]
              cases a.tmps[dstOf l.toArray g] <;> rfl
            simp only
            rw [hy, hTg]
        have hfin : ∀ a' w', Left2 T G S tn i k o' a w a' w' → wpAnyIn F n' P .any l.toArray Q (f + (l.toArray.size - n)) (listed.setIfInBounds i true) a' w' := fun a' w' h' => ih _ a' w' (by
          have hself : (listed.setIfInBounds i true).getD i false = true := by
            have : i < listed.size := by rw [hinv.size]; omega
            simp [this]
          have := countP_less (fun i => !listed.getD i false) (fun j => !(listed.setIfInBounds i true).getD j false) i (List.range n) List.nodup_range (List.mem_range.2 hin) (by rw [getD_both hun]; rfl) (by rw [hself]; rfl) (fun j hj => by rw [getD_set_ne false (Ne.symm hj)])
          omega) (hinv.set hi hin) (inv.put hb hd hT hin ho hun hph hik h')
        unfold wpOpIn
        simp only [ho]
        rw [hwant]
        cases hwv : wantOf gv o'
        · rw [hwv] at hw
          rw [if_neg (by simp)] at hw
          rw [if_neg (by simp)]
          exact ⟨fun f hf => habout _ _ _ f hf, hfin _ _ ⟨undef, rfl, hw, by
            have hnp : nextPh tn i k = k := hskip i o' hin (by simpa using ho) hwv k
            rw [hnp]
            exact hk, Only.refl _ _⟩⟩
        · rw [hwv, if_pos rfl] at hw
          rw [if_pos rfl]
          exact Oper.wpIn_mono hfin (hop o' a w _ (by
            have hlo : l[i]? = some o' := by simpa using ho
            exact List.mem_of_getElem? (i := i) (by rw [List.getElem?_take_of_lt hin]; exact hlo)) hw)
  have h0 := key n (Array.replicate l.toArray.size false) a0 { W with drawn := W.drawn + 1 } (by
      rw [List.countP_eq_length.2 (fun i _ => by rw [getD_replicate_false]; rfl)]
      simp)
    ⟨by simp, fun j oj _ hl => (by rw [getD_replicate_false] at hl; cases hl), fun t _ ht => getD_in (by simpa using ht) (getD_replicate_false _ _)⟩
    ⟨rfl, rfl, fun _ _ => rfl, fun i _ hl => (by rw [getD_replicate_false] at hl; cases hl), 0, hG, fun i t _ _ => ⟨fun hl => (by rw [getD_replicate_false] at hl; cases hl), fun h => (by omega)⟩⟩
  rw [show n + (l.toArray.size - n) = l.toArray.size by omega] at h0
  exact h0
end

theorem wp_region_head2 {P : Program} {id : Nat} {Q : Exit → Act → World → Prop} {l : List Oper} {a0 : Act} {W : World} (n m : Nat) (srcs : List Nat) (gv : Nat → Option Bool) (tn : Nat → Option Nat) (S : Nat → Prop) (G : Nat → World → Prop) (T : Nat → Value → World → Prop) (hsz : a0.tmps.size = m) (hm : P.follows .mixedOrders = true)
    (hB : regionB2 l.toArray n m srcs tn = true) (hskip : ∀ i o, i < n → l[i]? = some o → wantOf gv o = false → ∀ k, nextPh tn i k = k) (hgv : ∀ g, g ∈ srcs → ∀ v w, T g v w → boolOf v = gv g)
    (hT : ∀ i v w w', T i v w → Only S w w' → T i v w') (hG : G 0 { W with drawn := W.drawn + 1 })
    (hstep : ∀ i o, i < n → l[i]? = some o → ∀ a w k, G k w → (tn i = none ∨ tn i = some k) → (∀ s, (∀ j, j < n → dstOf l.toArray j ≠ s) → a.tmps.getD s undef = a0.tmps.getD s undef) →
      (∀ j, j < n → Region.waitsFor .any l.toArray i j = true → T j (a.tmps.getD (dstOf l.toArray j) undef) w) → if wantOf gv o = true then o.wp P a w (Left2 T G S tn i k o a w) Q else T i undef w)
    (hend : ∀ (V : Nat → Value) w k, G k w → (∀ i t, i < n → tn i = some t → t < k) → (∀ i, i < n → T i (V i) w) → wpList P l.toArray Q (l.drop n) (endFrame l.toArray n a0 V) w) :
    (Code.region id l.toArray true).wp P Q a0 W :=
  wp_region_any hm (head2_any n m srcs gv tn S G T hsz hB hskip hgv hT hG hstep hend)

/-- The same in a round. -/
theorem wpIn_region_head2R {P : Program} {id r n' : Nat} {Q : Exit → Act → World → Prop} {l : List Oper} {a0 : Act} {W : World} (n m : Nat) (srcs : List Nat) (gv : Nat → Option Bool) (tn : Nat → Option Nat) (S : Nat → Prop) (G : Nat → World → Prop) (T : Nat → Value → World → Prop) (hsz : a0.tmps.size = m) (hm : P.follows .mixedOrders = true)
    (hB : regionB2 l.toArray n m srcs tn = true) (hnd : noDefers (l.take n) = true) (hskip : ∀ i o, i < n → l[i]? = some o → wantOf gv o = false → ∀ k, nextPh tn i k = k) (hgv : ∀ g, g ∈ srcs → ∀ v w, T g v w → boolOf v = gv g)
    (hT : ∀ i v w w', T i v w → Only S w w' → T i v w') (hG : G 0 { W with drawn := W.drawn + 1 })
    (hstep : ∀ i o, i < n → l[i]? = some o → ∀ a w k, G k w → (tn i = none ∨ tn i = some k) → (∀ s, (∀ j, j < n → dstOf l.toArray j ≠ s) → a.tmps.getD s undef = a0.tmps.getD s undef) →
      (∀ j, j < n → Region.waitsFor .any l.toArray i j = true → T j (a.tmps.getD (dstOf l.toArray j) undef) w) → if wantOf gv o = true then o.wp P a w (Left2 T G S tn i k o a w) Q else T i undef w)
    (hend : ∀ (V : Nat → Value) w k, G k w → (∀ i t, i < n → tn i = some t → t < k) → (∀ i, i < n → T i (V i) w) → wpListIn (Fence.wide.inRound r) n' P l.toArray Q (l.drop n) (endFrame l.toArray n a0 V) w) :
    (Code.region id l.toArray true).wpIn (Fence.wide.inRound r) n' P Q a0 W :=
  wpIn_region_any hm (head2_anyIn n m srcs gv tn S G T hsz hB hskip hgv hT hG (fun _ _ _ _ _ => trivial) (fun _ _ _ _ ho h => wpIn_of_wp_round (noDefers_spec hnd ho) h) hstep hend)

section
variable {P : Program} {T : Nat → Value → World → Prop} {G : Nat → World → Prop} {S : Nat → Prop} {tn : Nat → Option Nat} {i k : Nat} {o : Oper} {a : Act} {w : World} {Q : Exit → Act → World → Prop}
/-- a value, nothing turned -/
theorem left2_value (v : Value) (ho : (execOp a.eval o).run P w = .ok (.value v) w) (hv : T i v w) (hn : tn i = none) (hg : G k w) : o.wp P a w (Left2 T G S tn i k o a w) Q := by
  unfold Oper.wp
  rw [ho]
  exact ⟨v, rfl, hv, by unfold nextPh; rw [if_neg (by rw [hn]; simp)]; exact hg, Only.refl _ _⟩
/-- a row of cells loaded -/
theorem left2_load (ty : TypeId) (x : Operand) (g : Nat) (t : TypeId) (cs : Array Value) (d : TypeDesc) (ho : o.op = .load ty x) (hx : a.eval x = .pointer (some ⟨g, 0, none⟩)) (hB : Blk w g t cs)
    (hu : P.underlying ty = some d) (hd : (match d with | .struct _ | .array _ _ => true | _ => false) = true) (hi : (P.info? ty).map (·.size) = some cs.size) (hv : T i (.agg cs) w) (hn : tn i = none) (hg : G k w) : o.wp P a w (Left2 T G S tn i k o a w) Q :=
  left2_value _ (by
    unfold execOp
    simp only [ho, hx, Instr.loadAt, Instr.sureAddr, Sem.run_bind, Sem.run_pure, Result.andThen_ok, run_loadVar_row w g t ty cs _ d hB hu hd hi]) hv hn hg
/-- a call that makes memory -/
theorem left2_calls (f : FuncId) (args : Array Value) (ho : (execOp a.eval o).run P w = .ok (.enter f args) w) (hc : Calls P f args w fun e w' => ∃ v, e = .returned v ∧ T i v w' ∧ Only NoneOf w w') (hn : tn i = none) (hg : ∀ w', Only NoneOf w w' → G k w') : o.wp P a w (Left2 T G S tn i k o a w) Q := by
  unfold Oper.wp
  rw [ho]
  exact hc.mono fun e w' ⟨v, he, ht, hw⟩ => by
    subst he
    exact ⟨v, rfl, ht, by unfold nextPh; rw [if_neg (by rw [hn]; simp)]; exact hg w' hw, hw.mono fun _ _ h => h.elim⟩
/-- a call that turns memory -/
theorem left2_turns (f : FuncId) (args : Array Value) (ho : (execOp a.eval o).run P w = .ok (.enter f args) w) (hc : Calls P f args w fun e w' => ∃ v, e = .returned v ∧ T i v w' ∧ G (k + 1) w' ∧ Only S w w') (hn : tn i = some k) : o.wp P a w (Left2 T G S tn i k o a w) Q := by
  unfold Oper.wp
  rw [ho]
  exact hc.mono fun e w' ⟨v, he, ht, hg, hw⟩ => by
    subst he
    exact ⟨v, rfl, ht, by unfold nextPh; rw [if_pos hn]; exact hg, hw⟩
end
end Go.Proofs.YtbhihbhjmmeibaaGreat

/-
  Layer 17: a transaction's Get: what the source has.
-/
namespace Go.Proofs.YtbhihbhjmmeibaaGreat
open Go.RowKit Go.Shelf

/-- a value that a source tells -/
def SrcV (f : Option (List UInt8)) (S : Nat → Prop) (v : Value) (u : World) : Prop := match f with
  | none => v = .slice none 0 0
  | some bs => ∃ A c, v = .slice A bs.length c ∧ BytesAt u A bs ∧ bs.length ≤ 35184372088832 ∧ (bs ≠ [] → ∀ g off, A = some ⟨g, off, none⟩ → ¬ S g)
theorem SrcV.only {f : Option (List UInt8)} {S : Nat → Prop} {v : Value} {u u' : World} (h : SrcV f S v u) (ho : Only S u u') : SrcV f S v u' := by
  cases f with
  | none => exact h
  | some bs =>
    obtain ⟨A, c, h1, h2, h3, h4⟩ := h
    exact ⟨A, c, h1, h2.turn ho h4, h3, h4⟩
/-- what a source's Get tells -/
def SrcGot (f : Option (List UInt8)) (S : Nat → Prop) (QG : World → World → Prop) (u : World) (e : Ending) (u' : World) : Prop :=
  (∃ v, e = .returned (.tuple #[v, .bool f.isSome]) ∧ SrcV f S v u') ∧ QG u u' ∧ Only S u u'

/-- what region 15 has made -/
def GtT (t k : Nat) (key : ByteArray) (iv : Value) (A : Option Addr) (n c : Nat) (pk : Addr) (y : Int) (f : Option (List UInt8)) (S : Nat → Prop) : Nat → Value → World → Prop
  | 0, x, _ => x = iv
  | 1, x, _ => x = .string key
  | 2, x, _ => x = .pointer (some ⟨t, 0, none⟩)
  | 3, x, _ => x = .pointer (some ⟨t, 0, none⟩)
  | 4, x, _ => x = .pointer (some ⟨t, 1, none⟩)
  | 5, x, _ => x = .slice A n c
  | 6, x, _ => x = .int .i64 (k : Int)
  | 7, x, _ => x = .pointer (some pk)
  | 8, x, _ => x = .int .i64 y
  | 9, x, _ => x = .func (.method "Get") #[iv] #[]
  | 10, x, _ => x = .func (.method "Get") #[iv] #[]
  | 11, x, _ => x = iv
  | 12, x, u => ∃ v, x = .tuple #[v, .bool f.isSome] ∧ SrcV f S v u
  | 13, x, u => ∃ v, x = .tuple #[v, .bool f.isSome] ∧ SrcV f S v u
  | 14, x, u => SrcV f S x u
  | 15, x, _ => x = .bool f.isSome
  | 16, x, u => SrcV f S x u
  | _, _, _ => True
theorem GtT_keep (t k : Nat) (key : ByteArray) (iv : Value) (A : Option Addr) (n c : Nat) (pk : Addr) (y : Int) (f : Option (List UInt8)) (S : Nat → Prop) (i : Nat) (x : Value) (w w' : World) (h : GtT t k key iv A n c pk y f S i x w) (ho : Only S w w') : GtT t k key iv A n c pk y f S i x w' :=
  match i, h with
  | 0, h | 1, h | 2, h | 3, h | 4, h | 5, h | 6, h | 7, h | 8, h | 9, h | 10, h | 11, h | 15, h => h
  | 12, ⟨v, h1, h2⟩ => ⟨v, h1, h2.only ho⟩
  | 13, ⟨v, h1, h2⟩ => ⟨v, h1, h2.only ho⟩
  | 14, h => SrcV.only h ho
  | 16, h => SrcV.only h ho
  | _ + 17, _ => trivial
def GtG (w2 : World) (S : Nat → Prop) (QG : World → World → Prop) : Nat → World → Prop
  | 0, u => Only NoneOf w2 u
  | _ + 1, u => Only S w2 u ∧ ∃ u1 u2, Only NoneOf w2 u1 ∧ QG u1 u2 ∧ u1.heap.size ≤ u2.heap.size ∧ Only NoneOf u2 u
theorem GtG.only {w2 : World} {S : Nat → Prop} {QG : World → World → Prop} : ∀ {k : Nat} {u : World}, GtG w2 S QG k u → Only S w2 u
  | 0, _, h => h.mono fun _ _ h => h.elim
  | _ + 1, _, h => h.1
theorem GtG.keep {w2 : World} {S : Nat → Prop} {QG : World → World → Prop} : ∀ {k : Nat} {u u' : World}, GtG w2 S QG k u → Only NoneOf u u' → GtG w2 S QG k u'
  | 0, _, _, h, ho => Only.trans h ho
  | _ + 1, _, _, ⟨h1, u1, u2, h2, h3, h4, h5⟩, ho => ⟨h1.trans (ho.mono fun _ _ h => h.elim), u1, u2, h2, h3, h4, h5.trans ho⟩

set_option maxRecDepth 100000 in
set_option maxHeartbeats 2000000 in
theorem txGet_src (w : World) (t p m place N : Nat) (snap : List Int) (ws : List We) (ended : Bool) (U : Nat → Prop) (h : TxR w t p m U place snap ws ended N) (k : Nat) (key : ByteArray) (hkl : key.size ≤ maxLen) (tt : TypeId) (rv : Value) (hc : getE ended snap k key = 0)
    (hno : (look ws key.data.toList).isSome = false ∨ k ≠ place) {fG fH fS : Nat} (sm : SrcM tt rv fG fH fS) (hz : Int) (cH : ∀ u, Only NoneOf w u → Calls Tryz.prog fH #[rv] u fun e u' => e = .returned (.int .i64 hz) ∧ u = u') (y : Int) (hy : snap[k]? = some y) (hlt : ¬ y < hz) (f : Option (List UInt8)) (S : Nat → Prop) (hSU : ∀ j, S j → U j) (QG : World → World → Prop)
    (cG : ∀ u, Only NoneOf w u → Calls Tryz.prog fG #[rv, .string key, .int .i64 y] u (SrcGot f S QG u)) :
    Calls Tryz.prog 38 #[.pointer (some ⟨t, 0, none⟩), .int .i64 k, .string key, .iface tt rv] w fun e w' => TGet (f.getD []) f.isSome 0 w e w' ∧ ∃ u u', Only NoneOf w u ∧ QG u u' ∧ u.heap.size ≤ u'.heap.size ∧ Only NoneOf u' w' := by
  obtain ⟨h0, hk, k', y', hkp, hy', hy0⟩ := getE_zero hc
  obtain rfl : k' = k := by omega
  obtain rfl : y' = y := by rw [hy] at hy'; injection hy' with hy'; exact hy'.symm
  have HOP := Lib.hid (open_is w t p m place N snap ws ended U h (k' : Int))
  have HIK := Lib.hid (isKey_is w key)
  rw [h0] at HOP
  rw [decide_eq_true hk] at HIK
  have HWG := Lib.hid ((wgetR w p m N _ ws h.set key hkl).mono fun _ _ hh => wget_form hh)
  obtain ⟨A, c, h1, h2, h3⟩ := h.blk
  have c0 := h1.cellv 0 rfl
  have c1 := h1.cellv 1 rfl
  have c2 := h1.cellv 2 rfl
  obtain ⟨g, off, rfl, hg, hcc⟩ := h2 k' y' hy
  have hSt : ¬ S t := fun e => (h.ult t (hSU t e)).2 rfl
  have hSg : ¬ S g := fun e => (h3 g off rfl).2.2.2 (hSU g e)
  have HCC := Lib.hid (show CellIs g off k' y' w from ⟨hg, hcc⟩)
  have hkn : k' < snap.length := (List.getElem?_eq_some_iff.1 hy).1
  have htl := h1.lt
  have HT := Lib.hid h1
  obtain ⟨n, hn⟩ : ∃ n, snap.length = n := ⟨_, rfl⟩
  rw [hn] at hkn c1 HT
  have hk1 : ¬ (n : Int) ≤ (k' : Int) := by omega
  have hk2 : ¬ y' < 0 := by omega
  obtain ⟨k, hkk⟩ : ∃ k, k' = k := ⟨_, rfl⟩
  obtain ⟨y, hyy⟩ : ∃ y, y' = y := ⟨_, rfl⟩
  subst hkk hyy
  obtain ⟨fb, hfb⟩ : ∃ fb, (look ws key.data.toList).isSome = fb := ⟨_, rfl⟩
  rw [hfb] at HWG hno
  have hltd : decide (y' < hz) = false := decide_eq_false hlt
  have mG := sm.mG
  have eG := sm.eG
  have nG := sm.nG
  clear hc h h1 h2 h3 hn hk h0 hkp hy hfb hy'
  go_enter Tryz.func38, Tryz.ntmps38
  go_wp2_with fail
  refine HOP.out.mono ?_; rintro e w1 ⟨rfl, rfl⟩
  go_wp2_with fail
  refine HIK.out.mono ?_; rintro e w1 ⟨rfl, rfl⟩
  go_wp2_with fail
  refine HWG.out.mono ?_; rintro e w1 ⟨kk, A', n', c', d', rfl, ho⟩
  have d0 := (HT.out.only ho (fun h => h)).cellv 0 rfl
  have d0l := (HT.out.only ho (fun h => h)).lt
  have hB := Lib.hid (Blk.new w1 47 zeroVer)
  have hO := Lib.hid (((Only.refl NoneOf w1).alloc (.cells zeroVer 47)).row (b := w1.heap.size) (.inr (Nat.le_refl _)) (verC kk 0 (.slice A' n' c') d'))
  have HO2 := Lib.hid (ho.trans hO.out)
  have e0 := (hO.out.cell (p := ⟨t, 0, none⟩) d0l (fun h => h)).trans d0
  obtain ⟨w2, hw2⟩ : ∃ w2, (w1.alloc (.cells zeroVer 47)).setRow w1.heap.size (verC kk 0 (.slice A' n' c') d') = w2 := ⟨_, rfl⟩
  have HW2 := Lib.hid hw2
  rw [hw2] at HO2
  clear ho hO hw2 d0
  have hgo : fb = false ∨ (fb = true ∧ ((k' : Int) == (place : Int)) = false) := by
    cases fb with
    | false => exact .inl rfl
    | true => exact .inr ⟨rfl, beq_eq_false_iff_ne.2 (fun e => by rcases hno with h | h; cases h; exact h (by omega))⟩
  rcases hgo with rfl | ⟨rfl, hq⟩
  all_goals
    go_upto_region 13 with (first | (refine wpList_store_row rfl 47 (.tmp 12) (.tmp 48) rfl w1.heap.size (verC kk 0 (.slice A' n' c') d') rfl rfl 47 zeroVer hB.out infoV rfl (by simp [Value.oneCell']) ?_) | fail)
    rw [HW2.out]
    refine wp_region_head 9 94 (ConstT fun i => match i with | 0 => .pointer (some ⟨t, 0, none⟩) | 1 => .pointer (some ⟨t, 0, none⟩) | 2 => .pointer (some ⟨t, 1, none⟩) | 3 => .slice (some ⟨g, off, none⟩) n c | 4 => .int .i64 (k' : Int) | 5 => .pointer (some ⟨g, off + k', none⟩) | 6 => .int .i64 y' | 7 => .iface tt rv | _ => .int .i64 hz) (fun _ => false) rfl (by kernel_rfl) (by kernel_rfl) (fun _ _ _ _ h _ => h) (fun _ _ _ h => by cases h) ?_ ?_
    · intro i o hi ho a u hu hs ht
      have e0 : a.tmps.getD 0 undef = .pointer (some ⟨t, 0, none⟩) := hs 0 (of_decide_eq_true (by kernel_rfl))
      have e1 : a.tmps.getD 1 undef = .int .i64 (k' : Int) := hs 1 (of_decide_eq_true (by kernel_rfl))
      have e3 : a.tmps.getD 3 undef = .iface tt rv := hs 3 (of_decide_eq_true (by kernel_rfl))
      have FB := HT.out.only (HO2.out.trans hu) (fun h => h)
      have c1 := FB.cellv 1 rfl
      have cy := (HCC.out.keep (HO2.out.trans hu))
      have : i = 0 ∨ i = 1 ∨ i = 2 ∨ i = 3 ∨ i = 4 ∨ i = 5 ∨ i = 6 ∨ i = 7 ∨ i = 8 := by omega
      rcases this with rfl | rfl | rfl | rfl | rfl | rfl | rfl | rfl | rfl
      · obtain rfl := Option.some.inj (ho : some _ = some o)
        exact left_value (.pointer (some ⟨t, 0, none⟩)) (by simp [go_sem, e0]) rfl rfl
      · obtain rfl := Option.some.inj (ho : some _ = some o)
        have s0 : a.tmps.getD 64 undef = .pointer (some ⟨t, 0, none⟩) := ht 0 (by omega) (by kernel_rfl)
        exact left_value (.pointer (some ⟨t, 0, none⟩)) (by simp [go_sem, s0]) rfl rfl
      · obtain rfl := Option.some.inj (ho : some _ = some o)
        have s1 : a.tmps.getD 65 undef = .pointer (some ⟨t, 0, none⟩) := ht 1 (by omega) (by kernel_rfl)
        exact left_value (.pointer (some ⟨t, 1, none⟩)) (by simp [go_sem, s1]) rfl rfl
      · obtain rfl := Option.some.inj (ho : some _ = some o)
        have s2 : a.tmps.getD 66 undef = .pointer (some ⟨t, 1, none⟩) := ht 2 (by omega) (by kernel_rfl)
        exact left_value (.slice (some ⟨g, off, none⟩) n c) (by simp [go_sem, s2, c1]) rfl rfl
      · obtain rfl := Option.some.inj (ho : some _ = some o)
        exact left_value (.int .i64 (k' : Int)) (by simp [go_sem, e1]) rfl rfl
      · obtain rfl := Option.some.inj (ho : some _ = some o)
        have s3 : a.tmps.getD 67 undef = .slice (some ⟨g, off, none⟩) n c := ht 3 (by omega) (by kernel_rfl)
        have s4 : a.tmps.getD 68 undef = .int .i64 (k' : Int) := ht 4 (by omega) (by kernel_rfl)
        exact left_value (.pointer (some ⟨g, off + k', none⟩)) (by simp [go_sem, s3, s4, hkn]) rfl rfl
      · obtain rfl := Option.some.inj (ho : some _ = some o)
        have s5 : a.tmps.getD 69 undef = .pointer (some ⟨g, off + k', none⟩) := ht 5 (by omega) (by kernel_rfl)
        exact left_value (.int .i64 y') (by simp [go_sem, s5, cy]) rfl rfl
      · obtain rfl := Option.some.inj (ho : some _ = some o)
        exact left_value (.iface tt rv) (by simp [go_sem, e3]) rfl rfl
      · obtain rfl := Option.some.inj (ho : some _ = some o)
        have s7 : a.tmps.getD 71 undef = .iface tt rv := ht 7 (by omega) (by kernel_rfl)
        refine left_calls fH #[rv] (by simp [go_sem, s7, sm.mH, sm.eH]) ((cH u (HO2.out.trans hu)).mono ?_) rfl
        rintro e u' ⟨rfl, rfl⟩
        exact ⟨_, rfl, rfl, Only.refl _ _⟩
    · intro V' u3 hu hV' _
      have v0 : V' 0 = .pointer (some ⟨t, 0, none⟩) := hV' 0 (by omega)
      have v1 : V' 1 = .pointer (some ⟨t, 0, none⟩) := hV' 1 (by omega)
      have v2 : V' 2 = .pointer (some ⟨t, 1, none⟩) := hV' 2 (by omega)
      have v3 : V' 3 = .slice (some ⟨g, off, none⟩) n c := hV' 3 (by omega)
      have v4 : V' 4 = .int .i64 (k' : Int) := hV' 4 (by omega)
      have v5 : V' 5 = .pointer (some ⟨g, off + k', none⟩) := hV' 5 (by omega)
      have v6 : V' 6 = .int .i64 y' := hV' 6 (by omega)
      have v7 : V' 7 = .iface tt rv := hV' 7 (by omega)
      have v8 : V' 8 = .int .i64 hz := hV' 8 (by omega)
      change wpList _ _ _ _ (Act.put (Act.put (Act.put (Act.put (Act.put (Act.put (Act.put (Act.put (Act.put _ (some 64) (V' 0)) (some 65) (V' 1)) (some 66) (V' 2)) (some 67) (V' 3)) (some 68) (V' 4)) (some 69) (V' 5)) (some 70) (V' 6)) (some 71) (V' 7)) (some 72) (V' 8)) _
      rw [v0, v1, v2, v3, v4, v5, v6, v7, v8]
      simp only [Act.put, List.setIfInBounds_toArray, List.set_cons_zero, List.set_cons_succ]
      simp only [List.drop_succ_cons, List.drop_zero]
      clear hV' v0 v1 v2 v3 v4 v5 v6 v7 v8

      have HF := Lib.hid (HO2.out.trans hu)
      clear hu
      go_upto_region 15 with (fail)
      refine wp_region_head2 17 94 [] (fun _ => none) (fun i => match i with | 12 => some 0 | _ => none) S (GtG u3 S QG) (GtT t k' key (.iface tt rv) (some ⟨g, off, none⟩) n c ⟨g, off + k', none⟩ y' f S) rfl (by kernel_rfl) (by kernel_rfl) ?hskip ?hgv (GtT_keep _ _ _ _ _ _ _ _ _ _ _) ((Only.refl _ _).drew) ?hstep ?hend
      case hskip =>
        intro i o hi ho hw k
        have : i = 0 ∨ i = 1 ∨ i = 2 ∨ i = 3 ∨ i = 4 ∨ i = 5 ∨ i = 6 ∨ i = 7 ∨ i = 8 ∨ i = 9 ∨ i = 10 ∨ i = 11 ∨ i = 12 ∨ i = 13 ∨ i = 14 ∨ i = 15 ∨ i = 16 := by omega
        rcases this with rfl | rfl | rfl | rfl | rfl | rfl | rfl | rfl | rfl | rfl | rfl | rfl | rfl | rfl | rfl | rfl | rfl
        · rfl
        · rfl
        · rfl
        · rfl
        · rfl
        · rfl
        · rfl
        · rfl
        · rfl
        · rfl
        · rfl
        · rfl
        · obtain rfl := Option.some.inj (ho : some _ = some o); exact absurd (show true = false from hw) (by decide)
        · rfl
        · rfl
        · rfl
        · rfl
      case hgv =>
        intro g hg v w h
        cases hg
      case hstep =>
        intro i o hi ho a u k hk hik hs ht
        have e0 : a.tmps.getD 0 undef = .pointer (some ⟨t, 0, none⟩) := hs 0 (of_decide_eq_true (by kernel_rfl))
        have e1 : a.tmps.getD 1 undef = .int .i64 (k' : Int) := hs 1 (of_decide_eq_true (by kernel_rfl))
        have e2 : a.tmps.getD 2 undef = .string key := hs 2 (of_decide_eq_true (by kernel_rfl))
        have e3 : a.tmps.getD 3 undef = .iface tt rv := hs 3 (of_decide_eq_true (by kernel_rfl))
        have FO := hk.only
        have FB := (HT.out.only HF.out (fun h => h)).only FO hSt
        have c1 := FB.cellv 1 rfl
        have cy := (FO.cell (p := ⟨g, off + k', none⟩) (Nat.lt_of_lt_of_le HCC.out.1 HF.out.size) hSg).trans (HCC.out.keep HF.out)
        have : i = 0 ∨ i = 1 ∨ i = 2 ∨ i = 3 ∨ i = 4 ∨ i = 5 ∨ i = 6 ∨ i = 7 ∨ i = 8 ∨ i = 9 ∨ i = 10 ∨ i = 11 ∨ i = 12 ∨ i = 13 ∨ i = 14 ∨ i = 15 ∨ i = 16 := by omega
        rcases this with rfl | rfl | rfl | rfl | rfl | rfl | rfl | rfl | rfl | rfl | rfl | rfl | rfl | rfl | rfl | rfl | rfl
        · obtain rfl := Option.some.inj (ho : some _ = some o)
          rw [if_pos (by decide)]
          exact left2_value (.iface tt rv) (by simp [go_sem, e3]) rfl rfl hk
        · obtain rfl := Option.some.inj (ho : some _ = some o)
          rw [if_pos (by decide)]
          exact left2_value (.string key) (by simp [go_sem, e2]) rfl rfl hk
        · obtain rfl := Option.some.inj (ho : some _ = some o)
          rw [if_pos (by decide)]
          exact left2_value (.pointer (some ⟨t, 0, none⟩)) (by simp [go_sem, e0]) rfl rfl hk
        · obtain rfl := Option.some.inj (ho : some _ = some o)
          rw [if_pos (by decide)]
          have s2 : a.tmps.getD 77 undef = .pointer (some ⟨t, 0, none⟩) := ht 2 (by omega) (by kernel_rfl)
          exact left2_value (.pointer (some ⟨t, 0, none⟩)) (by simp [go_sem, s2]) rfl rfl hk
        · obtain rfl := Option.some.inj (ho : some _ = some o)
          rw [if_pos (by decide)]
          have s3 : a.tmps.getD 78 undef = .pointer (some ⟨t, 0, none⟩) := ht 3 (by omega) (by kernel_rfl)
          exact left2_value (.pointer (some ⟨t, 1, none⟩)) (by simp [go_sem, s3]) rfl rfl hk
        · obtain rfl := Option.some.inj (ho : some _ = some o)
          rw [if_pos (by decide)]
          have s4 : a.tmps.getD 79 undef = .pointer (some ⟨t, 1, none⟩) := ht 4 (by omega) (by kernel_rfl)
          exact left2_value (.slice (some ⟨g, off, none⟩) n c) (by simp [go_sem, s4, c1]) rfl rfl hk
        · obtain rfl := Option.some.inj (ho : some _ = some o)
          rw [if_pos (by decide)]
          exact left2_value (.int .i64 (k' : Int)) (by simp [go_sem, e1]) rfl rfl hk
        · obtain rfl := Option.some.inj (ho : some _ = some o)
          rw [if_pos (by decide)]
          have s5 : a.tmps.getD 80 undef = .slice (some ⟨g, off, none⟩) n c := ht 5 (by omega) (by kernel_rfl)
          have s6 : a.tmps.getD 81 undef = .int .i64 (k' : Int) := ht 6 (by omega) (by kernel_rfl)
          exact left2_value (.pointer (some ⟨g, off + k', none⟩)) (by simp [go_sem, s5, s6, hkn]) rfl rfl hk
        · obtain rfl := Option.some.inj (ho : some _ = some o)
          rw [if_pos (by decide)]
          have s7 : a.tmps.getD 82 undef = .pointer (some ⟨g, off + k', none⟩) := ht 7 (by omega) (by kernel_rfl)
          exact left2_value (.int .i64 y') (by simp [go_sem, s7, cy]) rfl rfl hk
        · obtain rfl := Option.some.inj (ho : some _ = some o)
          rw [if_pos (by decide)]
          have s0 : a.tmps.getD 75 undef = .iface tt rv := ht 0 (by omega) (by kernel_rfl)
          exact left2_value (.func (.method "Get") #[.iface tt rv] #[]) (by simp [go_sem, s0]) rfl rfl hk
        · obtain rfl := Option.some.inj (ho : some _ = some o)
          rw [if_pos (by decide)]
          have s9 : a.tmps.getD 84 undef = .func (.method "Get") #[.iface tt rv] #[] := ht 9 (by omega) (by kernel_rfl)
          exact left2_value (.func (.method "Get") #[.iface tt rv] #[]) (by simp [go_sem, s9, nG]) rfl rfl hk
        · obtain rfl := Option.some.inj (ho : some _ = some o)
          rw [if_pos (by decide)]
          have s0 : a.tmps.getD 75 undef = .iface tt rv := ht 0 (by omega) (by kernel_rfl)
          have s9 : a.tmps.getD 84 undef = .func (.method "Get") #[.iface tt rv] #[] := ht 9 (by omega) (by kernel_rfl)
          have s10 : a.tmps.getD 85 undef = .func (.method "Get") #[.iface tt rv] #[] := ht 10 (by omega) (by kernel_rfl)
          exact left2_value (.iface tt rv) (by simp [go_sem, s0]) rfl rfl hk
        · obtain rfl := Option.some.inj (ho : some _ = some o)
          rw [if_pos (by decide)]
          have s1 : a.tmps.getD 76 undef = .string key := ht 1 (by omega) (by kernel_rfl)
          have s8 : a.tmps.getD 83 undef = .int .i64 y' := ht 8 (by omega) (by kernel_rfl)
          have s11 : a.tmps.getD 86 undef = .iface tt rv := ht 11 (by omega) (by kernel_rfl)
          obtain rfl : k = 0 := by
            rcases hik with h | h
            · cases h
            · injection h with h; exact h.symm
          refine left2_turns fG #[rv, .string key, .int .i64 y'] (by simp [go_sem, s1, s8, s11, mG, eG]) ((cG u (HF.out.trans hk)).mono ?_) rfl
          rintro e u' ⟨⟨v, rfl, hv⟩, hq, ho⟩
          exact ⟨_, rfl, ⟨v, rfl, hv⟩, ⟨(hk.mono fun _ _ h => h.elim).trans ho, u, u', hk, hq, ho.size, Only.refl _ _⟩, ho⟩
        · obtain rfl := Option.some.inj (ho : some _ = some o)
          rw [if_pos (by decide)]
          obtain ⟨va, s12, hva⟩ : ∃ v, a.tmps.getD 87 undef = .tuple #[v, .bool f.isSome] ∧ SrcV f S v u := ht 12 (by omega) (by kernel_rfl)
          exact left2_value (.tuple #[va, .bool f.isSome]) (by simp [go_sem, s12]) ⟨va, rfl, hva⟩ rfl hk
        · obtain rfl := Option.some.inj (ho : some _ = some o)
          rw [if_pos (by decide)]
          obtain ⟨va, s13, hva⟩ : ∃ v, a.tmps.getD 74 undef = .tuple #[v, .bool f.isSome] ∧ SrcV f S v u := ht 13 (by omega) (by kernel_rfl)
          exact left2_value va (by simp [go_sem, s13]) hva rfl hk
        · obtain rfl := Option.some.inj (ho : some _ = some o)
          rw [if_pos (by decide)]
          obtain ⟨va, s13, _⟩ : ∃ v, a.tmps.getD 74 undef = .tuple #[v, .bool f.isSome] ∧ SrcV f S v u := ht 13 (by omega) (by kernel_rfl)
          exact left2_value (.bool f.isSome) (by simp [go_sem, s13]) rfl rfl hk
        · obtain rfl := Option.some.inj (ho : some _ = some o)
          rw [if_pos (by decide)]
          obtain ⟨va, s14⟩ : ∃ v, a.tmps.getD 88 undef = v := ⟨_, rfl⟩
          have hva : SrcV f S va u := by rw [← s14]; exact ht 14 (by omega) (by kernel_rfl)
          exact left2_value va (by simp [go_sem, s14]) hva rfl hk
      case hend =>
        intro V' u4 k hk hkt hV'
        have v0 : V' 0 = .iface tt rv := hV' 0 (by omega)
        have v1 : V' 1 = .string key := hV' 1 (by omega)
        have v2 : V' 2 = .pointer (some ⟨t, 0, none⟩) := hV' 2 (by omega)
        have v3 : V' 3 = .pointer (some ⟨t, 0, none⟩) := hV' 3 (by omega)
        have v4 : V' 4 = .pointer (some ⟨t, 1, none⟩) := hV' 4 (by omega)
        have v5 : V' 5 = .slice (some ⟨g, off, none⟩) n c := hV' 5 (by omega)
        have v6 : V' 6 = .int .i64 (k' : Int) := hV' 6 (by omega)
        have v7 : V' 7 = .pointer (some ⟨g, off + k', none⟩) := hV' 7 (by omega)
        have v8 : V' 8 = .int .i64 y' := hV' 8 (by omega)
        have v9 : V' 9 = .func (.method "Get") #[.iface tt rv] #[] := hV' 9 (by omega)
        have v10 : V' 10 = .func (.method "Get") #[.iface tt rv] #[] := hV' 10 (by omega)
        have v11 : V' 11 = .iface tt rv := hV' 11 (by omega)
        obtain ⟨va, v12, _⟩ : ∃ v, V' 12 = .tuple #[v, .bool f.isSome] ∧ SrcV f S v u4 := hV' 12 (by omega)
        obtain ⟨vb, v13, _⟩ : ∃ v, V' 13 = .tuple #[v, .bool f.isSome] ∧ SrcV f S v u4 := hV' 13 (by omega)
        obtain ⟨vc, v14⟩ : ∃ v, V' 14 = v := ⟨_, rfl⟩
        have v15 : V' 15 = .bool f.isSome := hV' 15 (by omega)
        obtain ⟨vd, v16⟩ : ∃ v, V' 16 = v := ⟨_, rfl⟩
        have h16 : SrcV f S vd u4 := by rw [← v16]; exact hV' 16 (by omega)
        have hk0 : 0 < k := hkt 12 0 (by omega) rfl
        change wpList _ _ _ _ (Act.put (Act.put (Act.put (Act.put (Act.put (Act.put (Act.put (Act.put (Act.put (Act.put (Act.put (Act.put (Act.put (Act.put (Act.put (Act.put (Act.put _ (some 75) (V' 0)) (some 76) (V' 1)) (some 77) (V' 2)) (some 78) (V' 3)) (some 79) (V' 4)) (some 80) (V' 5)) (some 81) (V' 6)) (some 82) (V' 7)) (some 83) (V' 8)) (some 84) (V' 9)) (some 85) (V' 10)) (some 86) (V' 11)) (some 87) (V' 12)) (some 74) (V' 13)) (some 88) (V' 14)) (some 89) (V' 15)) (some 14) (V' 16)) _
        rw [v0, v1, v2, v3, v4, v5, v6, v7, v8, v9, v10, v11, v12, v13, v14, v15, v16]
        simp only [Act.put, List.setIfInBounds_toArray, List.set_cons_zero, List.set_cons_succ]
        simp only [List.drop_succ_cons, List.drop_zero]
        clear hV' v0 v1 v2 v3 v4 v5 v6 v7 v8 v9 v10 v11 v12 v13 v14 v15 v16
        obtain ⟨u1, u2, hq1, hq2, hq3, hq4⟩ : ∃ u1 u2, Only NoneOf u3 u1 ∧ QG u1 u2 ∧ u1.heap.size ≤ u2.heap.size ∧ Only NoneOf u2 u4 := by
          cases k with
          | zero => omega
          | succ k => exact hk.2
        have HQ := Lib.hid hq2
        have HQ1 := Lib.hid (HF.out.trans hq1)
        have HQ4 := Lib.hid hq4
        have hs4 := HQ1.out.size
        have hs5 := hq4.size
        clear hq1 hq2 hq4 hk hkt
        cases f with
        | none =>
          obtain rfl := h16
          simp only [Option.isSome_none]
          go_wp2_with fail
          refine bodyPost_ret (results_tmp3 rfl _ _ _) rfl ?_
          exact ⟨⟨_, rfl, rowB_nil _ _⟩, u1, u2, HQ1.out, HQ.out, hq3, HQ4.out⟩
        | some bs =>
          obtain ⟨Ag, cg, rfl, hby, hbl, _⟩ := h16
          simp only [Option.isSome_some]
          have HOW := Lib.hid (own_ist Ag bs.length cg bs u4 rfl hby hbl)
          clear hby
          obtain ⟨nb, hnb⟩ : ∃ nb, bs.length = nb := ⟨_, rfl⟩
          rw [hnb] at HOW ⊢
          go_wp2_with fail
          refine HOW.out.mono ?_
          rintro e u6 ⟨v6, rfl, hr6, ho6⟩
          obtain ⟨A6, c6, rfl, _⟩ := hr6.at
          have HR6 := Lib.hid hr6
          have HO6 := Lib.hid ho6
          clear hr6 ho6
          go_wp2_with fail
          refine bodyPost_ret (results_tmp3 rfl _ _ _) rfl ?_
          exact ⟨⟨_, rfl, by have h := HR6.out.base (show w.heap.size ≤ u4.heap.size by omega); rw [hnb] at h; exact h⟩, u1, u2, HQ1.out, HQ.out, hq3, HQ4.out.trans HO6.out⟩

end Go.Proofs.YtbhihbhjmmeibaaGreat

/-
  Layer 17: a transaction's Scan: where it does not come to its source's Scan.
-/
namespace Go.Proofs.YtbhihbhjmmeibaaGreat
open Go.RowKit Go.Shelf

/-- the answer's number where the transaction does not ask its source -/
def scanE (ended : Bool) (snap : List Int) (x : Int) (fr tt : ByteArray) (lim : Int) : Int :=
  if openC ended snap.length x ≠ 0 then openC ended snap.length x else if lim < 1 ∨ 100 < lim then 2 else if 255 < fr.size ∨ 255 < tt.size then 140 else if (snap[x.toNat]?).getD 0 < 0 then 170 else 0

/-- where a Scan's own boxes stand -/
structure ScBox (w : World) (lim : Int) (u : World) : Prop where
  b10 : Blk u w.heap.size 3 #[.int .i64 lim]
  b12 : Blk u (w.heap.size + 1) 54 #[.slice none 0 0]
  b13 : Blk u (w.heap.size + 1 + 1) 4 #[.bool false]
  b14 : Blk u (w.heap.size + 1 + 1 + 1) 29 #[.int .i64 0]
theorem ScBox.make (w : World) (lim : Int) : ScBox w lim ((((w.alloc (.cells #[.int .i64 lim] 3)).alloc (.cells #[.slice none 0 0] 54)).alloc (.cells #[.bool false] 4)).alloc (.cells #[.int .i64 0] 29)) where
  b10 := (((Blk.new w 3 #[.int .i64 lim]).alloc _).alloc _).alloc _
  b12 := ((Blk.new' (w.alloc (.cells #[.int .i64 lim] 3)) 54 #[.slice none 0 0] (n := w.heap.size + 1) (by simp)).alloc _).alloc _
  b13 := (Blk.new' ((w.alloc (.cells #[.int .i64 lim] 3)).alloc (.cells #[.slice none 0 0] 54)) 4 #[.bool false] (n := w.heap.size + 1 + 1) (by simp)).alloc _
  b14 := Blk.new' (((w.alloc (.cells #[.int .i64 lim] 3)).alloc (.cells #[.slice none 0 0] 54)).alloc (.cells #[.bool false] 4)) 29 #[.int .i64 0] (n := w.heap.size + 1 + 1 + 1) (by simp)
theorem ScBox.only {w u u' : World} {lim : Int} {S : Nat → Prop} (h : ScBox w lim u) (ho : Only S u u') (hS : ∀ j, S j → j < w.heap.size ∨ w.heap.size + 4 ≤ j) : ScBox w lim u' :=
  ⟨h.b10.only ho (fun hs => by have := hS _ hs; omega), h.b12.only ho (fun hs => by have := hS _ hs; omega), h.b13.only ho (fun hs => by have := hS _ hs; omega), h.b14.only ho (fun hs => by have := hS _ hs; omega)⟩
theorem ScBox.keep {w u u' : World} {lim : Int} (h : ScBox w lim u) (ho : Only NoneOf u u') : ScBox w lim u' := h.only ho (fun _ h => h.elim)
/-- the answer's three boxes laid -/
def scRet (w u : World) (v : Value) (x : Bool) (c : Int) : World := ((u.setCell ⟨w.heap.size + 1, 0, none⟩ v).setCell ⟨w.heap.size + 1 + 1, 0, none⟩ (.bool x)).setCell ⟨w.heap.size + 1 + 1 + 1, 0, none⟩ (.int .i64 c)
theorem ScBox.ret {w u : World} {lim : Int} (h : ScBox w lim u) (v : Value) (x : Bool) (c : Int) : Blk (scRet w u v x c) (w.heap.size + 1) 54 #[v] ∧ Blk (scRet w u v x c) (w.heap.size + 1 + 1) 4 #[.bool x] ∧ Blk (scRet w u v x c) (w.heap.size + 1 + 1 + 1) 29 #[.int .i64 c] :=
  ⟨((h.b12.put 0 v).far (p := ⟨w.heap.size + 1 + 1, 0, none⟩) (by show w.heap.size + 1 ≠ w.heap.size + 1 + 1; omega) _).far (p := ⟨w.heap.size + 1 + 1 + 1, 0, none⟩) (by show w.heap.size + 1 ≠ w.heap.size + 1 + 1 + 1; omega) _,
   ((h.b13.far (p := ⟨w.heap.size + 1, 0, none⟩) (by show w.heap.size + 1 + 1 ≠ w.heap.size + 1; omega) _).put 0 (.bool x)).far (p := ⟨w.heap.size + 1 + 1 + 1, 0, none⟩) (by show w.heap.size + 1 + 1 ≠ w.heap.size + 1 + 1 + 1; omega) _,
   ((h.b14.far (p := ⟨w.heap.size + 1, 0, none⟩) (by show w.heap.size + 1 + 1 + 1 ≠ w.heap.size + 1; omega) _).far (p := ⟨w.heap.size + 1 + 1, 0, none⟩) (by show w.heap.size + 1 + 1 + 1 ≠ w.heap.size + 1 + 1; omega) _).put 0 (.int .i64 c)⟩
theorem scRet_only (w u : World) (v : Value) (x : Bool) (c : Int) : Only (fun j => w.heap.size + 1 ≤ j ∧ j < w.heap.size + 4) u (scRet w u v x c) :=
  (((Only.refl _ u).put (.inl ⟨by dsimp only; omega, by dsimp only; omega⟩) _).put (.inl ⟨by dsimp only; omega, by dsimp only; omega⟩) _).put (.inl ⟨by dsimp only; omega, by dsimp only; omega⟩) _
theorem scRet_none {w u : World} (ho : Only NoneOf w u) (v : Value) (x : Bool) (c : Int) : Only NoneOf w (scRet w u v x c) := ho.step (scRet_only w u v x c) (fun j hj h => by omega)

set_option maxRecDepth 100000 in
set_option maxHeartbeats 2000000 in
theorem txScan_open (w : World) (t p m place N : Nat) (snap : List Int) (ws : List We) (ended : Bool) (U : Nat → Prop) (h : TxR w t p m U place snap ws ended N) (x : Int) (fr ti : ByteArray) (lim : Int) (tt : TypeId) (rv : Value) (hc : openC ended snap.length x ≠ 0) :
    Calls Tryz.prog 40 #[.pointer (some ⟨t, 0, none⟩), .int .i64 x, .string fr, .string ti, .int .i64 lim, .iface tt rv] w fun e w' => e = .returned (.tuple #[.slice none 0 0, .bool false, .int .i64 (openC ended snap.length x)]) ∧ Only NoneOf w w' := by
  have HOP := Lib.hid (fun u (hu : Only NoneOf w u) => open_is u t p m place N snap ws ended U (h.keep hu) x)
  obtain ⟨oc, hoc⟩ : ∃ oc, openC ended snap.length x = oc := ⟨_, rfl⟩
  rw [hoc] at HOP hc ⊢
  have hq : (oc == 0) = false := beq_eq_false_iff_ne.2 hc
  have hO := Lib.hid (((((Only.refl NoneOf w).alloc (.cells #[.int .i64 lim] 3)).alloc (.cells #[.slice none 0 0] 54)).alloc (.cells #[.bool false] 4)).alloc (.cells #[.int .i64 0] 29))
  clear h hc hoc
  go_enter Tryz.func40, Tryz.ntmps40
  go_wp2_with fail
  refine (HOP.out _ hO.out).mono ?_; rintro e w1 ⟨rfl, hw1⟩
  have HW := Lib.hid hw1
  subst hw1
  go_wp2_with fail
  exact bodyPost_ret (v := .tuple #[.slice none 0 0, .bool false, .int .i64 oc]) (by simp [results, Tryz.results40, go_sem]) rfl ⟨rfl, by repeat (first | exact Only.refl _ _ | refine Only.alloc ?_ _)⟩

set_option maxRecDepth 100000 in
set_option maxHeartbeats 4000000 in
theorem txScan_early (w : World) (t p m place N : Nat) (snap : List Int) (ws : List We) (ended : Bool) (U : Nat → Prop) (h : TxR w t p m U place snap ws ended N) (x : Int) (fr ti : ByteArray) (lim : Int) (tt : TypeId) (rv : Value) (hc : scanE ended snap x fr ti lim ≠ 0) :
    Calls Tryz.prog 40 #[.pointer (some ⟨t, 0, none⟩), .int .i64 x, .string fr, .string ti, .int .i64 lim, .iface tt rv] w fun e w' => e = .returned (.tuple #[.slice none 0 0, .bool false, .int .i64 (scanE ended snap x fr ti lim)]) ∧ Only NoneOf w w' := by
  by_cases ho0 : openC ended snap.length x ≠ 0
  · have e : scanE ended snap x fr ti lim = openC ended snap.length x := by unfold scanE; rw [if_pos ho0]
    rw [e]
    exact txScan_open w t p m place N snap ws ended U h x fr ti lim tt rv ho0
  · have h0 : openC ended snap.length x = 0 := by omega
    have HOP := Lib.hid (fun u (hu : Only NoneOf w u) => open_is u t p m place N snap ws ended U (h.keep hu) x)
    rw [h0] at HOP
    unfold scanE at hc ⊢
    rw [if_neg ho0] at hc ⊢
    have hO := Lib.hid (((((Only.refl NoneOf w).alloc (.cells #[.int .i64 lim] 3)).alloc (.cells #[.slice none 0 0] 54)).alloc (.cells #[.bool false] 4)).alloc (.cells #[.int .i64 0] 29))
    obtain ⟨A, c, h1, h2, _⟩ := h.blk
    have c1 := h1.cellv 1 rfl
    have htl := h1.lt
    by_cases hl1 : lim < 1
    · rw [if_pos (.inl hl1)]
      clear hc h h1 h2 ho0 h0
      go_enter Tryz.func40, Tryz.ntmps40
      go_wp2_with fail
      refine (HOP.out _ hO.out).mono ?_; rintro e w1 ⟨rfl, hw1⟩
      subst hw1
      go_wp2_with fail
      exact bodyPost_ret (v := .tuple #[.slice none 0 0, .bool false, .int .i64 2]) (by simp [results, Tryz.results40, go_sem]) rfl ⟨rfl, by repeat (first | exact Only.refl _ _ | refine Only.alloc ?_ _)⟩
    by_cases hl2 : 100 < lim
    · rw [if_pos (.inr hl2)]
      clear hc h h1 h2 ho0 h0
      go_enter Tryz.func40, Tryz.ntmps40
      go_wp2_with fail
      refine (HOP.out _ hO.out).mono ?_; rintro e w1 ⟨rfl, hw1⟩
      subst hw1
      go_wp2_with fail
      exact bodyPost_ret (v := .tuple #[.slice none 0 0, .bool false, .int .i64 2]) (by simp [results, Tryz.results40, go_sem]) rfl ⟨rfl, by repeat (first | exact Only.refl _ _ | refine Only.alloc ?_ _)⟩
    rw [if_neg (by omega)] at hc ⊢
    obtain ⟨nf, hnf⟩ : ∃ nf, fr.size = nf := ⟨_, rfl⟩
    obtain ⟨nt, hnt⟩ : ∃ nt, ti.size = nt := ⟨_, rfl⟩
    rw [hnf, hnt] at hc ⊢
    by_cases hf1 : 255 < nf
    · rw [if_pos (.inl hf1)]
      clear hc h h1 h2 ho0 h0
      go_enter Tryz.func40, Tryz.ntmps40
      go_wp2_with fail
      refine (HOP.out _ hO.out).mono ?_; rintro e w1 ⟨rfl, hw1⟩
      subst hw1
      go_wp2_with fail
      exact bodyPost_ret (v := .tuple #[.slice none 0 0, .bool false, .int .i64 140]) (by simp [results, Tryz.results40, go_sem]) rfl ⟨rfl, by repeat (first | exact Only.refl _ _ | refine Only.alloc ?_ _)⟩
    by_cases hf2 : 255 < nt
    · rw [if_pos (.inr hf2)]
      clear hc h h1 h2 ho0 h0
      go_enter Tryz.func40, Tryz.ntmps40
      go_wp2_with fail
      refine (HOP.out _ hO.out).mono ?_; rintro e w1 ⟨rfl, hw1⟩
      subst hw1
      go_wp2_with fail
      exact bodyPost_ret (v := .tuple #[.slice none 0 0, .bool false, .int .i64 140]) (by simp [results, Tryz.results40, go_sem]) rfl ⟨rfl, by repeat (first | exact Only.refl _ _ | refine Only.alloc ?_ _)⟩
    rw [if_neg (by omega)] at hc ⊢
    by_cases hy : (snap[x.toNat]?).getD 0 < 0
    · rw [if_pos hy]
      have hx : 0 ≤ x ∧ x < snap.length := by
        unfold openC at h0
        split at h0
        · cases h0
        · split at h0
          · cases h0
          · omega
      obtain ⟨k, rfl⟩ : ∃ k : Nat, x = k := ⟨x.toNat, by omega⟩
      have hkn : k < snap.length := by omega
      rw [Int.toNat_natCast, List.getElem?_eq_getElem hkn] at hy
      obtain ⟨g, off, rfl, hg, hcc⟩ := h2 k _ (List.getElem?_eq_getElem hkn)
      simp only [Option.getD_some] at hy
      generalize snap[k] = y at hy hcc
      obtain ⟨n, hn⟩ : ∃ n, snap.length = n := ⟨_, rfl⟩
      rw [hn] at hkn c1
      have hk1 : ¬ (n : Int) ≤ (k : Int) := by omega
      have hBX := ScBox.make w lim
      have d1 := (hO.out.cell (p := ⟨t, 1, none⟩) htl (fun h => h)).trans c1
      have dcc := (hO.out.cell (p := ⟨g, off + k, none⟩) hg (fun h => h)).trans hcc
      clear hc h h1 h2 ho0 h0 hx hn c1 hcc
      go_enter Tryz.func40, Tryz.ntmps40
      go_wp2_with fail
      refine (HOP.out _ hO.out).mono ?_; rintro e w1 ⟨rfl, hw1⟩
      have hOw := hO.out
      rw [hw1] at d1 dcc hBX hOw
      have x10 := hBX.b10.cellv 0 rfl
      have z12 := hBX.b12.free 0
      have z13 := hBX.b13.free 0
      have z14 := hBX.b14.free 0
      have y12 := hBX.b12.cellv 0 rfl
      have y13 := hBX.b13.cellv 0 rfl
      have y14 := hBX.b14.cellv 0 rfl
      have HBX := Lib.hid hBX
      clear hw1 hBX
      go_wp2_with fail
      have hr := HBX.out.ret (.slice none 0 0) false 170
      change bodyPost Tryz.prog _ _ _ _ (scRet w w1 (.slice none 0 0) false 170)
      exact bodyPost_ret (v := .tuple #[.slice none 0 0, .bool false, .int .i64 170]) (by simp [results, Tryz.results40, go_sem, hr.1.cellv 0 rfl, hr.2.1.cellv 0 rfl, hr.2.2.cellv 0 rfl]) rfl ⟨rfl, scRet_none hOw _ _ _⟩
    · rw [if_neg hy] at hc
      exact absurd rfl hc

end Go.Proofs.YtbhihbhjmmeibaaGreat

/-
  Layer 17: a transaction's Scan: too old; what a source's Scan tells.
-/
namespace Go.Proofs.YtbhihbhjmmeibaaGreat
open Go.RowKit Go.Shelf

theorem scanE_zero {ended : Bool} {snap : List Int} {x : Int} {fr ti : ByteArray} {lim : Int} (hc : scanE ended snap x fr ti lim = 0) : openC ended snap.length x = 0 ∧ (1 ≤ lim ∧ lim ≤ 100) ∧ (fr.size ≤ 255 ∧ ti.size ≤ 255) ∧ ∃ (k : Nat) (y : Int), x = k ∧ snap[k]? = some y ∧ 0 ≤ y := by
  unfold scanE at hc
  split at hc
  · rename_i h; exact absurd hc h
  · rename_i h
    have h0 : openC ended snap.length x = 0 := by omega
    split at hc
    · cases hc
    · split at hc
      · cases hc
      · split at hc
        · cases hc
        · rename_i hl hf hy
          refine ⟨h0, by omega, by omega, ?_⟩
          have hx : 0 ≤ x ∧ x < snap.length := by
            unfold openC at h0
            split at h0
            · cases h0
            · split at h0
              · cases h0
              · omega
          obtain ⟨k, rfl⟩ : ∃ k : Nat, x = k := ⟨x.toNat, by omega⟩
          have hkn : k < snap.length := by omega
          rw [Int.toNat_natCast, List.getElem?_eq_getElem hkn] at hy
          exact ⟨k, snap[k], rfl, List.getElem?_eq_getElem hkn, by simpa using hy⟩

set_option maxRecDepth 100000 in
set_option maxHeartbeats 2000000 in
theorem txScan_old (w : World) (t p m place N : Nat) (snap : List Int) (ws : List We) (ended : Bool) (U : Nat → Prop) (h : TxR w t p m U place snap ws ended N) (k : Nat) (fr ti : ByteArray) (lim : Int) (tt : TypeId) (rv : Value) (hc : scanE ended snap k fr ti lim = 0)
    {fG fH fS : Nat} (sm : SrcM tt rv fG fH fS) (hz : Int) (cH : ∀ u, Only NoneOf w u → Calls Tryz.prog fH #[rv] u fun e u' => e = .returned (.int .i64 hz) ∧ u = u') (y : Int) (hy : snap[k]? = some y) (hlt : y < hz) :
    Calls Tryz.prog 40 #[.pointer (some ⟨t, 0, none⟩), .int .i64 k, .string fr, .string ti, .int .i64 lim, .iface tt rv] w fun e w' => e = .returned (.tuple #[.slice none 0 0, .bool false, .int .i64 172]) ∧ Only NoneOf w w' := by
  obtain ⟨h0, hl, hf, k', y', hkp, hy', hy0⟩ := scanE_zero hc
  obtain rfl : k' = k := by omega
  obtain rfl : y' = y := by rw [hy] at hy'; injection hy' with hy'; exact hy'.symm
  have HOP := Lib.hid (fun u (hu : Only NoneOf w u) => open_is u t p m place N snap ws ended U (h.keep hu) (k' : Int))
  rw [h0] at HOP
  obtain ⟨A, c, h1, h2, _⟩ := h.blk
  obtain ⟨g, off, rfl, hg, hcc⟩ := h2 k' y' hy
  have HCC := Lib.hid (show CellIs g off k' y' w from ⟨hg, hcc⟩)
  have hkn : k' < snap.length := (List.getElem?_eq_some_iff.1 hy).1
  have HT := Lib.hid h1
  have hO := Lib.hid (((((Only.refl NoneOf w).alloc (.cells #[.int .i64 lim] 3)).alloc (.cells #[.slice none 0 0] 54)).alloc (.cells #[.bool false] 4)).alloc (.cells #[.int .i64 0] 29))
  have hBX := ScBox.make w lim
  obtain ⟨n, hn⟩ : ∃ n, snap.length = n := ⟨_, rfl⟩
  rw [hn] at hkn HT
  obtain ⟨nf, hnf⟩ : ∃ nf, fr.size = nf := ⟨_, rfl⟩
  obtain ⟨nt, hnt⟩ : ∃ nt, ti.size = nt := ⟨_, rfl⟩
  rw [hnf, hnt] at hf
  have hk1 : ¬ (n : Int) ≤ (k' : Int) := by omega
  have hk2 : ¬ y' < 0 := by omega
  have hl1 : ¬ lim < 1 := by omega
  have hl2 : ¬ 100 < lim := by omega
  have hf1 : ¬ 255 < nf := by omega
  have hf2 : ¬ 255 < nt := by omega
  have hltd : decide (y' < hz) = true := decide_eq_true hlt
  clear hc h h1 h2 hn h0 hkp hy hy' hl hf hcc
  go_enter Tryz.func40, Tryz.ntmps40
  go_wp2_with fail
  refine (HOP.out _ hO.out).mono ?_; rintro e w1 ⟨rfl, hw1⟩
  have hOw := hO.out
  rw [hw1] at hBX hOw
  have x10 := hBX.b10.cellv 0 rfl
  have d1 := (HT.out.only hOw (fun h => h)).cellv 1 rfl
  have dcc := HCC.out.keep hOw
  have HBX := Lib.hid hBX
  have HOW := Lib.hid hOw
  clear hw1 hBX hOw
  go_upto_region 12 with (fail)
  refine wp_region_head 9 112 (ConstT fun i => match i with | 0 => .pointer (some ⟨t, 0, none⟩) | 1 => .pointer (some ⟨t, 0, none⟩) | 2 => .pointer (some ⟨t, 1, none⟩) | 3 => .slice (some ⟨g, off, none⟩) n c | 4 => .int .i64 (k' : Int) | 5 => .pointer (some ⟨g, off + k', none⟩) | 6 => .int .i64 y' | 7 => .iface tt rv | _ => .int .i64 hz) (fun _ => false) rfl (by kernel_rfl) (by kernel_rfl) (fun _ _ _ _ h _ => h) (fun _ _ _ h => by cases h) ?_ ?_
  · intro i o hi ho a u hu hs ht
    have e0 : a.tmps.getD 0 undef = .pointer (some ⟨t, 0, none⟩) := hs 0 (of_decide_eq_true (by kernel_rfl))
    have e1 : a.tmps.getD 1 undef = .int .i64 (k' : Int) := hs 1 (of_decide_eq_true (by kernel_rfl))
    have e5 : a.tmps.getD 5 undef = .iface tt rv := hs 5 (of_decide_eq_true (by kernel_rfl))
    have FB := HT.out.only (HOW.out.trans hu) (fun h => h)
    have c1 := FB.cellv 1 rfl
    have cy := (HCC.out.keep (HOW.out.trans hu))
    have : i = 0 ∨ i = 1 ∨ i = 2 ∨ i = 3 ∨ i = 4 ∨ i = 5 ∨ i = 6 ∨ i = 7 ∨ i = 8 := by omega
    rcases this with rfl | rfl | rfl | rfl | rfl | rfl | rfl | rfl | rfl
    · obtain rfl := Option.some.inj (ho : some _ = some o)
      exact left_value (.pointer (some ⟨t, 0, none⟩)) (by simp [go_sem, e0]) rfl rfl
    · obtain rfl := Option.some.inj (ho : some _ = some o)
      have s0 : a.tmps.getD 57 undef = .pointer (some ⟨t, 0, none⟩) := ht 0 (by omega) (by kernel_rfl)
      exact left_value (.pointer (some ⟨t, 0, none⟩)) (by simp [go_sem, s0]) rfl rfl
    · obtain rfl := Option.some.inj (ho : some _ = some o)
      have s1 : a.tmps.getD 58 undef = .pointer (some ⟨t, 0, none⟩) := ht 1 (by omega) (by kernel_rfl)
      exact left_value (.pointer (some ⟨t, 1, none⟩)) (by simp [go_sem, s1]) rfl rfl
    · obtain rfl := Option.some.inj (ho : some _ = some o)
      have s2 : a.tmps.getD 59 undef = .pointer (some ⟨t, 1, none⟩) := ht 2 (by omega) (by kernel_rfl)
      exact left_value (.slice (some ⟨g, off, none⟩) n c) (by simp [go_sem, s2, c1]) rfl rfl
    · obtain rfl := Option.some.inj (ho : some _ = some o)
      exact left_value (.int .i64 (k' : Int)) (by simp [go_sem, e1]) rfl rfl
    · obtain rfl := Option.some.inj (ho : some _ = some o)
      have s3 : a.tmps.getD 60 undef = .slice (some ⟨g, off, none⟩) n c := ht 3 (by omega) (by kernel_rfl)
      have s4 : a.tmps.getD 61 undef = .int .i64 (k' : Int) := ht 4 (by omega) (by kernel_rfl)
      exact left_value (.pointer (some ⟨g, off + k', none⟩)) (by simp [go_sem, s3, s4, hkn]) rfl rfl
    · obtain rfl := Option.some.inj (ho : some _ = some o)
      have s5 : a.tmps.getD 62 undef = .pointer (some ⟨g, off + k', none⟩) := ht 5 (by omega) (by kernel_rfl)
      exact left_value (.int .i64 y') (by simp [go_sem, s5, cy]) rfl rfl
    · obtain rfl := Option.some.inj (ho : some _ = some o)
      exact left_value (.iface tt rv) (by simp [go_sem, e5]) rfl rfl
    · obtain rfl := Option.some.inj (ho : some _ = some o)
      have s7 : a.tmps.getD 64 undef = .iface tt rv := ht 7 (by omega) (by kernel_rfl)
      refine left_calls fH #[rv] (by simp [go_sem, s7, sm.mH, sm.eH]) ((cH u (HOW.out.trans hu)).mono ?_) rfl
      rintro e u' ⟨rfl, rfl⟩
      exact ⟨_, rfl, rfl, Only.refl _ _⟩
  · intro V' u3 hu hV' _
    have v0 : V' 0 = .pointer (some ⟨t, 0, none⟩) := hV' 0 (by omega)
    have v1 : V' 1 = .pointer (some ⟨t, 0, none⟩) := hV' 1 (by omega)
    have v2 : V' 2 = .pointer (some ⟨t, 1, none⟩) := hV' 2 (by omega)
    have v3 : V' 3 = .slice (some ⟨g, off, none⟩) n c := hV' 3 (by omega)
    have v4 : V' 4 = .int .i64 (k' : Int) := hV' 4 (by omega)
    have v5 : V' 5 = .pointer (some ⟨g, off + k', none⟩) := hV' 5 (by omega)
    have v6 : V' 6 = .int .i64 y' := hV' 6 (by omega)
    have v7 : V' 7 = .iface tt rv := hV' 7 (by omega)
    have v8 : V' 8 = .int .i64 hz := hV' 8 (by omega)
    change wpList _ _ _ _ (Act.put (Act.put (Act.put (Act.put (Act.put (Act.put (Act.put (Act.put (Act.put _ (some 57) (V' 0)) (some 58) (V' 1)) (some 59) (V' 2)) (some 60) (V' 3)) (some 61) (V' 4)) (some 62) (V' 5)) (some 63) (V' 6)) (some 64) (V' 7)) (some 65) (V' 8)) _
    rw [v0, v1, v2, v3, v4, v5, v6, v7, v8]
    simp only [Act.put, List.setIfInBounds_toArray, List.set_cons_zero, List.set_cons_succ]
    simp only [List.drop_succ_cons, List.drop_zero]
    clear hV' v0 v1 v2 v3 v4 v5 v6 v7 v8
    have hbx := HBX.out.keep hu
    have z12 := hbx.b12.free 0
    have z13 := hbx.b13.free 0
    have z14 := hbx.b14.free 0
    have y12 := hbx.b12.cellv 0 rfl
    have y13 := hbx.b13.cellv 0 rfl
    have y14 := hbx.b14.cellv 0 rfl
    have HF := Lib.hid (HOW.out.trans hu)
    have HBX3 := Lib.hid hbx
    clear hu hbx
    go_wp2_with fail
    have hr := HBX3.out.ret (.slice none 0 0) false 172
    change bodyPost Tryz.prog _ _ _ _ (scRet w u3 (.slice none 0 0) false 172)
    exact bodyPost_ret (v := .tuple #[.slice none 0 0, .bool false, .int .i64 172]) (by simp [results, Tryz.results40, go_sem, hr.1.cellv 0 rfl, hr.2.1.cellv 0 rfl, hr.2.2.cellv 0 rfl]) rfl ⟨rfl, scRet_none HF.out _ _ _⟩

/-- an iterator of a source, whatever the source turns -/
def ItOk (us : List (ByteArray × List UInt8)) (Kp S : Nat → Prop) (v : Value) (u : World) : Prop := ∃ gf lb, v = .func (.func gf) #[] lb ∧ (∀ args w, (callFunc gf args).run Tryz.prog w = .ok (.enter gf args) w) ∧ ∀ W, Only S u W → IterZ Tryz.prog gf lb (PairK Kp) us Kp W
theorem ItOk.only {us : List (ByteArray × List UInt8)} {Kp S : Nat → Prop} {v : Value} {u u' : World} (h : ItOk us Kp S v u) (ho : Only S u u') : ItOk us Kp S v u' := by
  obtain ⟨gf, lb, h1, h2, h3⟩ := h
  exact ⟨gf, lb, h1, h2, fun W hW => h3 W (ho.trans hW)⟩
/-- what a source's Scan tells -/
def SrcIt (us : List (ByteArray × List UInt8)) (Kp S : Nat → Prop) (QS : World → World → Prop) (u : World) (e : Ending) (u' : World) : Prop := (∃ v, e = .returned v ∧ ItOk us Kp S v u') ∧ QS u u' ∧ Only S u u'

set_option maxHeartbeats 1000000 in
theorem sscan_z (w : World) (s st N : Nat) (T U : Nat → Prop) (R : List KV) (H asked : Int) (h : SrcR w s st T U R N H asked) (hk : asked < 4611686018427387904) (hN : N ≤ NMAX) (fr tt : ByteArray) (x : Int) :
    Calls Tryz.prog 151 #[.pointer (some ⟨s, 0, none⟩), .string fr, .string tt, .int .i64 x] w (SrcIt (scanR R fr tt x) NoneOf (· = s) (fun _ w' => SrcR w' s st T U R N H (asked + 1)) w) := by
  have hbl := h.blk.lt
  refine (sscan_is w s st N T U R H asked h hk hN fr tt x).mono ?_
  rintro e w' ⟨b, rfl, h1, h2, h3⟩
  exact ⟨⟨_, rfl, _, _, rfl, fun _ _ => by kernel_rfl, h3⟩, h1, h2⟩

theorem overW_mem {ws : List We} {fr ti : ByteArray} {us : List (ByteArray × List UInt8)} {x : ByteArray × List UInt8} (h : x ∈ overW ws fr ti us) : x ∈ us ∨ x ∈ putsW ws fr ti := by
  have key : ∀ (r : List (ByteArray × List UInt8)) (s : Nat × List (ByteArray × List UInt8)), x ∈ (r.foldl (ovStep ws (putsW ws fr ti)) s).2 → x ∈ r ∨ x ∈ s.2 ∨ x ∈ putsW ws fr ti := by
    intro r
    induction r with
    | nil => intro s h; exact .inr (.inl h)
    | cons u r ih =>
      intro s h
      rw [List.foldl_cons] at h
      rcases ih _ h with h | h | h
      · exact .inl (.tail _ h)
      · unfold ovStep at h
        rcases List.mem_append.1 h with h | h
        · rcases List.mem_append.1 h with h | h
          · exact .inr (.inl h)
          · exact .inr (.inr (List.mem_of_mem_drop (List.mem_of_mem_take h)))
        · split at h
          · cases h
          · obtain rfl : x = u := by simpa using h
            exact .inl (.head _)
      · exact .inr (.inr h)
  unfold overW ovAt at h
  rcases List.mem_append.1 h with h | h
  · rcases key us _ h with h | h | h
    · exact .inl h
    · cases h
    · exact .inr h
  · exact .inr (List.mem_of_mem_drop h)
theorem putsW_len {ws : List We} {fr ti : ByteArray} {x : ByteArray × List UInt8} (hg : ∀ e ∈ ws, e.bs.length ≤ 4096) (h : x ∈ putsW ws fr ti) : x.2.length ≤ 4096 := by
  obtain ⟨e, he, hx⟩ := List.mem_filterMap.1 h
  unfold putKey at hx
  split at hx
  · cases hx
  · injection hx with hx
    rw [← hx]
    exact hg e he

end Go.Proofs.YtbhihbhjmmeibaaGreat

/-
  Layer 17: a transaction's Scan: what the walk keeps.
-/
namespace Go.Proofs.YtbhihbhjmmeibaaGreat
open Go.RowKit Go.Shelf

section
variable {P : Program} {n' : Nat}
theorem wpIn_region_head2T {id : Nat} {Q : Exit → Act → World → Prop} {l : List Oper} {a0 : Act} {W : World} (n m : Nat) (srcs : List Nat) (gv : Nat → Option Bool) (tn : Nat → Option Nat) (S : Nat → Prop) (G : Nat → World → Prop) (T : Nat → Value → World → Prop) (hsz : a0.tmps.size = m) (hm : P.follows .mixedOrders = true)
    (hB : regionB2 l.toArray n m srcs tn = true) (hskip : ∀ i o, i < n → l[i]? = some o → wantOf gv o = false → ∀ k, nextPh tn i k = k) (hgv : ∀ g, g ∈ srcs → ∀ v w, T g v w → boolOf v = gv g)
    (hT : ∀ i v w w', T i v w → Only S w w' → T i v w') (hG : G 0 { W with drawn := W.drawn + 1 })
    (hstep : ∀ i o, i < n → l[i]? = some o → ∀ a w k, G k w → (tn i = none ∨ tn i = some k) → (∀ s, (∀ j, j < n → dstOf l.toArray j ≠ s) → a.tmps.getD s undef = a0.tmps.getD s undef) →
      (∀ j, j < n → Region.waitsFor .any l.toArray i j = true → T j (a.tmps.getD (dstOf l.toArray j) undef) w) → if wantOf gv o = true then o.wp P a w (Left2 T G S tn i k o a w) Q else T i undef w)
    (hend : ∀ (V : Nat → Value) w k, G k w → (∀ i t, i < n → tn i = some t → t < k) → (∀ i, i < n → T i (V i) w) → wpListIn Fence.wide n' P l.toArray Q (l.drop n) (endFrame l.toArray n a0 V) w) :
    (Code.region id l.toArray true).wpIn Fence.wide n' P Q a0 W :=
  wpIn_region_any hm (head2_anyIn n m srcs gv tn S G T hsz hB hskip hgv hT hG (fun _ _ _ _ _ => trivial) (fun _ _ _ _ _ h => wpIn_of_wp_wide h) hstep hend)
end

/-- what region 14 has made -/
def TScT (t k : Nat) (fr ti : ByteArray) (iv : Value) (A : Option Addr) (n c : Nat) (pk : Addr) (y : Int) (us : List (ByteArray × List UInt8)) (Kp S : Nat → Prop) : Nat → Value → World → Prop
  | 0, x, _ => x = iv
  | 1, x, _ => x = .string fr
  | 2, x, _ => x = .string ti
  | 3, x, _ => x = .pointer (some ⟨t, 0, none⟩)
  | 4, x, _ => x = .pointer (some ⟨t, 0, none⟩)
  | 5, x, _ => x = .pointer (some ⟨t, 1, none⟩)
  | 6, x, _ => x = .slice A n c
  | 7, x, _ => x = .int .i64 (k : Int)
  | 8, x, _ => x = .pointer (some pk)
  | 9, x, _ => x = .int .i64 y
  | 10, x, _ => x = .func (.method "Scan") #[iv] #[]
  | 11, x, _ => x = .func (.method "Scan") #[iv] #[]
  | 12, x, _ => x = iv
  | 13, x, u => ItOk us Kp S x u
  | _, _, _ => True
theorem TScT_keep (t k : Nat) (fr ti : ByteArray) (iv : Value) (A : Option Addr) (n c : Nat) (pk : Addr) (y : Int) (us : List (ByteArray × List UInt8)) (Kp S : Nat → Prop) (i : Nat) (x : Value) (w w' : World) (h : TScT t k fr ti iv A n c pk y us Kp S i x w) (ho : Only S w w') : TScT t k fr ti iv A n c pk y us Kp S i x w' :=
  match i, h with
  | 0, h | 1, h | 2, h | 3, h | 4, h | 5, h | 6, h | 7, h | 8, h | 9, h | 10, h | 11, h | 12, h => h
  | 13, h => ItOk.only h ho
  | _ + 14, _ => trivial

/-- what stands while the pairs are told: the boxes, the pairs that are kept -/
structure ScI (w w3 : World) (lim : Int) (bp wz : Nat) (Z : Nat → Prop) (pre : List (ByteArray × List UInt8)) (A : World) : Prop where
  zb : ∀ k, Z k → wz + 2 ≤ k
  le : w.heap.size + 4 ≤ w3.heap.size ∧ w3.heap.size ≤ bp ∧ bp < wz ∧ wz + 2 ≤ A.heap.size
  box : ScBox w lim A
  only : Only NoneOf w3 A
  pb : ∃ v rs, Blk A bp 54 #[v] ∧ PRows A (wz + 2) v rs ∧ rs.map PRow.plain = pre ∧ ∀ k, PBlocks v rs k → ¬ Z k
theorem ScI.keep {w w3 : World} {lim : Int} {bp wz : Nat} {Z : Nat → Prop} {pre : List (ByteArray × List UInt8)} {A B : World} (h : ScI w w3 lim bp wz Z pre A) (ho : Only (Zw Z wz) A B) : ScI w w3 lim bp wz Z pre B := by
  obtain ⟨h1, h2, h3, h4, v, rs, h5, h6, h7, h8⟩ := h
  have hz : ∀ j, Zw Z wz j → wz ≤ j := fun j hj => by
    rcases hj with hj | hj | hj
    · have := h1 j hj; omega
    · omega
    · omega
  refine ⟨h1, ⟨h2.1, h2.2.1, h2.2.2.1, Nat.le_trans h2.2.2.2 ho.size⟩, h3.only ho (fun j hj => by have := hz j hj; omega), h4.step ho (fun j hj hj2 => by have := hz j hj2; omega), v, rs, h5.only ho (fun hj => by have := hz _ hj; omega), h6.only ho (fun j hj hj2 => ?_), h7, h8⟩
  have := (h6.lt hj).1
  rcases hj2 with hj2 | hj2 | hj2
  · exact h8 j hj hj2
  · omega
  · omega
theorem ScI.grow {w w3 : World} {lim : Int} {bp wz : Nat} {Z Z' : Nat → Prop} {pre : List (ByteArray × List UInt8)} {A B : World} (h : ScI w w3 lim bp wz Z pre A) (ho : Only Z A B) (hZ : ∀ k, Z' k → Z k ∨ A.heap.size ≤ k ∧ k < B.heap.size) : ScI w w3 lim bp wz Z' pre B := by
  obtain ⟨h1, h2, h3, h4, v, rs, h5, h6, h7, h8⟩ := h.keep (ho.mono fun _ _ h => .inl h)
  have h9 := h.pb
  have hA := h.le
  obtain ⟨v', rs', g5, g6, g7, g8⟩ := h9
  have e : #[v] = #[v'] := h5.uniq (g5.only ho fun hj => by have := h1 _ hj; omega)
  obtain rfl : v = v' := by simpa using e
  refine ⟨fun k hk => ?_, h2, h3, h4, v, rs', h5, g6.only ho (fun j hj hj2 => g8 j hj hj2), g7, fun k hk hk2 => ?_⟩
  · rcases hZ k hk with h | h
    · exact h1 k h
    · omega
  · rcases hZ k hk2 with h | h
    · exact g8 k hk h
    · have := (g6.lt hk).2; omega

/-- the answer as it stands in the boxes -/
def ScOut (w w3 : World) (wz : Nat) (Z : Nat → Prop) (ps : List (ByteArray × List UInt8)) (is : Bool) (A : World) : Prop :=
  ∃ v rs, Blk A (w.heap.size + 1) 54 #[v] ∧ Blk A (w.heap.size + 1 + 1) 4 #[.bool is] ∧ Blk A (w.heap.size + 1 + 1 + 1) 29 #[.int .i64 0] ∧ PRows A (wz + 2) v rs ∧ rs.map PRow.plain = ps ∧ (∀ k, PBlocks v rs k → ¬ Z k) ∧ Only (fun j => w.heap.size ≤ j ∧ j < w.heap.size + 4) w3 A
theorem ScOut.keep {w w3 : World} {wz : Nat} {Z : Nat → Prop} {ps : List (ByteArray × List UInt8)} {is : Bool} {A B : World} (h : ScOut w w3 wz Z ps is A) (ho : Only (Zw Z wz) A B) (hz : ∀ k, Z k → wz + 2 ≤ k) (hw : w.heap.size + 4 ≤ wz) (h3 : w3.heap.size ≤ wz) : ScOut w w3 wz Z ps is B := by
  obtain ⟨v, rs, h4, h5, h6, h7, h8, h9, h10⟩ := h
  have hz : ∀ j, Zw Z wz j → wz ≤ j := fun j hj => by
    rcases hj with hj | hj | hj
    · have := hz j hj; omega
    · omega
    · omega
  refine ⟨v, rs, h4.only ho (fun hj => by have := hz _ hj; omega), h5.only ho (fun hj => by have := hz _ hj; omega), h6.only ho (fun hj => by have := hz _ hj; omega), h7.only ho (fun j hj hj2 => ?_), h8, h9, h10.step ho (fun j hj hj2 => by have := hz j hj2; omega)⟩
  have := (h7.lt hj).1
  rcases hj2 with hj2 | hj2 | hj2
  · exact h9 j hj hj2
  · omega
  · omega
theorem ScI.out {w w3 : World} {lim : Int} {bp wz : Nat} {Z : Nat → Prop} {pre : List (ByteArray × List UInt8)} {A : World} {v : Value} {rs : List PRow} (h : ScI w w3 lim bp wz Z pre A) (h6 : PRows A (wz + 2) v rs) (h7 : rs.map PRow.plain = pre) (h8 : ∀ k, PBlocks v rs k → ¬ Z k) (is : Bool) : ScOut w w3 wz Z pre is (scRet w A v is 0) := by
  have hle := h.le
  have hr := h.box.ret v is 0
  have ho := scRet_only w A v is 0
  exact ⟨v, rs, hr.1, hr.2.1, hr.2.2, h6.only ho (fun j hj hj2 => by have := (h6.lt hj).1; omega), h7, h8, (h.only.mono fun _ _ h => h.elim).trans (ho.mono fun j _ hj => ⟨by omega, hj.2⟩)⟩
/-- what the round's exit leaves -/
def ScX (w w3 : World) (wz lim : Nat) (L : List (ByteArray × List UInt8)) (c : Code) (Z : Nat → Prop) (_ : List (ByteArray × List UInt8)) (A : World) : Prop :=
  c = .ret ∧ (∀ k, Z k → wz + 2 ≤ k) ∧ w.heap.size + 4 ≤ wz ∧ w3.heap.size ≤ wz ∧ lim < L.length ∧ ScOut w w3 wz Z (L.take lim) true A
theorem ScX.keep {w w3 : World} {wz lim : Nat} {L : List (ByteArray × List UInt8)} {c : Code} {Z : Nat → Prop} {pre : List (ByteArray × List UInt8)} {A B : World} (h : ScX w w3 wz lim L c Z pre A) (ho : Only (Zw Z wz) A B) : ScX w w3 wz lim L c Z pre B := by
  obtain ⟨h1, h2, h3, h4, h5, h6⟩ := h
  exact ⟨h1, h2, h3, h4, h5, h6.keep ho h2 h3 h4⟩

/-- what a Scan answers -/
def TScan (ps : List (ByteArray × List UInt8)) (is : Bool) (w : World) (e : Ending) (w' : World) : Prop := ∃ v rs, e = .returned (.tuple #[v, .bool is, .int .i64 0]) ∧ PRows w' w.heap.size v rs ∧ rs.map PRow.plain = ps
def TScanPost (L : List (ByteArray × List UInt8)) (lim : Nat) (S : Nat → Prop) (QS : World → World → Prop) (w : World) (e : Ending) (w' : World) : Prop :=
  TScan (L.take lim) (decide (lim < L.length)) w e w' ∧ ∃ u u', Only NoneOf w u ∧ QS u u' ∧ Only S u u' ∧ u.heap.size ≤ u'.heap.size ∧ Only (fun j => w.heap.size ≤ j ∧ j < u.heap.size) u' w'

/-- a Scan's end -/
theorem ScOut.post {w u2 A : World} {wz : Nat} {Z : Nat → Prop} {ps : List (ByteArray × List UInt8)} {is : Bool} (h : ScOut w u2 wz Z ps is A) (h1 : w.heap.size + 4 ≤ u2.heap.size) (h2 : u2.heap.size ≤ wz) :
    ∃ v rs, (A.putObj wz (.deferred none)).cell? ⟨w.heap.size + 1, 0, none⟩ = some v ∧ (A.putObj wz (.deferred none)).cell? ⟨w.heap.size + 1 + 1, 0, none⟩ = some (.bool is) ∧ (A.putObj wz (.deferred none)).cell? ⟨w.heap.size + 1 + 1 + 1, 0, none⟩ = some (.int .i64 0) ∧
      PRows (A.putObj wz (.deferred none)) w.heap.size v rs ∧ rs.map PRow.plain = ps ∧ Only (fun j => w.heap.size ≤ j ∧ j < w.heap.size + 4) u2 (A.putObj wz (.deferred none)) := by
  obtain ⟨v, rs, h4, h5, h6, h7, h8, h9, h10⟩ := h
  have ho : Only (· = wz) A (A.putObj wz (.deferred none)) := Only.putObj (S := (· = wz)) (Only.refl _ _) (.inl rfl) _
  exact ⟨v, rs, (h4.only ho (by omega)).cellv 0 rfl, (h5.only ho (by omega)).cellv 0 rfl, (h6.only ho (by omega)).cellv 0 rfl, (h7.only ho (fun j hj e => by have := (h7.lt hj).1; omega)).base (by omega), h8, h10.step ho (fun j hj e => by omega)⟩

theorem with_frame {C : Code} {F : Fence} {n : Nat} {P : Program} {Q : Exit → Act → World → Prop} {tmps : Array Value} {w : World} (h : ∀ FR, FR = tmps → C.wpIn F n P Q { tmps := FR, defers := [] } w) : C.wpIn F n P Q { tmps := tmps, defers := [] } w := h _ rfl

end Go.Proofs.YtbhihbhjmmeibaaGreat

/-
  Layer 17: a transaction's Scan: its own place.
-/
namespace Go.Proofs.YtbhihbhjmmeibaaGreat
open Go.RowKit Go.Shelf
attribute [local go_sem] Oper.semAt_some

/-- what region 22 has made -/
def ScR (v : Value) (bb : Nat) (key : ByteArray) (A : Option Addr) (nb c : Nat) (bs : List UInt8) (B : Nat) : Nat → Value → World → Prop
  | 0, x, _ => x = v
  | 1, x, _ => x = .pointer (some ⟨bb, 0, none⟩)
  | 2, x, _ => x = .string key
  | 3, x, _ => x = .pointer (some ⟨bb, 1, none⟩)
  | 4, x, _ => x = .slice A nb c
  | 5, x, w => ∃ A' c', x = .slice A' bs.length c' ∧ RowB w B x bs
  | 6, x, w => ∃ A' c', x = .agg #[.string key, .slice A' bs.length c'] ∧ RowB w B (.slice A' bs.length c') bs
  | 7, x, w => ∃ A' c' b7, x = .slice (some ⟨b7, 0, none⟩) 1 1 ∧ RowB w B (.slice A' bs.length c') bs ∧ B ≤ b7 ∧ Blk w b7 98 #[.string key, .slice A' bs.length c']
  | _, _, _ => True
theorem ScR_keep (v : Value) (bb : Nat) (key : ByteArray) (A : Option Addr) (nb c : Nat) (bs : List UInt8) (B : Nat) (i : Nat) (x : Value) (w w' : World) (h : ScR v bb key A nb c bs B i x w) (ho : Only NoneOf w w') : ScR v bb key A nb c bs B i x w' :=
  match i, h with
  | 0, h | 1, h | 2, h | 3, h | 4, h => h
  | 5, ⟨A', c', h1, h2⟩ => ⟨A', c', h1, h2.keep ho⟩
  | 6, ⟨A', c', h1, h2⟩ => ⟨A', c', h1, h2.keep ho⟩
  | 7, ⟨A', c', b7, h1, h2, h3, h4⟩ => ⟨A', c', b7, h1, h2.keep ho, h3, h4.only ho (fun h => h)⟩
  | _ + 8, _ => trivial

set_option maxRecDepth 100000 in
set_option maxHeartbeats 8000000 in
theorem txScan_own (w : World) (t p m place N : Nat) (snap : List Int) (ws : List We) (ended : Bool) (U : Nat → Prop) (h : TxR w t p m U place snap ws ended N) (hN : N ≤ 1048576)  (fr ti : ByteArray) (ln : Nat) (tt : TypeId) (rv : Value) (hc : scanE ended snap place fr ti ln = 0)
    {fG fH fS : Nat} (sm : SrcM tt rv fG fH fS) (hz : Int) (cH : ∀ u, Only NoneOf w u → Calls Tryz.prog fH #[rv] u fun e u' => e = .returned (.int .i64 hz) ∧ u = u') (y : Int) (hy : snap[place]? = some y) (hlt : ¬ y < hz) (S : Nat → Prop) (hSU : ∀ j, S j → U j) (QS : World → World → Prop) (Kp : Nat → Prop) (hKp : ∀ j, Kp j → j < w.heap.size)
    (us : List (ByteArray × List UInt8)) (hus : ∀ x ∈ us, x.1.size ≤ maxLen) (hul : ∀ x ∈ us, x.2.length ≤ 35184372088832)
    (cS : ∀ u, Only NoneOf w u → Calls Tryz.prog fS #[rv, .string fr, .string ti, .int .i64 y] u (SrcIt us Kp S QS u)) :
    Calls Tryz.prog 40 #[.pointer (some ⟨t, 0, none⟩), .int .i64 place, .string fr, .string ti, .int .i64 ln, .iface tt rv] w (TScanPost (overW ws fr ti us) ln S QS w) := by
  obtain ⟨h0, hl, hf, k', y', hkp, hy', hy0⟩ := scanE_zero hc
  obtain rfl : k' = place := by omega
  obtain rfl : y' = y := by rw [hy] at hy'; injection hy' with hy'; exact hy'.symm
  have HOP := Lib.hid (fun u (hu : Only NoneOf w u) => open_is u t p m k' N snap ws ended U (h.keep hu) (k' : Int))
  rw [h0] at HOP
  have HTX := Lib.hid h
  obtain ⟨A, c, h1, h2, h3⟩ := h.blk
  obtain ⟨g, off, rfl, hg, hcc⟩ := h2 k' y' hy
  have HCC := Lib.hid (show CellIs g off k' y' w from ⟨hg, hcc⟩)
  have hSt : ¬ S t := fun e => (h.ult t (hSU t e)).2 rfl
  have hSg : ¬ S g := fun e => (h3 g off rfl).2.2.2 (hSU g e)
  have hSl : ∀ j, S j → j < w.heap.size := fun j hj => (h.ult j (hSU j hj)).1
  have hkn : k' < snap.length := (List.getElem?_eq_some_iff.1 hy).1
  have htl := h1.lt
  have HT := Lib.hid h1
  have hO := Lib.hid (((((Only.refl NoneOf w).alloc (.cells #[.int .i64 ln] 3)).alloc (.cells #[.slice none 0 0] 54)).alloc (.cells #[.bool false] 4)).alloc (.cells #[.int .i64 0] 29))
  have hBX := ScBox.make w ln
  obtain ⟨n, hn⟩ : ∃ n, snap.length = n := ⟨_, rfl⟩
  rw [hn] at hkn HT
  obtain ⟨nf, hnf⟩ : ∃ nf, fr.size = nf := ⟨_, rfl⟩
  obtain ⟨nt, hnt⟩ : ∃ nt, ti.size = nt := ⟨_, rfl⟩
  rw [hnf, hnt] at hf
  have hk1 : ¬ (n : Int) ≤ (k' : Int) := by omega
  have hk2 : ¬ y' < 0 := by omega
  have hl1 : ¬ (ln : Int) < 1 := by omega
  have hl2 : ¬ 100 < (ln : Int) := by omega
  have hl3 : ln ≤ 100 := by omega
  have hf1 : ¬ 255 < nf := by omega
  have hf2 : ¬ 255 < nt := by omega
  have hltd : decide (y' < hz) = false := decide_eq_false hlt
  have mS := sm.mS
  have eS := sm.eS
  have nS := sm.nS
  have HKP := Lib.hid hKp
  have HSL := Lib.hid hSl
  obtain ⟨L, hL⟩ : ∃ L, (overW ws fr ti us) = L := ⟨_, rfl⟩
  have hLL : ∀ x ∈ L, x.2.length ≤ 35184372088832 := fun x hx => by
    rw [← hL] at hx
    rcases overW_mem hx with hx | hx
    · exact hul x hx
    · have := putsW_len (fun e he => (h.set.good e he).2.2.1) hx
      omega
  have HLL := Lib.hid hLL
  have HL := Lib.hid hL
  have HUS := Lib.hid hus
  rw [hL]
  clear hc h h1 h2 h3 hn h0 hkp hy hy' hl hf hcc hL hLL hus hul hKp hSl
  refine callsIn_wide (n := 1).1 (callsIn_of_wp_marks Tryz.func40 rfl trivial ?_ rfl)
  simp only [Tryz.ntmps40, List.size_toArray, List.length_cons, List.length_nil, Nat.reduceAdd, Nat.reduceSub, Array.replicate_succ, Array.replicate_zero, List.push_toArray, List.append_toArray, List.nil_append, List.cons_append]
  gi_wp2_with fail
  refine ⟨trivial, (callsIn_wide.2 (HOP.out _ hO.out)).mono ?_⟩; rintro e w1 ⟨rfl, hw1⟩
  have hOw := hO.out
  rw [hw1] at hBX hOw
  have hsw1 : w.heap.size + 4 ≤ w1.heap.size := by rw [← hw1]; simp
  have x10 := hBX.b10.cellv 0 rfl
  have d1 := (HT.out.only hOw (fun h => h)).cellv 1 rfl
  have dcc := HCC.out.keep hOw
  have HBX := Lib.hid hBX
  have HOW := Lib.hid hOw
  clear hw1 hBX hOw
  gi_upto_region 12 with (fail)
  refine wpIn_region_headT 9 112 (ConstT fun i => match i with | 0 => .pointer (some ⟨t, 0, none⟩) | 1 => .pointer (some ⟨t, 0, none⟩) | 2 => .pointer (some ⟨t, 1, none⟩) | 3 => .slice (some ⟨g, off, none⟩) n c | 4 => .int .i64 (k' : Int) | 5 => .pointer (some ⟨g, off + k', none⟩) | 6 => .int .i64 y' | 7 => .iface tt rv | _ => .int .i64 hz) (fun _ => false) rfl (by kernel_rfl) (by kernel_rfl) (fun _ _ _ _ h _ => h) (fun _ _ _ h => by cases h) ?_ ?_
  · intro i o hi ho a u hu hs ht
    have e0 : a.tmps.getD 0 undef = .pointer (some ⟨t, 0, none⟩) := hs 0 (of_decide_eq_true (by kernel_rfl))
    have e1 : a.tmps.getD 1 undef = .int .i64 (k' : Int) := hs 1 (of_decide_eq_true (by kernel_rfl))
    have e5 : a.tmps.getD 5 undef = .iface tt rv := hs 5 (of_decide_eq_true (by kernel_rfl))
    have FB := HT.out.only (HOW.out.trans hu) (fun h => h)
    have c1 := FB.cellv 1 rfl
    have cy := (HCC.out.keep (HOW.out.trans hu))
    have : i = 0 ∨ i = 1 ∨ i = 2 ∨ i = 3 ∨ i = 4 ∨ i = 5 ∨ i = 6 ∨ i = 7 ∨ i = 8 := by omega
    rcases this with rfl | rfl | rfl | rfl | rfl | rfl | rfl | rfl | rfl
    · obtain rfl := Option.some.inj (ho : some _ = some o)
      exact left_value (.pointer (some ⟨t, 0, none⟩)) (by simp [go_sem, e0]) rfl rfl
    · obtain rfl := Option.some.inj (ho : some _ = some o)
      have s0 : a.tmps.getD 57 undef = .pointer (some ⟨t, 0, none⟩) := ht 0 (by omega) (by kernel_rfl)
      exact left_value (.pointer (some ⟨t, 0, none⟩)) (by simp [go_sem, s0]) rfl rfl
    · obtain rfl := Option.some.inj (ho : some _ = some o)
      have s1 : a.tmps.getD 58 undef = .pointer (some ⟨t, 0, none⟩) := ht 1 (by omega) (by kernel_rfl)
      exact left_value (.pointer (some ⟨t, 1, none⟩)) (by simp [go_sem, s1]) rfl rfl
    · obtain rfl := Option.some.inj (ho : some _ = some o)
      have s2 : a.tmps.getD 59 undef = .pointer (some ⟨t, 1, none⟩) := ht 2 (by omega) (by kernel_rfl)
      exact left_value (.slice (some ⟨g, off, none⟩) n c) (by simp [go_sem, s2, c1]) rfl rfl
    · obtain rfl := Option.some.inj (ho : some _ = some o)
      exact left_value (.int .i64 (k' : Int)) (by simp [go_sem, e1]) rfl rfl
    · obtain rfl := Option.some.inj (ho : some _ = some o)
      have s3 : a.tmps.getD 60 undef = .slice (some ⟨g, off, none⟩) n c := ht 3 (by omega) (by kernel_rfl)
      have s4 : a.tmps.getD 61 undef = .int .i64 (k' : Int) := ht 4 (by omega) (by kernel_rfl)
      exact left_value (.pointer (some ⟨g, off + k', none⟩)) (by simp [go_sem, s3, s4, hkn]) rfl rfl
    · obtain rfl := Option.some.inj (ho : some _ = some o)
      have s5 : a.tmps.getD 62 undef = .pointer (some ⟨g, off + k', none⟩) := ht 5 (by omega) (by kernel_rfl)
      exact left_value (.int .i64 y') (by simp [go_sem, s5, cy]) rfl rfl
    · obtain rfl := Option.some.inj (ho : some _ = some o)
      exact left_value (.iface tt rv) (by simp [go_sem, e5]) rfl rfl
    · obtain rfl := Option.some.inj (ho : some _ = some o)
      have s7 : a.tmps.getD 64 undef = .iface tt rv := ht 7 (by omega) (by kernel_rfl)
      refine left_calls fH #[rv] (by simp [go_sem, s7, sm.mH, sm.eH]) ((cH u (HOW.out.trans hu)).mono ?_) rfl
      rintro e u' ⟨rfl, rfl⟩
      exact ⟨_, rfl, rfl, Only.refl _ _⟩
  · intro V' u3 hu hV' _
    have v0 : V' 0 = .pointer (some ⟨t, 0, none⟩) := hV' 0 (by omega)
    have v1 : V' 1 = .pointer (some ⟨t, 0, none⟩) := hV' 1 (by omega)
    have v2 : V' 2 = .pointer (some ⟨t, 1, none⟩) := hV' 2 (by omega)
    have v3 : V' 3 = .slice (some ⟨g, off, none⟩) n c := hV' 3 (by omega)
    have v4 : V' 4 = .int .i64 (k' : Int) := hV' 4 (by omega)
    have v5 : V' 5 = .pointer (some ⟨g, off + k', none⟩) := hV' 5 (by omega)
    have v6 : V' 6 = .int .i64 y' := hV' 6 (by omega)
    have v7 : V' 7 = .iface tt rv := hV' 7 (by omega)
    have v8 : V' 8 = .int .i64 hz := hV' 8 (by omega)
    change wpListIn _ _ _ _ _ _ (Act.put (Act.put (Act.put (Act.put (Act.put (Act.put (Act.put (Act.put (Act.put _ (some 57) (V' 0)) (some 58) (V' 1)) (some 59) (V' 2)) (some 60) (V' 3)) (some 61) (V' 4)) (some 62) (V' 5)) (some 63) (V' 6)) (some 64) (V' 7)) (some 65) (V' 8)) _
    rw [v0, v1, v2, v3, v4, v5, v6, v7, v8]
    simp only [Act.put, List.setIfInBounds_toArray, List.set_cons_zero, List.set_cons_succ]
    simp only [List.drop_succ_cons, List.drop_zero]
    clear hV' v0 v1 v2 v3 v4 v5 v6 v7 v8
    have hsu := hu.size
    have HBX3 := Lib.hid (HBX.out.keep hu)
    have HF := Lib.hid (HOW.out.trans hu)
    clear hu
    gi_upto_region 14 with (fail)
    refine wpIn_region_head2T 14 112 [] (fun _ => none) (fun i => match i with | 13 => some 0 | _ => none) S (GtG u3 S (fun a b => QS a b ∧ Only S a b)) (TScT t k' fr ti (.iface tt rv) (some ⟨g, off, none⟩) n c ⟨g, off + k', none⟩ y' us Kp S) rfl (by kernel_rfl) (by kernel_rfl) ?hskip ?hgv (TScT_keep _ _ _ _ _ _ _ _ _ _ _ _ _) ((Only.refl _ _).drew) ?hstep ?hend
    case hskip =>
      intro i o hi ho hw k
      have : i = 0 ∨ i = 1 ∨ i = 2 ∨ i = 3 ∨ i = 4 ∨ i = 5 ∨ i = 6 ∨ i = 7 ∨ i = 8 ∨ i = 9 ∨ i = 10 ∨ i = 11 ∨ i = 12 ∨ i = 13 := by omega
      rcases this with rfl | rfl | rfl | rfl | rfl | rfl | rfl | rfl | rfl | rfl | rfl | rfl | rfl | rfl
      · rfl
      · rfl
      · rfl
      · rfl
      · rfl
      · rfl
      · rfl
      · rfl
      · rfl
      · rfl
      · rfl
      · rfl
      · rfl
      · obtain rfl := Option.some.inj (ho : some _ = some o); exact absurd (show true = false from hw) (by decide)
    case hgv =>
      intro g hg v w h
      cases hg
    case hstep =>
      intro i o hi ho a u k hk hik hs ht
      have e0 : a.tmps.getD 0 undef = .pointer (some ⟨t, 0, none⟩) := hs 0 (of_decide_eq_true (by kernel_rfl))
      have e1 : a.tmps.getD 1 undef = .int .i64 (k' : Int) := hs 1 (of_decide_eq_true (by kernel_rfl))
      have e2 : a.tmps.getD 2 undef = .string fr := hs 2 (of_decide_eq_true (by kernel_rfl))
      have e3 : a.tmps.getD 3 undef = .string ti := hs 3 (of_decide_eq_true (by kernel_rfl))
      have e5 : a.tmps.getD 5 undef = .iface tt rv := hs 5 (of_decide_eq_true (by kernel_rfl))
      have FO := hk.only
      have FB := (HT.out.only HF.out (fun h => h)).only FO hSt
      have c1 := FB.cellv 1 rfl
      have cy := (FO.cell (p := ⟨g, off + k', none⟩) (Nat.lt_of_lt_of_le HCC.out.1 HF.out.size) hSg).trans (HCC.out.keep HF.out)
      have : i = 0 ∨ i = 1 ∨ i = 2 ∨ i = 3 ∨ i = 4 ∨ i = 5 ∨ i = 6 ∨ i = 7 ∨ i = 8 ∨ i = 9 ∨ i = 10 ∨ i = 11 ∨ i = 12 ∨ i = 13 := by omega
      rcases this with rfl | rfl | rfl | rfl | rfl | rfl | rfl | rfl | rfl | rfl | rfl | rfl | rfl | rfl
      · obtain rfl := Option.some.inj (ho : some _ = some o)
        rw [if_pos (by decide)]
        exact left2_value (.iface tt rv) (by simp [go_sem, e5]) rfl rfl hk
      · obtain rfl := Option.some.inj (ho : some _ = some o)
        rw [if_pos (by decide)]
        exact left2_value (.string fr) (by simp [go_sem, e2]) rfl rfl hk
      · obtain rfl := Option.some.inj (ho : some _ = some o)
        rw [if_pos (by decide)]
        exact left2_value (.string ti) (by simp [go_sem, e3]) rfl rfl hk
      · obtain rfl := Option.some.inj (ho : some _ = some o)
        rw [if_pos (by decide)]
        exact left2_value (.pointer (some ⟨t, 0, none⟩)) (by simp [go_sem, e0]) rfl rfl hk
      · obtain rfl := Option.some.inj (ho : some _ = some o)
        rw [if_pos (by decide)]
        have s3 : a.tmps.getD 70 undef = .pointer (some ⟨t, 0, none⟩) := ht 3 (by omega) (by kernel_rfl)
        exact left2_value (.pointer (some ⟨t, 0, none⟩)) (by simp [go_sem, s3]) rfl rfl hk
      · obtain rfl := Option.some.inj (ho : some _ = some o)
        rw [if_pos (by decide)]
        have s4 : a.tmps.getD 71 undef = .pointer (some ⟨t, 0, none⟩) := ht 4 (by omega) (by kernel_rfl)
        exact left2_value (.pointer (some ⟨t, 1, none⟩)) (by simp [go_sem, s4]) rfl rfl hk
      · obtain rfl := Option.some.inj (ho : some _ = some o)
        rw [if_pos (by decide)]
        have s5 : a.tmps.getD 72 undef = .pointer (some ⟨t, 1, none⟩) := ht 5 (by omega) (by kernel_rfl)
        exact left2_value (.slice (some ⟨g, off, none⟩) n c) (by simp [go_sem, s5, c1]) rfl rfl hk
      · obtain rfl := Option.some.inj (ho : some _ = some o)
        rw [if_pos (by decide)]
        exact left2_value (.int .i64 (k' : Int)) (by simp [go_sem, e1]) rfl rfl hk
      · obtain rfl := Option.some.inj (ho : some _ = some o)
        rw [if_pos (by decide)]
        have s6 : a.tmps.getD 73 undef = .slice (some ⟨g, off, none⟩) n c := ht 6 (by omega) (by kernel_rfl)
        have s7 : a.tmps.getD 74 undef = .int .i64 (k' : Int) := ht 7 (by omega) (by kernel_rfl)
        exact left2_value (.pointer (some ⟨g, off + k', none⟩)) (by simp [go_sem, s6, s7, hkn]) rfl rfl hk
      · obtain rfl := Option.some.inj (ho : some _ = some o)
        rw [if_pos (by decide)]
        have s8 : a.tmps.getD 75 undef = .pointer (some ⟨g, off + k', none⟩) := ht 8 (by omega) (by kernel_rfl)
        exact left2_value (.int .i64 y') (by simp [go_sem, s8, cy]) rfl rfl hk
      · obtain rfl := Option.some.inj (ho : some _ = some o)
        rw [if_pos (by decide)]
        have s0 : a.tmps.getD 67 undef = .iface tt rv := ht 0 (by omega) (by kernel_rfl)
        exact left2_value (.func (.method "Scan") #[.iface tt rv] #[]) (by simp [go_sem, s0]) rfl rfl hk
      · obtain rfl := Option.some.inj (ho : some _ = some o)
        rw [if_pos (by decide)]
        have s10 : a.tmps.getD 77 undef = .func (.method "Scan") #[.iface tt rv] #[] := ht 10 (by omega) (by kernel_rfl)
        exact left2_value (.func (.method "Scan") #[.iface tt rv] #[]) (by simp [go_sem, s10, nS]) rfl rfl hk
      · obtain rfl := Option.some.inj (ho : some _ = some o)
        rw [if_pos (by decide)]
        have s0 : a.tmps.getD 67 undef = .iface tt rv := ht 0 (by omega) (by kernel_rfl)
        have s10 : a.tmps.getD 77 undef = .func (.method "Scan") #[.iface tt rv] #[] := ht 10 (by omega) (by kernel_rfl)
        have s11 : a.tmps.getD 78 undef = .func (.method "Scan") #[.iface tt rv] #[] := ht 11 (by omega) (by kernel_rfl)
        exact left2_value (.iface tt rv) (by simp [go_sem, s0]) rfl rfl hk
      · obtain rfl := Option.some.inj (ho : some _ = some o)
        rw [if_pos (by decide)]
        have s1 : a.tmps.getD 68 undef = .string fr := ht 1 (by omega) (by kernel_rfl)
        have s2 : a.tmps.getD 69 undef = .string ti := ht 2 (by omega) (by kernel_rfl)
        have s9 : a.tmps.getD 76 undef = .int .i64 y' := ht 9 (by omega) (by kernel_rfl)
        have s12 : a.tmps.getD 79 undef = .iface tt rv := ht 12 (by omega) (by kernel_rfl)
        obtain rfl : k = 0 := by
          rcases hik with h | h
          · cases h
          · injection h with h; exact h.symm
        refine left2_turns fS #[rv, .string fr, .string ti, .int .i64 y'] (by simp [go_sem, s1, s2, s9, s12, mS, eS]) ((cS u (HF.out.trans hk)).mono ?_) rfl
        rintro e u' ⟨⟨v, rfl, hv⟩, hq, ho⟩
        exact ⟨_, rfl, hv, ⟨(hk.mono fun _ _ h => h.elim).trans ho, u, u', hk, ⟨hq, ho⟩, ho.size, Only.refl _ _⟩, ho⟩
    case hend =>
      intro V' u4 k hk hkt hV'
      have v0 : V' 0 = .iface tt rv := hV' 0 (by omega)
      have v1 : V' 1 = .string fr := hV' 1 (by omega)
      have v2 : V' 2 = .string ti := hV' 2 (by omega)
      have v3 : V' 3 = .pointer (some ⟨t, 0, none⟩) := hV' 3 (by omega)
      have v4 : V' 4 = .pointer (some ⟨t, 0, none⟩) := hV' 4 (by omega)
      have v5 : V' 5 = .pointer (some ⟨t, 1, none⟩) := hV' 5 (by omega)
      have v6 : V' 6 = .slice (some ⟨g, off, none⟩) n c := hV' 6 (by omega)
      have v7 : V' 7 = .int .i64 (k' : Int) := hV' 7 (by omega)
      have v8 : V' 8 = .pointer (some ⟨g, off + k', none⟩) := hV' 8 (by omega)
      have v9 : V' 9 = .int .i64 y' := hV' 9 (by omega)
      have v10 : V' 10 = .func (.method "Scan") #[.iface tt rv] #[] := hV' 10 (by omega)
      have v11 : V' 11 = .func (.method "Scan") #[.iface tt rv] #[] := hV' 11 (by omega)
      have v12 : V' 12 = .iface tt rv := hV' 12 (by omega)
      obtain ⟨vd, v13⟩ : ∃ v, V' 13 = v := ⟨_, rfl⟩
      have h13 : ItOk us Kp S vd u4 := by rw [← v13]; exact hV' 13 (by omega)
      have hk0 : 0 < k := hkt 13 0 (by omega) rfl
      change wpListIn _ _ _ _ _ _ (Act.put (Act.put (Act.put (Act.put (Act.put (Act.put (Act.put (Act.put (Act.put (Act.put (Act.put (Act.put (Act.put (Act.put _ (some 67) (V' 0)) (some 68) (V' 1)) (some 69) (V' 2)) (some 70) (V' 3)) (some 71) (V' 4)) (some 72) (V' 5)) (some 73) (V' 6)) (some 74) (V' 7)) (some 75) (V' 8)) (some 76) (V' 9)) (some 77) (V' 10)) (some 78) (V' 11)) (some 79) (V' 12)) (some 80) (V' 13)) _
      rw [v0, v1, v2, v3, v4, v5, v6, v7, v8, v9, v10, v11, v12, v13]
      simp only [Act.put, List.setIfInBounds_toArray, List.set_cons_zero, List.set_cons_succ]
      simp only [List.drop_succ_cons, List.drop_zero]
      clear hV' v0 v1 v2 v3 v4 v5 v6 v7 v8 v9 v10 v11 v12 v13
      obtain ⟨u1, u2, hq1, ⟨hq2, hq2s⟩, hq3, hq4⟩ : ∃ u1 u2, Only NoneOf u3 u1 ∧ (QS u1 u2 ∧ Only S u1 u2) ∧ u1.heap.size ≤ u2.heap.size ∧ Only NoneOf u2 u4 := by
        cases k with
        | zero => omega
        | succ k => exact hk.2
      obtain ⟨gf, lb, rfl, eg, hit⟩ := h13
      have hOk := hk.only
      have hsz1 := hq1.size
      have hsz4 := hq4.size
      have hOS : Only S w u4 := (HF.out.mono fun _ _ h => h.elim).trans hOk
      have FB4 := (HT.out.only HF.out (fun h => h)).only hOk hSt
      have f0 := FB4.cellv 0 rfl
      have f2 := FB4.cellv 2 rfl
      have HBX4 := HBX3.out.only hOk (fun j hj => .inl (HSL.out j hj))
      have HQ := Lib.hid hq2
      have HQS := Lib.hid hq2s
      have HQ1 := Lib.hid (HF.out.trans hq1)
      have HQ4 := Lib.hid hq4
      have HIT := Lib.hid hit
      have HOS := Lib.hid hOS
      clear hq1 hq2 hq2s hq4 hit hk hkt hOk FB4 hOS
      gi_wp2_with fail
      refine ⟨trivial, (callsIn_wide.2 (over_is u4 p fr ti gf lb)).mono ?_⟩; rintro e w5 ⟨rfl, hw5⟩
      have hO5 : Only NoneOf u4 w5 := by rw [← hw5]; exact ((((Only.refl _ _).alloc _).alloc _).alloc _).alloc _
      have hs5 : w5.heap.size = u4.heap.size + 4 := by rw [← hw5]; simp [overBoxes]
      have k0 : w5.cell? ⟨u4.heap.size, 0, none⟩ = some (.pointer (some ⟨p, 0, none⟩)) := by rw [← hw5]; exact ((((Blk.new u4 89 #[.pointer (some ⟨p, 0, none⟩)]).alloc _).alloc _).alloc _).cellv 0 rfl
      have k1 : w5.cell? ⟨u4.heap.size + 1, 0, none⟩ = some (.string fr) := by rw [← hw5]; exact (((Blk.new' (u4.alloc (.cells #[.pointer (some ⟨p, 0, none⟩)] 89)) 9 #[.string fr] (n := u4.heap.size + 1) (by simp)).alloc _).alloc _).cellv 0 rfl
      have k2 : w5.cell? ⟨u4.heap.size + 2, 0, none⟩ = some (.string ti) := by rw [← hw5]; exact ((Blk.new' ((u4.alloc (.cells #[.pointer (some ⟨p, 0, none⟩)] 89)).alloc (.cells #[.string fr] 9)) 9 #[.string ti] (n := u4.heap.size + 2) (by simp)).alloc _).cellv 0 rfl
      have k3 : w5.cell? ⟨u4.heap.size + 3, 0, none⟩ = some (.func (.func gf) #[] lb) := by rw [← hw5]; exact (Blk.new' (((u4.alloc (.cells #[.pointer (some ⟨p, 0, none⟩)] 89)).alloc (.cells #[.string fr] 9)).alloc (.cells #[.string ti] 9)) 151 #[.func (.func gf) #[] lb] (n := u4.heap.size + 3) (by simp)).cellv 0 rfl
      have HIT2 := Lib.hid (show ∀ W, Only NoneOf w5 W → IterZ Tryz.prog 92 (scanFn u4.heap.size) PairE L Kp W from fun W hW => by
        have h5 := hO5.trans hW
        have tr : ∀ i v, w5.cell? ⟨u4.heap.size + i, 0, none⟩ = some v → W.cell? ⟨u4.heap.size + i, 0, none⟩ = some v := fun i v hv => (hW.cell (p := ⟨u4.heap.size + i, 0, none⟩) (World.block_lt_of_cell? _ _ hv) (fun h => h)).trans hv
        have hOW : Only S w W := HOS.out.trans (h5.mono fun _ _ h => h.elim)
        have htx := HTX.out.other hOW (U' := U) hSU (fun j hj => ⟨Nat.lt_of_lt_of_le (HTX.out.ult j hj).1 hOW.size, .inl hj⟩)
        rw [← HL.out]
        exact over_iter W (fun j hj => Nat.lt_of_lt_of_le (HKP.out j hj) hOW.size) u4.heap.size p m N _ ws fr ti gf lb us htx.set hN (tr 0 _ k0) (tr 1 _ k1) (tr 2 _ k2) (tr 3 _ k3) eg HUS.out (fun W' hW' => HIT.out W' ((h5.trans hW').mono fun _ _ h => h.elim)))
      have hBX5 := HBX4.keep hO5
      have eg2 : ∀ args w, (callFunc 92 args).run Tryz.prog w = .ok (.enter 92 args) w := fun _ _ => by kernel_rfl
      have HO5 := Lib.hid (HQ4.out.trans hO5)
      clear hO5 hw5 k0 k1 k2 k3
      gi_wp2_with fail
      rename_i K hK
      have HK := Lib.hid hK
      clear hK
      have hbp := Blk.new' w5 54 #[.slice none 0 0] (n := (u4.heap.size + 4)) (by omega)
      have hOa : Only NoneOf w5 (w5.alloc (.cells #[.slice none 0 0] 54)) := (Only.refl _ _).alloc _
      have hwz : (w5.alloc (.cells #[.slice none 0 0] 54)).heap.size = (u4.heap.size + 4) + 1 := by simp; try omega
      have hs5' : (u4.heap.size + 4) = w5.heap.size := by omega
      obtain ⟨wA, hwA⟩ : ∃ wA, w5.alloc (.cells #[.slice none 0 0] 54) = wA := ⟨_, rfl⟩
      rw [hwA] at hbp hOa hwz ⊢
      have HBP := Lib.hid hbp
      have HBX6 := Lib.hid (hBX5.keep hOa)
      have HO6 := Lib.hid (HO5.out.trans hOa)
      have HIT3 := Lib.hid (fun W (hW : Only NoneOf wA W) => HIT2.out W (hOa.trans hW))
      have hwu : w.heap.size + 4 ≤ u2.heap.size := by omega
      have hub : u2.heap.size ≤ (u4.heap.size + 4) := by have := HO5.out.size; omega
      have HEG := Lib.hid eg2
      clear hs5'
      clear hs5
      clear hbp hOa hwA HIT2 HO5 hBX5 eg eg2 HBX4 x10 d1 dcc f0 f2
      refine with_frame fun FR hFR => ?_
      refine range_ownZ (α := ByteArray × List UInt8) (xs := L) (Enc := PairE) (Kp := Kp) (Nat.le_refl 1) (by rw [hFR]; rfl) HEG.out
        (fun Wn hn _ => HIT3.out Wn hn) (fun n x args A h => by obtain ⟨v, c, rfl, _⟩ := h; rfl) (fun {k} hk hh => by have := HKP.out k hh; omega)
        (fun Z pre A => ScI w u2 ln (u4.heap.size + 4) wA.heap.size Z pre A ∧ pre.length ≤ ln) (ScX w u2 wA.heap.size ln L)
        (fun Z pre A B hs ho => ⟨hs.1.keep ho, hs.2⟩)
        (fun c Z pre A B hs ho => hs.keep ho)
        (fun Z Z' pre A0 A _ _ hs ho h1 h2 => ⟨hs.1.grow ho h2, hs.2⟩)
        (fun Z B hZ hB ho => ⟨⟨fun k hk => (hZ k hk).1, ⟨hwu, hub, by omega, hB⟩, HBX6.out.keep ho, HO6.out.trans ho, _, [], HBP.out.only ho (fun h => h), BRows.nil _ _, rfl, fun k hk => by
          rcases hk with hk | ⟨r, hr, _⟩
          · simp [Value.ownBlock] at hk
          · cases hr⟩, Nat.zero_le _⟩)
        (fun n x a' A => ∃ bb vA vc, n ≤ bb ∧ wA.heap.size + 2 ≤ n ∧ Blk A bb 98 #[.string x.1, .slice vA x.2.length vc] ∧ BytesAt A vA x.2 ∧ (x.2 ≠ [] → ∀ g off, vA = some ⟨g, off, none⟩ → g ≠ wA.heap.size + 1) ∧ a' = { tmps := (FR.setIfInBounds 96 (.agg #[.string x.1, .slice vA x.2.length vc])).setIfInBounds 18 (.pointer (some ⟨bb, 0, none⟩)), defers := [] })
        (fun n x a' A B hs ho => by
          obtain ⟨bb, vA, vc, h1, h2, h3, h4, h5, h6⟩ := hs
          exact ⟨bb, vA, vc, h1, h2, h3.only ho (by omega), h4.turn ho (fun hne g off hA => h5 hne g off hA), h5, h6⟩)
        ?assign ?body ?done ?stop
      case assign =>
        rintro ⟨key, bs⟩ args A0 Wa Kc hx hsz ⟨rl, hlp⟩ hA0 ⟨vA, vc, rfl, hby⟩ hKc
        simp only at hby ⊢
        rw [hFR]
        gi_wp2
        refine hKc _ _ ((Only.refl _ _).alloc _) ⟨Wa.heap.size, vA, vc, by have := hA0.size; omega, hsz, Blk.new _ _ _, hby.keep ((Only.refl _ _).alloc _), fun hne g' off' hA' e => ?_, by rw [hFR]; rfl⟩
        obtain ⟨g'', off'', hA'', hg'', hc''⟩ := hby 0 _ (List.getElem?_eq_getElem (List.length_pos_iff.2 hne))
        rw [hA'] at hA''
        simp only [Option.some.injEq, Addr.mk.injEq, and_true] at hA''
        rw [← hA''.1, e] at hc''
        unfold World.cell? at hc''
        rw [hlp] at hc''
        simp at hc''
      case body =>
        have HWZ := Lib.hid hwz
        rintro Zu pre ⟨key, bs⟩ a' A0 Wb ⟨rl, hlp⟩ hszA hZu hpre ⟨hI0, hlen⟩ hoAW ⟨bb, vA, vc, hbb, hn, hB, hby, hne, rfl⟩
        have hI := hI0.keep hoAW
        have hle := hI.le
        obtain ⟨v0, rs, hpb, hR, hpl, hng⟩ := hI.pb
        obtain ⟨Aq, cq, rfl⟩ := ownsRow_slice hR.own
        have hrl : rs.length = pre.length := by rw [← hpl, List.length_map]
        simp only at hB hby hne
        have hbl := HLL.out (key, bs) (hpre.subset (by simp))
        simp only at hbl
        obtain ⟨nr, hnr⟩ : ∃ nr, rs.length = nr := ⟨_, rfl⟩
        obtain ⟨nb, hnb⟩ : ∃ nb, bs.length = nb := ⟨_, rfl⟩
        have hpb' := hpb
        rw [hnr] at hpb'
        have b17 := hpb'.cellv 0 rfl
        have b10 := hI.box.b10.cellv 0 rfl
        have z12 := hI.box.b12.free 0
        have z13 := hI.box.b13.free 0
        have z14 := hI.box.b14.free 0
        have y12 := hI.box.b12.cellv 0 rfl
        have y13 := hI.box.b13.cellv 0 rfl
        have y14 := hI.box.b14.cellv 0 rfl
        have HI := Lib.hid hI
        have HAB := Lib.hid hpb'
        have HR := Lib.hid hR
        have HPL := Lib.hid hpl
        have HNG := Lib.hid hng
        have HPRE := Lib.hid hpre
        have HB8 := Lib.hid (show Blk Wb bb 98 #[.string key, .slice vA nb vc] by rw [← hnb]; exact hB)
        have HBY := Lib.hid hby
        have HNR := Lib.hid hnr
        have hnl : nb ≤ 35184372088832 := by omega
        have hNB := Lib.hid hnb
        have HZL := Lib.hid (show ∀ k, Zu k → k < Wb.heap.size from fun k hk => Nat.lt_of_lt_of_le (hZu k hk).2 hoAW.size)
        have HZB := Lib.hid (show ∀ k, Zu k → wA.heap.size + 2 ≤ k from hI.zb)
        rw [hFR]
        simp only [List.setIfInBounds_toArray, List.set_cons_zero, List.set_cons_succ]
        rw [hnb]
        clear hwz hI hI0 hpb hR hpl hng hpre hby hne hB hpb' hlp hZu hoAW
        by_cases hq : nr = ln
        · have hq1 : ((nr : Int) == (ln : Int)) = true := by rw [hq]; simp
          gi_wp2_with fail
          have hwz := HWZ.out
          have hout := HI.out.out HR.out HPL.out HNG.out true
          rw [HNR.out, hq] at hout
          have hpl := HPRE.out.length_le
          rw [List.length_append, List.length_singleton] at hpl
          have hp2 : pre <+: L := (List.prefix_append _ _).trans HPRE.out
          have htk : L.take ln = pre := by rw [List.prefix_iff_eq_take.1 hp2, ← hrl, HNR.out, hq]
          refine ⟨(scRet_only w Wb (.slice Aq ln cq) true 0).mono (S' := Rest (Zw Zu wA.heap.size) Kp) fun j _ hj => ⟨fun hz => ?_, fun hk => ?_⟩, rfl, HZB.out, by omega, by omega, by omega, by rw [htk]; exact hout⟩
          · rcases hz with hz | hz | hz
            · have := HZB.out j hz; omega
            · omega
            · omega
          · have := HKP.out j hk; omega
        · have hq1 : ((nr : Int) == (ln : Int)) = false := beq_eq_false_iff_ne.2 (by omega)
          have hq2 : ¬ (nr : Int) = (ln : Int) := by omega
          obtain ⟨i0, hi, hz0, hz1, hz3⟩ := info_parts info48
          gi_upto_region 22 with (fail)
          obtain ⟨v, hv⟩ : ∃ v, Value.slice Aq nr cq = v := ⟨_, rfl⟩
          rw [hv] at HAB
          refine wpIn_region_head 8 112 (ScR v bb key vA nb vc bs Wb.heap.size) (fun _ => false) rfl (by kernel_rfl) (by kernel_rfl) (by kernel_rfl) (fun ⟨_, _, h⟩ => h) (ScR_keep _ _ _ _ _ _ _ _) (fun _ _ _ h => by cases h) ?_ ?_
          · intro i o hi ho a u hu hs ht
            have e17 : a.tmps.getD 17 undef = .pointer (some ⟨(u4.heap.size + 4), 0, none⟩) := hs 17 (of_decide_eq_true (by kernel_rfl))
            have e18 : a.tmps.getD 18 undef = .pointer (some ⟨bb, 0, none⟩) := hs 18 (of_decide_eq_true (by kernel_rfl))
            have F8 := HB8.out.only hu (fun h => h)
            have c0 := F8.cellv 0 rfl
            have c1 := F8.cellv 1 rfl
            have a17 := (HAB.out.only hu (fun h => h)).cellv 0 rfl
            have : i = 0 ∨ i = 1 ∨ i = 2 ∨ i = 3 ∨ i = 4 ∨ i = 5 ∨ i = 6 ∨ i = 7 := by omega
            rcases this with rfl | rfl | rfl | rfl | rfl | rfl | rfl | rfl
            · obtain rfl := Option.some.inj (ho : some _ = some o)
              exact left_value (v) (by simp [go_sem, e17, a17]) rfl rfl
            · obtain rfl := Option.some.inj (ho : some _ = some o)
              exact left_value (.pointer (some ⟨bb, 0, none⟩)) (by simp [go_sem, e18]) rfl rfl
            · obtain rfl := Option.some.inj (ho : some _ = some o)
              have s1 : a.tmps.getD 103 undef = .pointer (some ⟨bb, 0, none⟩) := ht 1 (by omega) (by kernel_rfl)
              exact left_value (.string key) (by simp [go_sem, s1, c0]) rfl rfl
            · obtain rfl := Option.some.inj (ho : some _ = some o)
              exact left_value (.pointer (some ⟨bb, 1, none⟩)) (by simp [go_sem, e18]) rfl rfl
            · obtain rfl := Option.some.inj (ho : some _ = some o)
              have s3 : a.tmps.getD 105 undef = .pointer (some ⟨bb, 1, none⟩) := ht 3 (by omega) (by kernel_rfl)
              exact left_value (.slice vA nb vc) (by simp [go_sem, s3, c1]) rfl rfl
            · obtain rfl := Option.some.inj (ho : some _ = some o)
              have s4 : a.tmps.getD 106 undef = .slice vA nb vc := ht 4 (by omega) (by kernel_rfl)
              refine left_calls 66 #[.slice vA nb vc] (by simp [go_sem, s4]) ((own_ist vA nb vc bs u hnb (HBY.out.keep hu) hnl).mono ?_) rfl
              rintro e u' ⟨v', rfl, hr, ho'⟩
              obtain ⟨A', c', rfl, _⟩ := hr.at
              exact ⟨_, rfl, ⟨A', c', rfl, hr.base hu.size⟩, ho'⟩
            · obtain rfl := Option.some.inj (ho : some _ = some o)
              have s2 : a.tmps.getD 104 undef = .string key := ht 2 (by omega) (by kernel_rfl)
              have s2' : a.tmps[104]?.getD undef = .string key := by simpa using s2
              obtain ⟨A', c', s5, hr⟩ : ∃ A' c', a.tmps.getD 107 undef = .slice A' bs.length c' ∧ RowB u Wb.heap.size (a.tmps.getD 107 undef) bs := ht 5 (by omega) (by kernel_rfl)
              rw [s5] at hr
              have s5' : a.tmps[107]?.getD undef = .slice A' bs.length c' := by simpa using s5
              exact left_value (.agg #[.string key, .slice A' bs.length c']) (by simp [go_sem, s2', s5']) rfl ⟨A', c', rfl, hr⟩
            · obtain rfl := Option.some.inj (ho : some _ = some o)
              obtain ⟨A', c', s6, hr⟩ : ∃ A' c', a.tmps.getD 108 undef = .agg #[.string key, .slice A' bs.length c'] ∧ RowB u Wb.heap.size (.slice A' bs.length c') bs := ht 6 (by omega) (by kernel_rfl)
              have s6' : a.tmps[108]?.getD undef = .agg #[.string key, .slice A' bs.length c'] := by simpa using s6
              exact left_to (.slice (some ⟨u.heap.size, 0, none⟩) 1 1) (u.alloc (.cells #[.string key, .slice A' bs.length c'] 98)) (by simp [go_sem, s6']) rfl ⟨A', c', _, rfl, hr.keep ((Only.refl _ _).alloc _), hu.size, Blk.new _ _ _⟩ ((Only.refl _ _).alloc _)
          · intro V' u hu hV' _
            have v0 : V' 0 = v := hV' 0 (by omega)
            have v1 : V' 1 = .pointer (some ⟨bb, 0, none⟩) := hV' 1 (by omega)
            have v2 : V' 2 = .string key := hV' 2 (by omega)
            have v3 : V' 3 = .pointer (some ⟨bb, 1, none⟩) := hV' 3 (by omega)
            have v4 : V' 4 = .slice vA nb vc := hV' 4 (by omega)
            obtain ⟨A5, c5, v5, _⟩ : ∃ A' c', V' 5 = .slice A' bs.length c' ∧ RowB u Wb.heap.size (V' 5) bs := hV' 5 (by omega)
            obtain ⟨A6, c6, v6, _⟩ : ∃ A' c', V' 6 = .agg #[.string key, .slice A' bs.length c'] ∧ RowB u Wb.heap.size (.slice A' bs.length c') bs := hV' 6 (by omega)
            obtain ⟨A', c', b7, v7, hr, hb7, hN7⟩ : ∃ A' c' b7, V' 7 = .slice (some ⟨b7, 0, none⟩) 1 1 ∧ RowB u Wb.heap.size (.slice A' bs.length c') bs ∧ Wb.heap.size ≤ b7 ∧ Blk u b7 98 #[.string key, .slice A' bs.length c'] := hV' 7 (by omega)
            change wpList _ _ _ _ (Act.put (Act.put (Act.put (Act.put (Act.put (Act.put (Act.put (Act.put _ (some 102) (V' 0)) (some 103) (V' 1)) (some 104) (V' 2)) (some 105) (V' 3)) (some 106) (V' 4)) (some 107) (V' 5)) (some 108) (V' 6)) (some 109) (V' 7)) _
            rw [v0, v1, v2, v3, v4, v5, v6, v7]
            simp only [Act.put, List.setIfInBounds_toArray, List.set_cons_zero, List.set_cons_succ]
            simp only [List.drop_succ_cons, List.drop_zero]
            clear hV' v0 v1 v2 v3 v4 v5 v6 v7
            have hR3 := HR.out.keep hu
            rw [HNR.out, hv] at hR3
            have hV3 := HAB.out.only hu (fun h => h)
            have hne17 : v.ownBlock ≠ some (u4.heap.size + 4) := fun e => by have := (ownsRow_lt hR3.own e).1; omega
            have hsu' := hu.size
            have HRB := Lib.hid hr
            have HN7 := Lib.hid hN7
            have x9 : ∀ j z, ([.string key, .slice A' bs.length c'] : List Value)[j]? = some z → u.cell? ((⟨b7, 0, none⟩ : Addr).add j) = some z := fun j z hj => by
              have e : (⟨b7, 0, none⟩ : Addr).add j = ⟨b7, j, none⟩ := by unfold Addr.add; split <;> simp_all
              rw [e, HN7.out.cell]
              simpa using hj
            have HU := Lib.hid hu
            clear hr hN7 hu
            refine wpList_append_own_at (w := u) rfl (.tmp 102) (.tmp 109) 54 rfl (wA.heap.size + 2) 98 i0 _ 2 40 Tryz.underlying54 hi hz0 hz1 hz3 rfl (by decide) v nr (rs.flatMap PRow.cells) rfl (by have := hR3.own; rwa [HNR.out] at this) ⟨b7, 0, none⟩ 1 1 [.string key, .slice A' bs.length c'] rfl rfl x9 (by simp [Value.oneCell']) (by unfold maxLen; omega) (by omega) (by omega) ?_
            intro v' w3 hown' hgr _ hat
            obtain ⟨g', cap', rfl⟩ := ownsRow_succ hown'
            have hV4 := hV3.only (only_grown hgr) (fun e => hne17 e)
            have y0 := hV4.cellv 0 rfl
            have y1 := hV4.free 0
            simp only [Act.put, List.setIfInBounds_toArray, List.set_cons_zero, List.set_cons_succ]
            go_wp2_with fail
            have hwz := HWZ.out
            have hlo : ∀ k, v.ownBlock = some k → wA.heap.size + 2 ≤ k ∧ ¬ Zu k := fun k hk => ⟨(ownsRow_lt hR3.own hk).1, HNG.out k (.inl (by rw [HNR.out, hv]; exact hk))⟩
            have hput : Only (· = (u4.heap.size + 4)) w3 (w3.setCell ⟨(u4.heap.size + 4), 0, none⟩ (.slice (some ⟨g', 0, none⟩) (nr + 1) cap')) := (Only.refl (· = (u4.heap.size + 4)) w3).put (.inl rfl) _
            have hgr' : Only (fun k => v.ownBlock = some k) Wb w3 := Only.step (HU.out.mono (fun _ _ h => h.elim)) (only_grown hgr) (fun _ _ h => h)
            have hall : Only (fun k => v.ownBlock = some k ∨ k = (u4.heap.size + 4)) Wb (w3.setCell ⟨(u4.heap.size + 4), 0, none⟩ (.slice (some ⟨g', 0, none⟩) (nr + 1) cap')) := (hgr'.mono fun _ _ h => .inl h).trans (hput.mono fun _ _ h => .inr h)
            have hrbl : ∀ g, (Value.slice A' bs.length c').ownBlock = some g → Wb.heap.size ≤ g := fun g hg => (ownsRow_lt HRB.out hg).1
            have hsn := BRows.snoc (r := (⟨key, .slice A' bs.length c', bs⟩ : PRow)) hR3 (only_grown hgr) (by rw [HNR.out]; exact hown') hat (HRB.out.base (by omega)) (fun g hg' hb' => by
              have h1 := hrbl g hg'
              have h2 := (HR.out.lt (show PBlocks (.slice Aq rs.length cq) rs g by rw [HNR.out, hv]; exact hb')).2
              omega)
            have hvb := fun k hk => bblocks_snoc (val := PRow.val) (v := v) (v' := .slice (some ⟨g', 0, none⟩) (nr + 1) cap') (rs := rs) (r := (⟨key, .slice A' bs.length c', bs⟩ : PRow)) (k := k) hat hk
            have hng' : ∀ k, PBlocks (.slice (some ⟨g', 0, none⟩) (nr + 1) cap') (rs ++ [⟨key, .slice A' bs.length c', bs⟩]) k → ¬ Zu k := fun k hk hz => by
              have hzl := HZL.out k hz
              rcases hvb k hk with h | h | h
              · exact HNG.out k (by rw [HNR.out, hv]; exact h) hz
              · have := hrbl k h; omega
              · omega
            have hHI := HI.out
            refine ⟨hall.mono (S' := Rest (Zw Zu wA.heap.size) Kp) fun k _ hk => ⟨fun hz => ?_, fun hkp => ?_⟩, ⟨hHI.zb, ⟨hwu, hub, by omega, ?_⟩, hHI.box.only hall (fun j hj => ?_), hHI.only.step hall (fun j hj hj2 => ?_), _, _, hV4.put 0 _, hsn.only hput (fun k hk e => by have := (hsn.lt hk).1; omega), by rw [List.map_append, HPL.out]; rfl, hng'⟩, ?_⟩
            · rcases hk with hk | rfl
              · have := hlo k hk
                rcases hz with hz | hz | hz
                · exact this.2 hz
                · omega
                · omega
              · rcases hz with hz | hz | hz
                · have := HZB.out _ hz; omega
                · omega
                · omega
            · have := HKP.out k hkp
              rcases hk with hk | rfl
              · have := hlo k hk; omega
              · omega
            · have := hall.size; omega
            · rcases hj with hj | rfl
              · have := hlo j hj; omega
              · omega
            · rcases hj2 with hj2 | rfl
              · have := hlo j hj2; omega
              · omega
            · rw [List.length_append, List.length_singleton, ← hrl, HNR.out]
              have := HNR.out
              omega
      case done =>
        rintro Zu Wd hZu hsz ⟨hI, hlen⟩ hD
        have hle := hI.le
        obtain ⟨v0, rs, hpb, hR, hpl, hng⟩ := hI.pb
        obtain ⟨Aq, cq, rfl⟩ := ownsRow_slice hR.own
        have b17 := hpb.cellv 0 rfl
        have z12 := hI.box.b12.free 0
        have z13 := hI.box.b13.free 0
        have z14 := hI.box.b14.free 0
        have y12 := hI.box.b12.cellv 0 rfl
        have y13 := hI.box.b13.cellv 0 rfl
        have y14 := hI.box.b14.cellv 0 rfl
        have hout := hI.out hR hpl hng false
        have hDr := (scRet_only w Wd (.slice Aq rs.length cq) false 0).block wA.heap.size (Array.getElem?_eq_some_iff.1 hD).1 (by omega)
        have HOUT := Lib.hid hout
        have HDR := Lib.hid (hDr.trans hD)
        have HLEN := Lib.hid hlen
        have HWZ := Lib.hid hwz
        clear hwz hout hDr hpl hR hng hpb hI hD
        refine HK.out _ _ ?_
        rw [hFR]
        gi_wp2_with fail
        try change bodyPostM _ _ _ _ _ _ _ (scRet w Wd (.slice Aq rs.length cq) false 0)
        refine ⟨by simp, .inl ⟨_, _, rfl, run_takeDeferred HDR.out, ?_⟩⟩
        have hwz := HWZ.out
        obtain ⟨v, rs', x1, x2, x3, x4, x5, x6⟩ := HOUT.out.post hwu (by omega)
        have hll := HLEN.out
        refine ⟨.tuple #[v, .bool false, .int .i64 0], by simp [results, Tryz.results40, go_sem, x1, x2, x3], ⟨v, rs', by rw [decide_eq_false (by omega)], x4, by rw [x5, List.take_of_length_le hll]⟩, u1, u2, HQ1.out, HQ.out, HQS.out, hq3, x6.mono fun j _ hj => ⟨hj.1, by omega⟩⟩
      case stop =>
        rintro Zu cd pre Wd hZu hpre ⟨rfl, hz, hw4, hu2, hlt, hout⟩ hD
        have HOUT := Lib.hid hout
        have HDR := Lib.hid hD
        have HWZ := Lib.hid hwz
        clear hwz hout hD
        rw [hFR]
        gi_wp2_with fail
        refine ⟨by simp, .inl ⟨_, _, rfl, run_takeDeferred HDR.out, ?_⟩⟩
        have hwz := HWZ.out
        obtain ⟨v, rs', x1, x2, x3, x4, x5, x6⟩ := HOUT.out.post hwu hu2
        refine ⟨.tuple #[v, .bool true, .int .i64 0], by simp [results, Tryz.results40, go_sem, x1, x2, x3], ⟨v, rs', by rw [decide_eq_true hlt], x4, x5⟩, u1, u2, HQ1.out, HQ.out, HQS.out, hq3, x6.mono fun j _ hj => ⟨hj.1, by omega⟩⟩

end Go.Proofs.YtbhihbhjmmeibaaGreat

