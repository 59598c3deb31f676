/-
  Texts of this proof, laid together: Head2, S32, S33, S34, S35, S36, S37.
-/
import Derived.Test.YtnonnencdhogiaaM3
import Derived.Test.YtnonnencdhogiaaM4
/-
  A region that draws its order, with guards that are known, and with calls that turn memory in a forced order; behind it a tail in order.
-/
namespace Go.Proofs.Ytnonnencdhogiaa
open Go.RowKit

/-- what a value yields to a guard -/
def boolOf (v : Value) : Option Bool := match v with | .bool b => some b | _ => none
/-- is it wanted, where the guards' values are known? -/
def wantOf (gv : Nat → Option Bool) (o : Oper) : Bool := match o.guard with | none => true | some (g, b) => gv g == some b
def bindsOn (o : Oper) (j : Nat) : Bool := o.after.any fun e => Region.binds .any e && decide (e.on = j)
def headB2 (ops : Array Oper) (n : Nat) (srcs : List Nat) (tn : Nat → Option Nat) : Bool :=
  (List.range n).all fun i => match ops[i]? with
    | some o => (match o.guard with | none => true | some (g, _) => decide (g < n) && srcs.contains g && bindsOn o g) && o.dst.isSome && (o.after.all fun e => !Region.binds .any e || decide (e.on < i)) &&
        ((List.range n).all fun j => decide (i = j) || !decide (dstOf ops i = dstOf ops j)) && (match tn i with | some (t + 1) => (List.range n).any fun j => decide (tn j = some t) && bindsOn o j | _ => true) &&
        ((List.range n).all fun j => decide (i = j) || decide (tn i = none) || !decide (tn i = tn j))
    | none => false
def regionB2 (ops : Array Oper) (n m : Nat) (srcs : List Nat) (tn : Nat → Option Nat) : Bool :=
  (decide (n = ops.size) || (decide (n < ops.size) && Region.sinkB .any ops n && Region.chainB .any ops n)) && Region.seqB .any ops (ops.size - n) n (Array.ofFn fun i : Fin ops.size => decide (i.1 < n)) &&
    headB2 ops n srcs tn && ((List.range n).all fun i => decide (dstOf ops i < m))

theorem bindsOn_spec {o : Oper} {j : Nat} (h : bindsOn o j = true) : ∃ e ∈ o.after, Region.binds .any e = true ∧ e.on = j := by
  obtain ⟨i, hi, he⟩ := Array.any_eq_true.1 h
  simp only [Bool.and_eq_true, decide_eq_true_eq] at he
  exact ⟨_, Array.getElem_mem hi, he.1, he.2⟩

structure HSpec (ops : Array Oper) (n : Nat) (srcs : List Nat) (tn : Nat → Option Nat) (i : Nat) (o : Oper) : Prop where
  at_ : ops[i]? = some o
  guard : ∀ g b, o.guard = some (g, b) → g < n ∧ g ∈ srcs ∧ ∃ e ∈ o.after, Region.binds .any e = true ∧ e.on = g
  dst : o.dst = some (dstOf ops i)
  back : ∀ e ∈ o.after, Region.binds .any e = true → e.on < i
  apart : ∀ j, j < n → i ≠ j → dstOf ops i ≠ dstOf ops j
  turn : ∀ t, tn i = some (t + 1) → ∃ j, j < n ∧ tn j = some t ∧ ∃ e ∈ o.after, Region.binds .any e = true ∧ e.on = j
  one : ∀ j, j < n → i ≠ j → tn i ≠ none → tn i ≠ tn j

theorem headB2_spec {ops : Array Oper} {n : Nat} {srcs : List Nat} {tn : Nat → Option Nat} (h : headB2 ops n srcs tn = true) {i : Nat} (hi : i < n) : ∃ o, HSpec ops n srcs tn i o := by
  have h1 := List.all_eq_true.1 h i (List.mem_range.2 hi)
  cases ho : ops[i]? with
  | none => rw [ho] at h1; cases h1
  | some o =>
    rw [ho] at h1
    simp only [Bool.and_eq_true] at h1
    obtain ⟨⟨⟨⟨⟨h2, h3⟩, h4⟩, h5⟩, h6⟩, h7⟩ := h1
    refine ⟨o, ho, fun g b hg => ?_, ?_, fun e he hb => ?_, fun j hj hij => ?_, fun t ht => ?_, fun j hj hij hne => ?_⟩
    · rw [hg] at h2
      simp only [Bool.and_eq_true, decide_eq_true_eq, List.contains_iff_mem] at h2
      exact ⟨h2.1.1, h2.1.2, bindsOn_spec h2.2⟩
    · obtain ⟨d, hd⟩ := Option.isSome_iff_exists.1 h3
      simp [dstOf, ho, hd]
    · have := Array.all_eq_true_iff_forall_mem.1 h4 e he
      rw [hb] at this
      simpa using this
    · have := List.all_eq_true.1 h5 j (List.mem_range.2 hj)
      simp only [Bool.or_eq_true, decide_eq_true_eq, Bool.not_eq_true', decide_eq_false_iff_not] at this
      exact this.resolve_left hij
    · rw [ht] at h6
      obtain ⟨j, hj, hh⟩ := List.any_eq_true.1 h6
      simp only [Bool.and_eq_true, decide_eq_true_eq] at hh
      exact ⟨j, List.mem_range.1 hj, hh.1, bindsOn_spec hh.2⟩
    · have := List.all_eq_true.1 h7 j (List.mem_range.2 hj)
      simp only [Bool.or_eq_true, decide_eq_true_eq, Bool.not_eq_true', decide_eq_false_iff_not] at this
      rcases this with (h | h) | h
      · exact absurd h hij
      · exact absurd h hne
      · exact h

section
variable {P : Program} {ops : Array Oper} {n : Nat} {a0 : Act} {T : Nat → Value → World → Prop} {G : Nat → World → Prop} {S : Nat → Prop} {gv : Nat → Option Bool} {srcs : List Nat} {tn : Nat → Option Nat}

structure HInv2 (ops : Array Oper) (n : Nat) (a0 : Act) (T : Nat → Value → World → Prop) (G : Nat → World → Prop) (tn : Nat → Option Nat) (listed : Array Bool) (a : Act) (w : World) : Prop where
  defers : a.defers = a0.defers
  size : a.tmps.size = a0.tmps.size
  other : ∀ s, (∀ i, i < n → listed.getD i false = true → dstOf ops i ≠ s) → a.tmps.getD s undef = a0.tmps.getD s undef
  held : ∀ i, i < n → listed.getD i false = true → T i (a.tmps.getD (dstOf ops i) undef) w
  phase : ∃ k, G k w ∧ ∀ i t, i < n → tn i = some t → (listed.getD i false = true ↔ t < k)

/-- the phase behind an operation -/
def nextPh (tn : Nat → Option Nat) (i k : Nat) : Nat := if tn i = some k then k + 1 else k
/-- What an operation leaves. -/
def Left2 (T : Nat → Value → World → Prop) (G : Nat → World → Prop) (S : Nat → Prop) (tn : Nat → Option Nat) (i k : Nat) (o : Oper) (a : Act) (w : World) (a' : Act) (w' : World) : Prop :=
  ∃ v, a' = a.put o.dst v ∧ T i v w' ∧ G (nextPh tn i k) w' ∧ Only S w w'

theorem HInv2.put {listed : Array Bool} {a : Act} {w : World} (inv : HInv2 ops n a0 T G tn listed a w) (hb : headB2 ops n srcs tn = true) (hd : ∀ i, i < n → dstOf ops i < a0.tmps.size)
    (hT : ∀ i v w w', T i v w → Only S w w' → T i v w') {i : Nat} (hi : i < n) {o : Oper} (ho : ops[i]? = some o) (hun : listed.getD i true = false) {k : Nat} (hk : ∀ j t, j < n → tn j = some t → (listed.getD j false = true ↔ t < k))
    (hik : tn i = none ∨ tn i = some k) {a' : Act} {w' : World} (h : Left2 T G S tn i k o a w a' w') : HInv2 ops n a0 T G tn (listed.setIfInBounds i true) a' w' := by
  obtain ⟨v, rfl, hv, hg', ho'⟩ := h
  obtain ⟨o', sp⟩ := headB2_spec hb hi
  obtain rfl : o' = o := Option.some.inj (sp.at_.symm.trans ho)
  have hg := fun s => put_getD a (dstOf ops i) s v (by rw [inv.size]; exact hd i hi)
  rw [sp.dst]
  have hother : ∀ j, j ≠ i → (listed.setIfInBounds i true).getD j false = true → listed.getD j false = true := fun j hj hl => by rwa [getD_set_ne false (Ne.symm hj)] at hl
  have hself : (listed.setIfInBounds i true).getD i false = true := by
    have : i < listed.size := by
      rcases Nat.lt_or_ge i listed.size with h' | h'
      · exact h'
      · simp [Array.getElem?_eq_none h'] at hun
    simp [this]
  refine ⟨(put_defers _ _ _).trans inv.defers, (put_size _ _ _).trans inv.size, fun s hs => ?_, fun j hj hl => ?_, nextPh tn i k, hg', fun j t hj ht => ?_⟩
  · rw [hg, if_neg (hs i hi hself)]
    exact inv.other s fun j hj hl => hs j hj (getD_set_true hl)
  · by_cases hji : j = i
    · subst hji
      rw [hg, if_pos rfl]
      exact hv
    · rw [hg, if_neg (sp.apart j hj (Ne.symm hji))]
      exact hT _ _ _ _ (inv.held j hj (hother j hji hl)) ho'
  · unfold nextPh
    by_cases hji : j = i
    · subst hji
      rcases hik with hik | hik
      · rw [hik] at ht; cases ht
      · rw [hik] at ht
        injection ht with ht
        rw [if_pos hik]
        exact ⟨fun _ => by omega, fun _ => hself⟩
    · rw [getD_set_ne false (Ne.symm hji), hk j t hj ht]
      by_cases he : tn i = some k
      · rw [if_pos he]
        have : t ≠ k := fun e => sp.one j hj (Ne.symm hji) (by rw [he]; simp) (by rw [he, ht, e])
        constructor <;> intro h <;> omega
      · rw [if_neg he]

theorem HInv2.end {listed : Array Bool} {a : Act} {w : World} (inv : HInv2 ops n a0 T G tn listed a w) (hd : ∀ i, i < n → dstOf ops i < a0.tmps.size) :
    a = endFrame ops n a0 (fun i => a.tmps.getD (dstOf ops i) undef) := by
  obtain ⟨h1, h2, h3⟩ := foldl_put (fun s => a.tmps.getD s undef) (dstOf ops) (List.range n) a0 (fun i hi => hd i (List.mem_range.1 hi))
  refine act_ext (inv.defers.trans h1.symm) (inv.size.trans h2.symm) fun s => ?_
  unfold endFrame
  rw [h3 s]
  split
  · rfl
  · rename_i hs
    exact inv.other s fun i hi _ he => hs ⟨i, List.mem_range.2 hi, he⟩
end

section
variable {P : Program}
theorem head2_any {Q : Exit → Act → World → Prop} {l : List Oper} {a0 : Act} {W : World} (n m : Nat) (srcs : List Nat) (gv : Nat → Option Bool) (tn : Nat → Option Nat) (S : Nat → Prop) (G : Nat → World → Prop) (T : Nat → Value → World → Prop) (hsz : a0.tmps.size = m)
    (hB : regionB2 l.toArray n m srcs tn = true) (hskip : ∀ i o, i < n → l[i]? = some o → wantOf gv o = false → ∀ k, nextPh tn i k = k) (hgv : ∀ g, g ∈ srcs → ∀ v w, T g v w → boolOf v = gv g)
    (hT : ∀ i v w w', T i v w → Only S w w' → T i v w') (hG : G 0 { W with drawn := W.drawn + 1 })
    (hstep : ∀ i o, i < n → l[i]? = some o → ∀ a w k, G k w → (tn i = none ∨ tn i = some k) → (∀ s, (∀ j, j < n → dstOf l.toArray j ≠ s) → a.tmps.getD s undef = a0.tmps.getD s undef) →
      (∀ j, j < n → Region.waitsFor .any l.toArray i j = true → T j (a.tmps.getD (dstOf l.toArray j) undef) w) → if wantOf gv o = true then o.wp P a w (Left2 T G S tn i k o a w) Q else T i undef w)
    (hend : ∀ (V : Nat → Value) w k, G k w → (∀ i t, i < n → tn i = some t → t < k) → (∀ i, i < n → T i (V i) w) → wpList P l.toArray Q (l.drop n) (endFrame l.toArray n a0 V) w) :
    wpAny P .any l.toArray Q l.toArray.size (Array.replicate l.toArray.size false) a0 { W with drawn := W.drawn + 1 } := by
  simp only [regionB2, Bool.and_eq_true, Bool.or_eq_true, decide_eq_true_eq] at hB
  obtain ⟨⟨⟨hnn, hseq⟩, hb⟩, hd'⟩ := hB
  have hns : n ≤ l.toArray.size := by rcases hnn with h | ⟨⟨h, _⟩, _⟩ <;> omega
  have hd : ∀ i, i < n → dstOf l.toArray i < a0.tmps.size := fun i hi => by
    have := List.all_eq_true.1 hd' i (List.mem_range.2 hi)
    rw [hsz]
    simpa using this
  have hdl : (l.drop n).length = l.toArray.size - n := by simp
  have key : ∀ (f : Nat) (listed : Array Bool) (a : Act) (w : World), (List.range n).countP (fun i => !listed.getD i false) = f → HeadInv .any l.toArray n listed → HInv2 l.toArray n a0 T G tn listed a w →
      wpAny P .any l.toArray Q (f + (l.toArray.size - n)) listed a w := by
    intro f
    induction f with
    | zero =>
      intro listed a w hcount hinv inv
      have hl : ∀ i, i < n → listed.getD i false = true := fun i hi => by
        have := List.countP_eq_zero.1 hcount i (List.mem_range.2 hi)
        simpa using this
      have he : listed = Array.ofFn fun i : Fin l.toArray.size => decide (i.1 < n) := by
        refine Array.ext (by simp [hinv.size]) fun i h1 h2 => ?_
        rw [Array.getElem_ofFn]
        by_cases hi : i < n
        · have := hl i hi
          simpa [h1, hi] using this
        · have := hinv.tail i (by omega) (by rw [← hinv.size]; exact h1)
          simpa [h1, hi] using this
      obtain ⟨k, hk, hph⟩ := inv.phase
      have hend' := hend (fun i => a.tmps.getD (dstOf l.toArray i) undef) w k hk (fun i t hi ht => (hph i t hi ht).1 (hl i hi)) (fun i hi => inv.held i hi (hl i hi))
      rw [← inv.end hd] at hend'
      have := wpAny_of_seq (md := .any) (Q' := Q) (l.drop n) n listed a w (fun j => by simp [List.getElem?_drop]) (by rw [hdl, he]; exact hseq) hend'
      rw [hdl] at this
      rw [Nat.zero_add]
      exact this
    | succ f ih =>
      intro listed a w hcount hinv inv
      rw [show f + 1 + (l.toArray.size - n) = (f + (l.toArray.size - n)) + 1 by omega]
      obtain ⟨i0, hi0, hu0⟩ : ∃ i, i < n ∧ listed.getD i false = false := by
        have : 0 < (List.range n).countP (fun i => !listed.getD i false) := by omega
        obtain ⟨i, hi, hu⟩ := List.countP_pos_iff.1 this
        exact ⟨i, List.mem_range.1 hi, by simpa using hu⟩
      have hus : ∀ i, i < n → listed.getD i false = false → listed.getD i true = false := fun i hi hu => getD_in (by rw [hinv.size]; omega) hu
      have hready : ∀ i, i ∈ Region.ready .any l.toArray listed → i < n := fun i hi => by
        rcases Nat.lt_or_ge i n with h | h
        · exact h
        · rcases hnn with h' | ⟨⟨hn, hs⟩, hc⟩
          · obtain ⟨_, o, ho, _⟩ := mem_ready.1 hi
            have := (Array.getElem?_eq_some_iff.1 ho).1
            omega
          · exact absurd hi (tail_waits hs hc hn hinv _ i0 rfl hi0 (hus i0 hi0 hu0) i h)
      refine ⟨fun hr => ?_, fun i hi => ?_⟩
      · exfalso
        have : ∀ k i, i < k → i < n → listed.getD i false = false → ∃ j, j ∈ Region.ready .any l.toArray listed := by
          intro k
          induction k with
          | zero => intro i hi; omega
          | succ k ihk =>
            intro i hik hi hu
            by_cases hlow : ∃ j, j < i ∧ listed.getD j false = false
            · obtain ⟨j, hj, huj⟩ := hlow
              exact ihk j (by omega) (by omega) huj
            · obtain ⟨o, sp⟩ := headB2_spec hb hi
              refine ⟨i, mem_ready.2 ⟨hus i hi hu, o, sp.at_, fun e he hbe => ?_⟩⟩
              have hlt := sp.back e he hbe
              cases hle : listed.getD e.on false with
              | true => rfl
              | false => exact absurd ⟨e.on, hlt, hle⟩ hlow
        obtain ⟨j, hj⟩ := this (i0 + 1) i0 (by omega) hi0 hu0
        rw [hr] at hj
        cases hj
      · have hin := hready i hi
        obtain ⟨hun, o, ho, hall⟩ := mem_ready.1 hi
        obtain ⟨o', sp⟩ := headB2_spec hb hin
        obtain rfl : o' = o := Option.some.inj (sp.at_.symm.trans ho)
        obtain ⟨k, hk, hph⟩ := inv.phase
        have hik : tn i = none ∨ tn i = some k := by
          cases ht : tn i with
          | none => exact .inl rfl
          | some t =>
            refine .inr (congrArg some ?_)
            have h1 : ¬ t < k := fun h => by
              have := (hph i t hin ht).2 h
              rw [getD_both hun] at this
              cases this
            cases t with
            | zero =>
              rcases Nat.eq_zero_or_pos k with h | h
              · exact h.symm
              · omega
            | succ t =>
              obtain ⟨j, hj, htj, e, he, hbe, hon⟩ := sp.turn t ht
              have := (hph j t hj htj).1 (by rw [← hon]; exact hall e he hbe)
              omega
        have hw := hstep i o' hin (by simpa using ho) a w k hk hik (fun s hs => inv.other s fun j hj _ => hs j hj) (fun j hj hwt => by
          obtain ⟨oj, hoj, e, he, hbe, hon⟩ := Region.waitsFor_spec hwt
          obtain rfl : oj = o' := Option.some.inj (hoj.symm.trans ho)
          have := hall e he hbe
          rw [hon] at this
          exact inv.held j hj this)
        have hwant : Region.wanted o' (yielded l.toArray a.tmps) = wantOf gv o' := by
          unfold Region.wanted wantOf
          cases hgd : o'.guard with
          | none => rfl
          | some gb =>
            obtain ⟨g, b⟩ := gb
            obtain ⟨hgn, hgs, e, he, hbe, hon⟩ := sp.guard g b hgd
            have hlg : listed.getD g false = true := by rw [← hon]; exact hall e he hbe
            have hTg := hgv g hgs _ _ (inv.held g hgn hlg)
            obtain ⟨og, spg⟩ := headB2_spec hb hgn
            have hy : yielded l.toArray a.tmps g = boolOf (a.tmps.getD (dstOf l.toArray g) undef) := by
              unfold yielded
              rw [spg.at_, Option.bind_some, spg.dst, Option.bind_some]
              have hlt : dstOf l.toArray g < a.tmps.size := by rw [inv.size]; exact hd g hgn
              rw [Array.getElem?_eq_getElem hlt]
              simp only [Array.getD_eq_getD_getElem?, Array.getElem?_eq_getElem hlt, Option.getD_some]
              cases a.tmps[dstOf l.toArray g] <;> rfl
            simp only
            rw [hy, hTg]
        have hfin : ∀ a' w', Left2 T G S tn i k o' a w a' w' → wpAny P .any l.toArray Q (f + (l.toArray.size - n)) (listed.setIfInBounds i true) a' w' := fun a' w' h' => ih _ a' w' (by
          have hself : (listed.setIfInBounds i true).getD i false = true := by
            have : i < listed.size := by rw [hinv.size]; omega
            simp [this]
          have := countP_less (fun i => !listed.getD i false) (fun j => !(listed.setIfInBounds i true).getD j false) i (List.range n) List.nodup_range (List.mem_range.2 hin) (by rw [getD_both hun]; rfl) (by rw [hself]; rfl) (fun j hj => by rw [getD_set_ne false (Ne.symm hj)])
          omega) (hinv.set hi hin) (inv.put hb hd hT hin ho hun hph hik h')
        unfold wpOp
        simp only [ho]
        rw [hwant]
        cases hwv : wantOf gv o'
        · rw [hwv] at hw
          rw [if_neg (by simp)] at hw
          rw [if_neg (by simp)]
          exact hfin _ _ ⟨undef, rfl, hw, by
            have hnp : nextPh tn i k = k := hskip i o' hin (by simpa using ho) hwv k
            rw [hnp]
            exact hk, Only.refl _ _⟩
        · rw [hwv, if_pos rfl] at hw
          rw [if_pos rfl]
          exact .inl (Oper.wp_mono hfin hw)
  have h0 := key n (Array.replicate l.toArray.size false) a0 { W with drawn := W.drawn + 1 } (by
      rw [List.countP_eq_length.2 (fun i _ => by rw [getD_replicate_false]; rfl)]
      simp)
    ⟨by simp, fun j oj _ hl => (by rw [getD_replicate_false] at hl; cases hl), fun t _ ht => getD_in (by simpa using ht) (getD_replicate_false _ _)⟩
    ⟨rfl, rfl, fun _ _ => rfl, fun i _ hl => (by rw [getD_replicate_false] at hl; cases hl), 0, hG, fun i t _ _ => ⟨fun hl => (by rw [getD_replicate_false] at hl; cases hl), fun h => (by omega)⟩⟩
  rw [show n + (l.toArray.size - n) = l.toArray.size by omega] at h0
  exact h0
end

section
variable {F : Fence} {n' : Nat} {P : Program}
theorem head2_anyIn {Q : Exit → Act → World → Prop} {l : List Oper} {a0 : Act} {W : World} (n m : Nat) (srcs : List Nat) (gv : Nat → Option Bool) (tn : Nat → Option Nat) (S : Nat → Prop) (G : Nat → World → Prop) (T : Nat → Value → World → Prop) (hsz : a0.tmps.size = m)
    (hB : regionB2 l.toArray n m srcs tn = true) (hskip : ∀ i o, i < n → l[i]? = some o → wantOf gv o = false → ∀ k, nextPh tn i k = k) (hgv : ∀ g, g ∈ srcs → ∀ v w, T g v w → boolOf v = gv g)
    (hT : ∀ i v w w', T i v w → Only S w w' → T i v w') (hG : G 0 { W with drawn := W.drawn + 1 })
    (habout : ∀ (o : Oper) (a : Act) (w : World) (f : FuncId), o.about P w a.eval = some f → F.fn f)
    (hop : ∀ (o : Oper) (a : Act) (w : World) (K : Act → World → Prop), o ∈ l.take n → o.wp P a w K Q → o.wpIn F n' P a w K Q)
    (hstep : ∀ i o, i < n → l[i]? = some o → ∀ a w k, G k w → (tn i = none ∨ tn i = some k) → (∀ s, (∀ j, j < n → dstOf l.toArray j ≠ s) → a.tmps.getD s undef = a0.tmps.getD s undef) →
      (∀ j, j < n → Region.waitsFor .any l.toArray i j = true → T j (a.tmps.getD (dstOf l.toArray j) undef) w) → if wantOf gv o = true then o.wp P a w (Left2 T G S tn i k o a w) Q else T i undef w)
    (hend : ∀ (V : Nat → Value) w k, G k w → (∀ i t, i < n → tn i = some t → t < k) → (∀ i, i < n → T i (V i) w) → wpListIn F n' P l.toArray Q (l.drop n) (endFrame l.toArray n a0 V) w) :
    wpAnyIn F n' P .any l.toArray Q l.toArray.size (Array.replicate l.toArray.size false) a0 { W with drawn := W.drawn + 1 } := by
  simp only [regionB2, Bool.and_eq_true, Bool.or_eq_true, decide_eq_true_eq] at hB
  obtain ⟨⟨⟨hnn, hseq⟩, hb⟩, hd'⟩ := hB
  have hns : n ≤ l.toArray.size := by rcases hnn with h | ⟨⟨h, _⟩, _⟩ <;> omega
  have hd : ∀ i, i < n → dstOf l.toArray i < a0.tmps.size := fun i hi => by
    have := List.all_eq_true.1 hd' i (List.mem_range.2 hi)
    rw [hsz]
    simpa using this
  have hdl : (l.drop n).length = l.toArray.size - n := by simp
  have key : ∀ (f : Nat) (listed : Array Bool) (a : Act) (w : World), (List.range n).countP (fun i => !listed.getD i false) = f → HeadInv .any l.toArray n listed → HInv2 l.toArray n a0 T G tn listed a w →
      wpAnyIn F n' P .any l.toArray Q (f + (l.toArray.size - n)) listed a w := by
    intro f
    induction f with
    | zero =>
      intro listed a w hcount hinv inv
      have hl : ∀ i, i < n → listed.getD i false = true := fun i hi => by
        have := List.countP_eq_zero.1 hcount i (List.mem_range.2 hi)
        simpa using this
      have he : listed = Array.ofFn fun i : Fin l.toArray.size => decide (i.1 < n) := by
        refine Array.ext (by simp [hinv.size]) fun i h1 h2 => ?_
        rw [Array.getElem_ofFn]
        by_cases hi : i < n
        · have := hl i hi
          simpa [h1, hi] using this
        · have := hinv.tail i (by omega) (by rw [← hinv.size]; exact h1)
          simpa [h1, hi] using this
      obtain ⟨k, hk, hph⟩ := inv.phase
      have hend' := hend (fun i => a.tmps.getD (dstOf l.toArray i) undef) w k hk (fun i t hi ht => (hph i t hi ht).1 (hl i hi)) (fun i hi => inv.held i hi (hl i hi))
      rw [← inv.end hd] at hend'
      have := wpAnyIn_of_seq (md := .any) (Q' := Q) (l.drop n) n listed a w (fun j => by simp [List.getElem?_drop]) (by rw [hdl, he]; exact hseq) hend'
      rw [hdl] at this
      rw [Nat.zero_add]
      exact this
    | succ f ih =>
      intro listed a w hcount hinv inv
      rw [show f + 1 + (l.toArray.size - n) = (f + (l.toArray.size - n)) + 1 by omega]
      obtain ⟨i0, hi0, hu0⟩ : ∃ i, i < n ∧ listed.getD i false = false := by
        have : 0 < (List.range n).countP (fun i => !listed.getD i false) := by omega
        obtain ⟨i, hi, hu⟩ := List.countP_pos_iff.1 this
        exact ⟨i, List.mem_range.1 hi, by simpa using hu⟩
      have hus : ∀ i, i < n → listed.getD i false = false → listed.getD i true = false := fun i hi hu => getD_in (by rw [hinv.size]; omega) hu
      have hready : ∀ i, i ∈ Region.ready .any l.toArray listed → i < n := fun i hi => by
        rcases Nat.lt_or_ge i n with h | h
        · exact h
        · rcases hnn with h' | ⟨⟨hn, hs⟩, hc⟩
          · obtain ⟨_, o, ho, _⟩ := mem_ready.1 hi
            have := (Array.getElem?_eq_some_iff.1 ho).1
            omega
          · exact absurd hi (tail_waits hs hc hn hinv _ i0 rfl hi0 (hus i0 hi0 hu0) i h)
      refine ⟨fun hr => ?_, fun i hi => ?_⟩
      · exfalso
        have : ∀ k i, i < k → i < n → listed.getD i false = false → ∃ j, j ∈ Region.ready .any l.toArray listed := by
          intro k
          induction k with
          | zero => intro i hi; omega
          | succ k ihk =>
            intro i hik hi hu
            by_cases hlow : ∃ j, j < i ∧ listed.getD j false = false
            · obtain ⟨j, hj, huj⟩ := hlow
              exact ihk j (by omega) (by omega) huj
            · obtain ⟨o, sp⟩ := headB2_spec hb hi
              refine ⟨i, mem_ready.2 ⟨hus i hi hu, o, sp.at_, fun e he hbe => ?_⟩⟩
              have hlt := sp.back e he hbe
              cases hle : listed.getD e.on false with
              | true => rfl
              | false => exact absurd ⟨e.on, hlt, hle⟩ hlow
        obtain ⟨j, hj⟩ := this (i0 + 1) i0 (by omega) hi0 hu0
        rw [hr] at hj
        cases hj
      · have hin := hready i hi
        obtain ⟨hun, o, ho, hall⟩ := mem_ready.1 hi
        obtain ⟨o', sp⟩ := headB2_spec hb hin
        obtain rfl : o' = o := Option.some.inj (sp.at_.symm.trans ho)
        obtain ⟨k, hk, hph⟩ := inv.phase
        have hik : tn i = none ∨ tn i = some k := by
          cases ht : tn i with
          | none => exact .inl rfl
          | some t =>
            refine .inr (congrArg some ?_)
            have h1 : ¬ t < k := fun h => by
              have := (hph i t hin ht).2 h
              rw [getD_both hun] at this
              cases this
            cases t with
            | zero =>
              rcases Nat.eq_zero_or_pos k with h | h
              · exact h.symm
              · omega
            | succ t =>
              obtain ⟨j, hj, htj, e, he, hbe, hon⟩ := sp.turn t ht
              have := (hph j t hj htj).1 (by rw [← hon]; exact hall e he hbe)
              omega
        have hw := hstep i o' hin (by simpa using ho) a w k hk hik (fun s hs => inv.other s fun j hj _ => hs j hj) (fun j hj hwt => by
          obtain ⟨oj, hoj, e, he, hbe, hon⟩ := Region.waitsFor_spec hwt
          obtain rfl : oj = o' := Option.some.inj (hoj.symm.trans ho)
          have := hall e he hbe
          rw [hon] at this
          exact inv.held j hj this)
        have hwant : Region.wanted o' (yielded l.toArray a.tmps) = wantOf gv o' := by
          unfold Region.wanted wantOf
          cases hgd : o'.guard with
          | none => rfl
          | some gb =>
            obtain ⟨g, b⟩ := gb
            obtain ⟨hgn, hgs, e, he, hbe, hon⟩ := sp.guard g b hgd
            have hlg : listed.getD g false = true := by rw [← hon]; exact hall e he hbe
            have hTg := hgv g hgs _ _ (inv.held g hgn hlg)
            obtain ⟨og, spg⟩ := headB2_spec hb hgn
            have hy : yielded l.toArray a.tmps g = boolOf (a.tmps.getD (dstOf l.toArray g) undef) := by
              unfold yielded
              rw [spg.at_, Option.bind_some, spg.dst, Option.bind_some]
              have hlt : dstOf l.toArray g < a.tmps.size := by rw [inv.size]; exact hd g hgn
              rw [Array.getElem?_eq_getElem hlt]
              simp only [Array.getD_eq_getD_getElem?, Array.getElem?_eq_getElem hlt, Option.getD_some]
              cases a.tmps[dstOf l.toArray g] <;> rfl
            simp only
            rw [hy, hTg]
        have hfin : ∀ a' w', Left2 T G S tn i k o' a w a' w' → wpAnyIn F n' P .any l.toArray Q (f + (l.toArray.size - n)) (listed.setIfInBounds i true) a' w' := fun a' w' h' => ih _ a' w' (by
          have hself : (listed.setIfInBounds i true).getD i false = true := by
            have : i < listed.size := by rw [hinv.size]; omega
            simp [this]
          have := countP_less (fun i => !listed.getD i false) (fun j => !(listed.setIfInBounds i true).getD j false) i (List.range n) List.nodup_range (List.mem_range.2 hin) (by rw [getD_both hun]; rfl) (by rw [hself]; rfl) (fun j hj => by rw [getD_set_ne false (Ne.symm hj)])
          omega) (hinv.set hi hin) (inv.put hb hd hT hin ho hun hph hik h')
        unfold wpOpIn
        simp only [ho]
        rw [hwant]
        cases hwv : wantOf gv o'
        · rw [hwv] at hw
          rw [if_neg (by simp)] at hw
          rw [if_neg (by simp)]
          exact ⟨fun f hf => habout _ _ _ f hf, hfin _ _ ⟨undef, rfl, hw, by
            have hnp : nextPh tn i k = k := hskip i o' hin (by simpa using ho) hwv k
            rw [hnp]
            exact hk, Only.refl _ _⟩⟩
        · rw [hwv, if_pos rfl] at hw
          rw [if_pos rfl]
          exact Oper.wpIn_mono hfin (hop o' a w _ (by
            have hlo : l[i]? = some o' := by simpa using ho
            exact List.mem_of_getElem? (i := i) (by rw [List.getElem?_take_of_lt hin]; exact hlo)) hw)
  have h0 := key n (Array.replicate l.toArray.size false) a0 { W with drawn := W.drawn + 1 } (by
      rw [List.countP_eq_length.2 (fun i _ => by rw [getD_replicate_false]; rfl)]
      simp)
    ⟨by simp, fun j oj _ hl => (by rw [getD_replicate_false] at hl; cases hl), fun t _ ht => getD_in (by simpa using ht) (getD_replicate_false _ _)⟩
    ⟨rfl, rfl, fun _ _ => rfl, fun i _ hl => (by rw [getD_replicate_false] at hl; cases hl), 0, hG, fun i t _ _ => ⟨fun hl => (by rw [getD_replicate_false] at hl; cases hl), fun h => (by omega)⟩⟩
  rw [show n + (l.toArray.size - n) = l.toArray.size by omega] at h0
  exact h0
end

theorem wp_region_head2 {P : Program} {id : Nat} {Q : Exit → Act → World → Prop} {l : List Oper} {a0 : Act} {W : World} (n m : Nat) (srcs : List Nat) (gv : Nat → Option Bool) (tn : Nat → Option Nat) (S : Nat → Prop) (G : Nat → World → Prop) (T : Nat → Value → World → Prop) (hsz : a0.tmps.size = m) (hm : P.follows .mixedOrders = true)
    (hB : regionB2 l.toArray n m srcs tn = true) (hskip : ∀ i o, i < n → l[i]? = some o → wantOf gv o = false → ∀ k, nextPh tn i k = k) (hgv : ∀ g, g ∈ srcs → ∀ v w, T g v w → boolOf v = gv g)
    (hT : ∀ i v w w', T i v w → Only S w w' → T i v w') (hG : G 0 { W with drawn := W.drawn + 1 })
    (hstep : ∀ i o, i < n → l[i]? = some o → ∀ a w k, G k w → (tn i = none ∨ tn i = some k) → (∀ s, (∀ j, j < n → dstOf l.toArray j ≠ s) → a.tmps.getD s undef = a0.tmps.getD s undef) →
      (∀ j, j < n → Region.waitsFor .any l.toArray i j = true → T j (a.tmps.getD (dstOf l.toArray j) undef) w) → if wantOf gv o = true then o.wp P a w (Left2 T G S tn i k o a w) Q else T i undef w)
    (hend : ∀ (V : Nat → Value) w k, G k w → (∀ i t, i < n → tn i = some t → t < k) → (∀ i, i < n → T i (V i) w) → wpList P l.toArray Q (l.drop n) (endFrame l.toArray n a0 V) w) :
    (Code.region id l.toArray true).wp P Q a0 W :=
  wp_region_any hm (head2_any n m srcs gv tn S G T hsz hB hskip hgv hT hG hstep hend)

/-- The same in a round. -/
theorem wpIn_region_head2R {P : Program} {id r n' : Nat} {Q : Exit → Act → World → Prop} {l : List Oper} {a0 : Act} {W : World} (n m : Nat) (srcs : List Nat) (gv : Nat → Option Bool) (tn : Nat → Option Nat) (S : Nat → Prop) (G : Nat → World → Prop) (T : Nat → Value → World → Prop) (hsz : a0.tmps.size = m) (hm : P.follows .mixedOrders = true)
    (hB : regionB2 l.toArray n m srcs tn = true) (hnd : noDefers (l.take n) = true) (hskip : ∀ i o, i < n → l[i]? = some o → wantOf gv o = false → ∀ k, nextPh tn i k = k) (hgv : ∀ g, g ∈ srcs → ∀ v w, T g v w → boolOf v = gv g)
    (hT : ∀ i v w w', T i v w → Only S w w' → T i v w') (hG : G 0 { W with drawn := W.drawn + 1 })
    (hstep : ∀ i o, i < n → l[i]? = some o → ∀ a w k, G k w → (tn i = none ∨ tn i = some k) → (∀ s, (∀ j, j < n → dstOf l.toArray j ≠ s) → a.tmps.getD s undef = a0.tmps.getD s undef) →
      (∀ j, j < n → Region.waitsFor .any l.toArray i j = true → T j (a.tmps.getD (dstOf l.toArray j) undef) w) → if wantOf gv o = true then o.wp P a w (Left2 T G S tn i k o a w) Q else T i undef w)
    (hend : ∀ (V : Nat → Value) w k, G k w → (∀ i t, i < n → tn i = some t → t < k) → (∀ i, i < n → T i (V i) w) → wpListIn (Fence.wide.inRound r) n' P l.toArray Q (l.drop n) (endFrame l.toArray n a0 V) w) :
    (Code.region id l.toArray true).wpIn (Fence.wide.inRound r) n' P Q a0 W :=
  wpIn_region_any hm (head2_anyIn n m srcs gv tn S G T hsz hB hskip hgv hT hG (fun _ _ _ _ _ => trivial) (fun _ _ _ _ ho h => wpIn_of_wp_round (noDefers_spec hnd ho) h) hstep hend)

section
variable {P : Program} {T : Nat → Value → World → Prop} {G : Nat → World → Prop} {S : Nat → Prop} {tn : Nat → Option Nat} {i k : Nat} {o : Oper} {a : Act} {w : World} {Q : Exit → Act → World → Prop}
/-- a value, nothing turned -/
theorem left2_value (v : Value) (ho : (execOp a.eval o).run P w = .ok (.value v) w) (hv : T i v w) (hn : tn i = none) (hg : G k w) : o.wp P a w (Left2 T G S tn i k o a w) Q := by
  unfold Oper.wp
  rw [ho]
  exact ⟨v, rfl, hv, by unfold nextPh; rw [if_neg (by rw [hn]; simp)]; exact hg, Only.refl _ _⟩
/-- a row of cells loaded -/
theorem left2_load (ty : TypeId) (x : Operand) (g : Nat) (t : TypeId) (cs : Array Value) (d : TypeDesc) (ho : o.op = .load ty x) (hx : a.eval x = .pointer (some ⟨g, 0, none⟩)) (hB : Blk w g t cs)
    (hu : P.underlying ty = some d) (hd : (match d with | .struct _ | .array _ _ => true | _ => false) = true) (hi : (P.info? ty).map (·.size) = some cs.size) (hv : T i (.agg cs) w) (hn : tn i = none) (hg : G k w) : o.wp P a w (Left2 T G S tn i k o a w) Q :=
  left2_value _ (by
    unfold execOp
    simp only [ho, hx, Instr.loadAt, Instr.sureAddr, Sem.run_bind, Sem.run_pure, Result.andThen_ok, run_loadVar_row w g t ty cs _ d hB hu hd hi]) hv hn hg
/-- a call that makes memory -/
theorem left2_calls (f : FuncId) (args : Array Value) (ho : (execOp a.eval o).run P w = .ok (.enter f args) w) (hc : Calls P f args w fun e w' => ∃ v, e = .returned v ∧ T i v w' ∧ Only NoneOf w w') (hn : tn i = none) (hg : ∀ w', Only NoneOf w w' → G k w') : o.wp P a w (Left2 T G S tn i k o a w) Q := by
  unfold Oper.wp
  rw [ho]
  exact hc.mono fun e w' ⟨v, he, ht, hw⟩ => by
    subst he
    exact ⟨v, rfl, ht, by unfold nextPh; rw [if_neg (by rw [hn]; simp)]; exact hg w' hw, hw.mono fun _ _ h => h.elim⟩
/-- a call that turns memory -/
theorem left2_turns (f : FuncId) (args : Array Value) (ho : (execOp a.eval o).run P w = .ok (.enter f args) w) (hc : Calls P f args w fun e w' => ∃ v, e = .returned v ∧ T i v w' ∧ G (k + 1) w' ∧ Only S w w') (hn : tn i = some k) : o.wp P a w (Left2 T G S tn i k o a w) Q := by
  unfold Oper.wp
  rw [ho]
  exact hc.mono fun e w' ⟨v, he, ht, hg, hw⟩ => by
    subst he
    exact ⟨v, rfl, ht, by unfold nextPh; rw [if_pos hn]; exact hg, hw⟩
end
end Go.Proofs.Ytnonnencdhogiaa

/-
  Layer 14's laws: filled; two stores beside one another.
-/
namespace Go.Proofs.Ytnonnencdhogiaa
open Go.RowKit

/-- what came, of a list of versions -/
def fillR (xs : List KV) : List KV := xs.foldl (fun R x => afterR R x.1 x.2) []
theorem fillR_snoc (xs : List KV) (x : KV) : fillR (xs ++ [x]) = afterR (fillR xs) x.1 x.2 := by simp [fillR, List.foldl_append]
theorem fillR_take {xs : List KV} {i : Nat} {x : KV} (h : xs[i]? = some x) : fillR (xs.take (i + 1)) = afterR (fillR (xs.take i)) x.1 x.2 := by
  rw [List.take_add_one, h]
  exact fillR_snoc _ _

def FillPost (xs : List KV) (U : Nat → Prop) (w : World) (e : Ending) (w' : World) : Prop := ∃ s T, e = .returned (.pointer (some ⟨s, 0, none⟩)) ∧ StoR w' s T U (fillR xs) xs.length ∧ Only NoneOf w w' ∧ ∀ k, T k → w.heap.size ≤ k

set_option maxRecDepth 100000 in
set_option maxHeartbeats 4000000 in
theorem filled_is (w : World) (A : Option Addr) (cap : Nat) (xs : List KV) (U : Nat → Prop) (hA : VersAt w A xs) (hfew : xs.length ≤ 2513169434843) (hU : ∀ k, U k → k < w.heap.size) : Calls Try.prog 18 #[.slice A xs.length cap] w (FillPost xs U w) := by
  have HA := Lib.hid hA
  obtain ⟨n, hn⟩ : ∃ n, xs.length = n := ⟨_, rfl⟩
  have HN := Lib.hid hn
  have HNW := Lib.hid (newR w U hU)
  rw [hn] at hfew ⊢
  clear hA hn
  go_enter Try.func18, Try.ntmps18
  go_wp2_with fail
  refine HNW.out.mono ?_; rintro e w1 ⟨rfl, T1, h1, ho1, ht1⟩
  have H1 := Lib.hid h1
  have HO1 := Lib.hid ho1
  have HT1 := Lib.hid ht1
  clear h1 ho1 ht1
  go_wp2_with fail
  go_loopw [9] (fun v wr => ∃ (i : Nat) (T : Nat → Prop), v = .int .i64 i ∧ i ≤ n ∧ StoR wr (w.heap.size + 1) T U (fillR (xs.take i)) i ∧ Only NoneOf w wr ∧ ∀ k, T k → w.heap.size ≤ k) (fun v _ => n - (intOf v).toNat)
  case atStart => exact ⟨0, T1, rfl, by omega, H1.out, HO1.out, HT1.out⟩
  case round =>
    obtain ⟨i, T, rfl, hi, h, hO, hT⟩ := hrel
    have HO := Lib.hid hO
    have HS := Lib.hid h
    have HT := Lib.hid hT
    clear hO h hT
    by_cases hlt : i < n
    · have hx : xs[i]? = some (xs[i]'(by rw [HN.out]; exact hlt)) := List.getElem?_eq_getElem _
      generalize xs[i]'(by rw [HN.out]; exact hlt) = x at hx
      obtain ⟨g, off, Ab, cb, rfl, hg, d0, d1, d2, d3, hby, hks⟩ := (HA.out.keep HO.out) i x hx
      have HTK := Lib.hid (fillR_take hx)
      obtain ⟨key, st, bs, dead⟩ := x
      simp only at d0 d1 d2 d3 hby hks
      obtain ⟨nn, hnn⟩ : ∃ nn, bs.length = nn := ⟨_, rfl⟩
      rw [hnn] at d2
      have HAP := Lib.hid (applyR _ _ _ _ _ _ (HS.out.keep ((Only.refl NoneOf wr).alloc (.cells (verC key st (.slice Ab nn cb) dead) 27))) (by unfold NMAX; omega) key st Ab nn cb dead bs hnn (hby.keep ((Only.refl _ _).alloc _)))
      have HOA := Lib.hid (HO.out.alloc (.cells (verC key st (.slice Ab nn cb) dead) 27))
      have hwr := HO.out.size
      clear hby hx
      go_wp2_with fail
      refine HAP.out.mono ?_; rintro e w2 ⟨rfl, T2, h2, ho2, ht2⟩
      have H2 := Lib.hid h2
      have HO2 := Lib.hid (HOA.out.step ho2 (fun k hk hh => by have := HT.out k hh; omega))
      have HT2 := Lib.hid (show ∀ k, T2 k → w.heap.size ≤ k from fun k hk => by
        rcases ht2 k hk with h | h
        · exact HT.out k h
        · simp at h; omega)
      clear h2 ho2 ht2
      go_wp2_with fail
      exact ⟨⟨i + 1, T2, by rw [show ((i + 1 : Nat) : Int) = (i : Int) + 1 by omega], by omega, by rw [HTK.out]; exact H2.out, HO2.out, HT2.out⟩, by simp [intOf]; omega⟩
    · obtain rfl : i = n := by omega
      have e1 : xs.take i = xs := by rw [← HN.out, List.take_length]
      have H3 := HS.out
      rw [e1] at H3
      have HS3 := Lib.hid H3
      clear H3 e1
      go_wp2_with fail
      go_ret
      exact ⟨_, T, rfl, by rw [HN.out]; exact HS3.out, HO.out, HT.out⟩

/-- What a call of one store leaves of another. -/
theorem StoR.beside {w w' : World} {s t N M : Nat} {T1 T1' T2 : Nat → Prop} {R1 R2 : List KV} (h2 : StoR w t T2 T1 R2 M) (h1' : StoR w' s T1' T2 R1 N) (ho : Only T1 w w') (hT : ∀ k, T1' k → T1 k ∨ w.heap.size ≤ k) : StoR w' t T2 T1' R2 M :=
  h2.other ho (fun _ h => h) (fun k hk => ⟨h1'.lt hk, hT k hk⟩)

end Go.Proofs.Ytnonnencdhogiaa

/-
  Layer 14's laws: one call of two stores, one behind the other.
-/
namespace Go.Proofs.Ytnonnencdhogiaa
open Go.RowKit

theorem info29 : (Try.prog.info? 29).map (·.size) = some 6 := by kernel_rfl

theorem Only.both {S S' : Nat → Prop} {w w' w'' : World} (h : Only S w w') (k : Only S' w' w'') : Only (fun b => S b ∨ S' b) w w'' := (h.mono (fun _ _ h => Or.inl h)).step k (fun _ _ h => Or.inr h)
theorem TStay.low {lo lo' : Nat} {w : World} {cs : Array Value} {x : An} (h : TStay lo w cs x) (hl : lo' ≤ lo) : TStay lo' w cs x := fun S w' ho hS => h S w' ho (fun k hk => Nat.lt_of_lt_of_le (hS k hk) hl)
theorem TStay.turn {lo : Nat} {w w' : World} {cs : Array Value} {x : An} {S : Nat → Prop} (h : TStay lo w cs x) (ho : Only S w w') (hS : ∀ k, S k → k < lo) : TStay lo w' cs x := fun S' w'' ho' hS' => h (fun b => S b ∨ S' b) w'' (ho.both ho') (fun k hk => hk.elim (hS k) (hS' k))
theorem TStay.keep {lo : Nat} {w w' : World} {cs : Array Value} {x : An} (h : TStay lo w cs x) (ho : Only NoneOf w w') : TStay lo w' cs x := h.turn ho (fun _ h => h.elim)

/-- Two stores, and the call that both are asked. -/
def TwoG (w0 : World) (s t : Nat) (T1 T2 : Nat → Prop) (R1 R2 : List KV) (x : Stp) (N M b : Nat) (row : Array Value) : Nat → World → Prop
  | 0, w => StoR w s T1 T2 R1 N ∧ StoR w t T2 T1 R2 M ∧ Only NoneOf w0 w ∧ Blk w b 29 row
  | 1, w => ∃ T1', StoR w s T1' T2 (stepR R1 x) (N + 1) ∧ StoR w t T2 T1' R2 M ∧ Only NoneOf w0 w ∧ Blk w b 29 row ∧ ∀ k, T1' k → w0.heap.size ≤ k
  | _, w => ∃ T1' T2', StoR w s T1' T2' (stepR R1 x) (N + 1) ∧ StoR w t T2' T1' (stepR R2 x) (M + 1) ∧ Only NoneOf w0 w ∧ Blk w b 29 row ∧ (∀ k, T1' k → w0.heap.size ≤ k) ∧ ∀ k, T2' k → w0.heap.size ≤ k
/-- what a call told -/
def TellV (lo : Nat) (x : An) (v : Value) (w : World) : Prop := ∃ cs, v = .agg cs ∧ TStay lo w cs x

theorem TwoG.drew {w0 : World} {s t : Nat} {T1 T2 : Nat → Prop} {R1 R2 : List KV} {x : Stp} {N M b : Nat} {row : Array Value} {w : World} (h : TwoG w0 s t T1 T2 R1 R2 x N M b row 0 w) : TwoG w0 s t T1 T2 R1 R2 x N M b row 0 { w with drawn := w.drawn + 1 } := by
  have hd : Only NoneOf w { w with drawn := w.drawn + 1 } := (Only.refl _ _).drew
  exact ⟨h.1.keep hd, h.2.1.keep hd, h.2.2.1.trans hd, h.2.2.2.only hd (fun h => h)⟩
theorem TwoG.row {w0 : World} {s t : Nat} {T1 T2 : Nat → Prop} {R1 R2 : List KV} {x : Stp} {N M b : Nat} {row : Array Value} {k : Nat} {w : World} (h : TwoG w0 s t T1 T2 R1 R2 x N M b row k w) : Blk w b 29 row := by
  match k, h with
  | 0, h => exact h.2.2.2
  | 1, ⟨_, _, _, _, h, _⟩ => exact h
  | _ + 2, ⟨_, _, _, _, _, h, _⟩ => exact h
theorem TwoG.end {w0 : World} {s t : Nat} {T1 T2 : Nat → Prop} {R1 R2 : List KV} {x : Stp} {N M b : Nat} {row : Array Value} {k : Nat} {w : World} (h : TwoG w0 s t T1 T2 R1 R2 x N M b row k w) (hk : 1 < k) :
    ∃ T1' T2', StoR w s T1' T2' (stepR R1 x) (N + 1) ∧ StoR w t T2' T1' (stepR R2 x) (M + 1) ∧ Only NoneOf w0 w ∧ (∀ k, T1' k → w0.heap.size ≤ k) ∧ ∀ k, T2' k → w0.heap.size ≤ k := by
  match k, h, hk with
  | _ + 2, ⟨T1', T2', h1, h2, h3, _, h5, h6⟩, _ => exact ⟨T1', T2', h1, h2, h3, h5, h6⟩

theorem two_first {w0 u : World} {s t : Nat} {T1 T2 : Nat → Prop} {R1 R2 : List KV} {x : Stp} {N M b lo : Nat} {row : Array Value} (h : TwoG w0 s t T1 T2 R1 R2 x N M b row 0 u) (A : Option Addr) (cc : Nat) (hN : N < NMAX) (hkey : x.key.size ≤ maxLen) (hby : BytesAt w0 A x.bs)
    (hT1 : ∀ k, T1 k → w0.heap.size ≤ k) (hb : ¬ T1 b) (hlo : lo ≤ u.heap.size) :
    Calls Try.prog 17 #[.pointer (some ⟨s, 0, none⟩), .agg (stepC x.kind x.key x.st (.slice A x.bs.length cc) x.dead x.tt)] u fun e w' => ∃ v, e = .returned v ∧ TellV lo (ansR R1 x) v w' ∧ TwoG w0 s t T1 T2 R1 R2 x N M b row (0 + 1) w' ∧ Only (fun k => T1 k ∨ T2 k) u w' := by
  obtain ⟨h1, h2, h3, h4⟩ := h
  refine (call_is u s N T1 T2 R1 h1 hN x A cc hkey (hby.keep h3)).mono ?_
  rintro e w' ⟨cs, T1', rfl, hst, hs, ho, hk⟩
  have h3' : Only NoneOf w0 w' := h3.step ho (fun k hk' ht => by have := hT1 k ht; omega)
  refine ⟨_, rfl, ⟨cs, rfl, hst.low hlo⟩, ⟨T1', hs, h2.beside hs ho hk, h3', h4.only ho hb, fun k hk' => ?_⟩, ho.mono (fun _ _ h => .inl h)⟩
  rcases hk k hk' with h | h
  · exact hT1 k h
  · have := h3.size; omega
theorem two_second {w0 u : World} {s t : Nat} {T1 T2 : Nat → Prop} {R1 R2 : List KV} {x : Stp} {N M b lo : Nat} {row : Array Value} (h : TwoG w0 s t T1 T2 R1 R2 x N M b row 1 u) (A : Option Addr) (cc : Nat) (hM : M < NMAX) (hkey : x.key.size ≤ maxLen) (hby : BytesAt w0 A x.bs)
    (hT2 : ∀ k, T2 k → w0.heap.size ≤ k) (hb : ¬ T2 b) (hlo : lo ≤ u.heap.size) :
    Calls Try.prog 17 #[.pointer (some ⟨t, 0, none⟩), .agg (stepC x.kind x.key x.st (.slice A x.bs.length cc) x.dead x.tt)] u fun e w' => ∃ v, e = .returned v ∧ TellV lo (ansR R2 x) v w' ∧ TwoG w0 s t T1 T2 R1 R2 x N M b row (1 + 1) w' ∧ Only (fun k => T1 k ∨ T2 k) u w' := by
  obtain ⟨T1', h1, h2, h3, h4, h5⟩ := h
  refine (call_is u t M T2 T1' R2 h2 hM x A cc hkey (hby.keep h3)).mono ?_
  rintro e w' ⟨cs, T2', rfl, hst, hs, ho, hk⟩
  have h3' : Only NoneOf w0 w' := h3.step ho (fun k hk' ht => by have := hT2 k ht; omega)
  refine ⟨_, rfl, ⟨cs, rfl, hst.low hlo⟩, ⟨T1', T2', h1.beside hs ho hk, hs, h3', h4.only ho hb, h5, fun k hk' => ?_⟩, ho.mono (fun _ _ h => .inr h)⟩
  rcases hk k hk' with h | h
  · exact hT2 k h
  · have := h3.size; omega

/-- An answer's sizes are a machine's. -/
theorem ansR_fit {w : World} {s N : Nat} {T U : Nat → Prop} {R : List KV} (h : StoR w s T U R N) (hN : N ≤ NMAX) (x : Stp) : (ansR R x).Fit := by
  obtain ⟨m, n, D, C, _, _, hg, _, hl⟩ := h
  unfold NMAX at hN
  have hz : ∀ e n m is, (An.Fit { e := e, n := n, m := m, is := is }) := fun _ _ _ _ => ⟨by simp, by simp, fun p h => by simp at h, by simp, fun p h => by simp at h⟩
  unfold ansR
  split
  · exact hz _ _ _ _
  split
  · split
    · exact hz _ _ _ _
    · rename_i b hb
      obtain ⟨y, hy, rfl⟩ := found_mem hb
      have := hg.bs _ (verR_mem.1 hy)
      exact ⟨by simp only at this ⊢; omega, by simp, fun p h => by simp at h, by simp, fun p h => by simp at h⟩
  split
  · split <;> exact hz _ _ _ _
  split
  · refine ⟨by simp, ?_, fun p hp => ?_, by simp, fun p h => by simp at h⟩
    · have h1 : (scanR R x.key x.tt x.st).length ≤ (keysR R).length := List.length_filterMap_le _ _
      have := keysR_length R
      simp only
      omega
    · obtain ⟨k, _, hk⟩ := List.mem_filterMap.1 hp
      unfold scanKey at hk
      split at hk
      · cases hk
      · obtain ⟨b, hb, rfl⟩ := Option.map_eq_some_iff.1 hk
        obtain ⟨y, hy, rfl⟩ := found_mem hb
        have := hg.bs _ (verR_mem.1 hy)
        simp only at this ⊢
        omega
  split
  · exact hz _ _ _ _
  split
  · exact hz _ _ _ _
  split
  · exact hz _ _ _ _
  split
  · refine ⟨by simp, by simp, fun p h => by simp at h, ?_, fun p hp => ?_⟩
    · simp only [versR_length]
      omega
    · obtain ⟨k, _, hk⟩ := List.mem_flatMap.1 hp
      obtain ⟨y, hy, rfl⟩ := List.mem_map.1 hk
      have := hg.bs _ (verR_mem.1 hy)
      simp only at this ⊢
      omega
  · exact hz _ _ _ _

end Go.Proofs.Ytnonnencdhogiaa

/-
  Layer 14's law StoreApart, plain: what is told of a key hangs on its own versions.
-/
namespace Go.Proofs.Ytnonnencdhogiaa

/-- R2 holds of R1 just what is of the key. -/
def ApartR (key : ByteArray) (R1 R2 : List KV) : Prop := verR R1 key = verR R2 key ∧ ∀ p ∈ R2, p.1 = key

theorem ApartR.nil (key : ByteArray) : ApartR key [] [] := ⟨rfl, fun _ h => by cases h⟩
theorem ApartR.code {key : ByteArray} {R1 R2 : List KV} (h : ApartR key R1 R2) (x : Ver) : codeR R1 key x = codeR R2 key x := by unfold codeR; rw [h.1]
theorem ApartR.after {key : ByteArray} {R1 R2 : List KV} (h : ApartR key R1 R2) (x : Ver) : ApartR key (afterR R1 key x) (afterR R2 key x) := by
  unfold afterR
  rw [h.code]
  split
  · refine ⟨by rw [verR_append, verR_append, h.1], fun p hp => ?_⟩
    rcases List.mem_append.1 hp with hp | hp
    · exact h.2 p hp
    · obtain rfl : p = (key, x) := by simpa using hp
      rfl
  · exact h
theorem ApartR.other {key k : ByteArray} {R1 R2 : List KV} (h : ApartR key R1 R2) (hk : k ≠ key) (x : Ver) : ApartR key (afterR R1 k x) R2 := by
  refine ⟨?_, h.2⟩
  unfold afterR
  split
  · rw [verR_append, verR_one, if_neg hk, List.append_nil]; exact h.1
  · exact h.1
theorem ApartR.vac {key : ByteArray} {R1 R2 : List KV} (h : ApartR key R1 R2) (h1 : GoodR R1) (h2 : GoodR R2) (hz : Int) : ApartR key (vacR R1 hz) (vacR R2 hz) :=
  ⟨by rw [verR_vac h1, verR_vac h2, h.1], fun p hp => h.2 p (List.mem_filter.1 hp).1⟩
theorem ApartR.ans {key : ByteArray} {R1 R2 : List KV} (h : ApartR key R1 R2) (x : Stp) (hx : x.key = key) (hk : 0 ≤ x.kind ∧ x.kind ≤ 2) : ansR R1 x = ansR R2 x := by
  have : x.kind = 0 ∨ x.kind = 1 ∨ x.kind = 2 := by omega
  unfold ansR
  rw [hx]
  rcases this with e | e | e <;> simp only [e]
  · simp [h.code]
  · simp [h.1]
  · simp [h.1]
theorem ApartR.step {key : ByteArray} {R1 R2 : List KV} (h : ApartR key R1 R2) (x : Stp) (hx : x.key = key) (hk : 0 ≤ x.kind ∧ x.kind ≤ 2) : ApartR key (stepR R1 x) (stepR R2 x) := by
  have : x.kind = 0 ∨ x.kind = 1 ∨ x.kind = 2 := by omega
  unfold stepR
  rw [hx]
  rcases this with e | e | e <;> simp only [e]
  · simpa using h.after _
  · simpa using h
  · simpa using h

theorem filter_group (key : ByteArray) (f : List UInt8 → List KV) (hf : ∀ k, ∀ p ∈ f k, p.1 = keyB k) : ∀ (ks : List (List UInt8)), ks.Nodup →
    (ks.flatMap f).filter (fun p => decide (p.1 = key)) = if key.data.toList ∈ ks then f key.data.toList else []
  | [], _ => rfl
  | k :: ks, hn => by
    obtain ⟨h1, h2⟩ := List.nodup_cons.1 hn
    have ih := filter_group key f hf ks h2
    rw [List.flatMap_cons, List.filter_append, ih]
    by_cases e : k = key.data.toList
    · subst e
      rw [if_neg h1, List.append_nil, if_pos (by simp)]
      exact List.filter_eq_self.2 fun p hp => by rw [hf _ p hp, keyB_list]; simp
    · have h0 : (f k).filter (fun p => decide (p.1 = key)) = [] := List.filter_eq_nil_iff.2 fun p hp => by
        rw [hf _ p hp]
        simp only [decide_eq_true_eq]
        exact fun e' => e (by rw [← e'])
      rw [h0, List.nil_append]
      by_cases hk : key.data.toList ∈ ks
      · rw [if_pos hk, if_pos (by simp [hk])]
      · rw [if_neg hk, if_neg (by simp [hk, Ne.symm e])]
theorem versR_filter (R : List KV) (key : ByteArray) : (versR R).filter (fun p => decide (p.1 = key)) = (verR R key).map fun x => (key, x) := by
  have hf : ∀ k, ∀ p ∈ ((verR R (keyB k)).map fun x => ((keyB k, x) : KV)), p.1 = keyB k := fun k p hp => by
    obtain ⟨x, _, rfl⟩ := List.mem_map.1 hp
    rfl
  unfold versR
  rw [filter_group key _ hf (keysR R) (sorted_nodup (keysR_sorted _)), keyB_list]
  split
  · rfl
  · rename_i hk
    have : verR R key = [] := by
      cases hc : verR R key with
      | nil => rfl
      | cons y ys =>
        obtain ⟨z, hz⟩ := verR_ne.1 (show verR R key ≠ [] by rw [hc]; simp)
        exact absurd (keysR_mem.2 ⟨z, by rw [keyB_list]; exact hz⟩) hk
    rw [this]
    rfl
theorem versR_mem {R : List KV} {p : KV} (h : p ∈ versR R) : p ∈ R := by
  obtain ⟨k, _, hk⟩ := List.mem_flatMap.1 h
  obtain ⟨x, hx, rfl⟩ := List.mem_map.1 hk
  exact verR_mem.1 hx
theorem ApartR.vers {key : ByteArray} {R1 R2 : List KV} (h : ApartR key R1 R2) : (versR R1).filter (fun p => decide (p.1 = key)) = versR R2 := by
  have e : (versR R2).filter (fun p => decide (p.1 = key)) = versR R2 := List.filter_eq_self.2 fun p hp => by simp [h.2 p (versR_mem hp)]
  rw [← e, versR_filter, versR_filter, h.1]

end Go.Proofs.Ytnonnencdhogiaa

/-
  Layer 14's law StoreApart walked.
-/
namespace Go.Proofs.Ytnonnencdhogiaa
open Go.RowKit

/-- the values of a region that asks both stores the same -/
def TwoT (x : Stp) (A : Option Addr) (c : Nat) (s t : Nat) (R1 R2 : List KV) (lo : Nat) : Nat → Value → World → Prop
  | 0, v, _ => v = .pointer (some ⟨s, 0, none⟩)
  | 1, v, _ => v = .agg (stepC x.kind x.key x.st (.slice A x.bs.length c) x.dead x.tt)
  | 2, v, w => TellV lo (ansR R1 x) v w
  | 3, v, _ => v = .pointer (some ⟨t, 0, none⟩)
  | 4, v, _ => v = .agg (stepC x.kind x.key x.st (.slice A x.bs.length c) x.dead x.tt)
  | 5, v, w => TellV lo (ansR R2 x) v w
  | _, _, _ => True
theorem TwoT_keep (x : Stp) (A : Option Addr) (c : Nat) (s t : Nat) (R1 R2 : List KV) (lo : Nat) {S : Nat → Prop} (hS : ∀ k, S k → k < lo) (i : Nat) (v : Value) (w w' : World) (h : TwoT x A c s t R1 R2 lo i v w) (ho : Only S w w') : TwoT x A c s t R1 R2 lo i v w' :=
  match i, h with
  | 0, h | 1, h | 3, h | 4, h => h
  | 2, ⟨cs, h1, h2⟩ => ⟨cs, h1, h2.turn ho hS⟩
  | 5, ⟨cs, h1, h2⟩ => ⟨cs, h1, h2.turn ho hS⟩
  | _ + 6, _ => trivial
theorem TwoG.only {w0 : World} {s t : Nat} {T1 T2 : Nat → Prop} {R1 R2 : List KV} {x : Stp} {N M b : Nat} {row : Array Value} {k : Nat} {w : World} (h : TwoG w0 s t T1 T2 R1 R2 x N M b row k w) : Only NoneOf w0 w := by
  match k, h with
  | 0, h => exact h.2.2.1
  | 1, ⟨_, _, _, h, _⟩ => exact h
  | _ + 2, ⟨_, _, _, _, h, _⟩ => exact h

/-- two stores beside one another -/
def TwoSt (w0 : World) (s t : Nat) (R1 R2 : List KV) (N : Nat) (w : World) : Prop :=
  ∃ T1 T2, StoR w s T1 T2 R1 N ∧ StoR w t T2 T1 R2 N ∧ Only NoneOf w0 w ∧ (∀ k, T1 k → w0.heap.size ≤ k) ∧ ∀ k, T2 k → w0.heap.size ≤ k
theorem TwoSt.keep {w0 : World} {s t : Nat} {R1 R2 : List KV} {N : Nat} {w w' : World} (h : TwoSt w0 s t R1 R2 N w) (ho : Only NoneOf w w') : TwoSt w0 s t R1 R2 N w' := by
  obtain ⟨T1, T2, h1, h2, h3, h4, h5⟩ := h
  exact ⟨T1, T2, h1.keep ho, h2.keep ho, h3.trans ho, h4, h5⟩
theorem TwoSt.more {w0 : World} {s t : Nat} {R1 R2 : List KV} {N N' : Nat} {w : World} (h : TwoSt w0 s t R1 R2 N w) (hN : N ≤ N') : TwoSt w0 s t R1 R2 N' w := by
  obtain ⟨T1, T2, h1, h2, h3⟩ := h
  exact ⟨T1, T2, h1.more hN, h2.more hN, h3⟩
theorem TwoSt.good {w0 : World} {s t : Nat} {R1 R2 : List KV} {N : Nat} {w : World} (h : TwoSt w0 s t R1 R2 N w) : GoodR R1 ∧ GoodR R2 := by
  obtain ⟨T1, T2, h1, h2, _⟩ := h
  exact ⟨h1.good, h2.good⟩
/-- a call of the first that turns it -/
theorem TwoSt.turn {w0 : World} {s t : Nat} {T1 T1' T2 : Nat → Prop} {R1' R2 : List KV} {N N' : Nat} {w w' : World} (h2 : StoR w t T2 T1 R2 N) (ho0 : Only NoneOf w0 w) (hT1 : ∀ k, T1 k → w0.heap.size ≤ k) (hT2 : ∀ k, T2 k → w0.heap.size ≤ k)
    (h1' : StoR w' s T1' T2 R1' N') (ho : Only T1 w w') (hk : ∀ k, T1' k → T1 k ∨ w.heap.size ≤ k) (hN : N ≤ N') : TwoSt w0 s t R1' R2 N' w' :=
  ⟨T1', T2, h1', (h2.beside h1' ho hk).more hN, ho0.step ho (fun k hk' ht => by have := hT1 k ht; omega), fun k hk' => by
    rcases hk k hk' with h | h
    · exact hT1 k h
    · have := ho0.size; omega, hT2⟩
theorem TwoSt.swap {w0 : World} {s t : Nat} {R1 R2 : List KV} {N : Nat} {w : World} (h : TwoSt w0 s t R1 R2 N w) : TwoSt w0 t s R2 R1 N w := by
  obtain ⟨T1, T2, h1, h2, h3, h4, h5⟩ := h
  exact ⟨T2, T1, h2, h1, h3, h5, h4⟩
theorem two_vacuum {w0 w w1 : World} {s t : Nat} {R1 R2 : List KV} {N : Nat} (h : TwoSt w0 s t R1 R2 N w) (h01 : Only NoneOf w w1) (hN : N ≤ NMAX) (hz : Int) :
    Calls Try.prog 20 #[.pointer (some ⟨s, 0, none⟩), .int .i64 hz] w1 fun e w' => e = .returned (.int .i64 ((R1.length - (vacR R1 hz).length : Nat) : Int)) ∧ TwoSt w0 s t (vacR R1 hz) R2 N w' ∧ Only (fun k => k < w.heap.size) w1 w' := by
  obtain ⟨T1, T2, h1, h2, h3, h4, h5⟩ := h
  refine (vacuumR w1 s N T1 T2 R1 (h1.keep h01) hN hz).mono ?_
  rintro e w' ⟨he, T1', hs, ho, hk⟩
  exact ⟨he, TwoSt.turn (h2.keep h01) (h3.trans h01) h4 h5 hs ho hk (Nat.le_refl _), ho.mono (fun k _ hk => h1.lt hk)⟩
theorem two_apply {w0 w : World} {s t : Nat} {R1 R2 : List KV} {N : Nat} (h : TwoSt w0 s t R1 R2 N w) (hN : N < NMAX) (key : ByteArray) (st : Int) (A : Option Addr) (nn cc : Nat) (dead : Bool) (bs : List UInt8) (hnn : bs.length = nn) (hby : BytesAt w A bs) :
    Calls Try.prog 21 #[.pointer (some ⟨s, 0, none⟩), .agg (verC key st (.slice A nn cc) dead)] w fun e w' => e = .returned (.int .i64 (codeR R1 key ⟨st, bs, dead⟩)) ∧ TwoSt w0 s t (afterR R1 key ⟨st, bs, dead⟩) R2 (N + 1) w' := by
  obtain ⟨T1, T2, h1, h2, h3, h4, h5⟩ := h
  refine (applyR w s N T1 T2 R1 h1 hN key st A nn cc dead bs hnn hby).mono ?_
  rintro e w' ⟨he, T1', hs, ho, hk⟩
  exact ⟨he, TwoSt.turn h2 h3 h4 h5 hs ho hk (by omega)⟩
theorem two_new (w0 w : World) (h0 : Only NoneOf w0 w) : Calls Try.prog 29 #[] w fun e w' => e = .returned (.pointer (some ⟨w.heap.size + 1, 0, none⟩)) ∧ ∃ T, StoR w' (w.heap.size + 1) T NoneOf [] 0 ∧ Only NoneOf w0 w' ∧ ∀ k, T k → w0.heap.size ≤ k :=
  (newR w NoneOf (fun _ h => h.elim)).mono fun _ _ ⟨he, T, h1, h2, h3⟩ => ⟨he, T, h1, h0.trans h2, fun k hk => Nat.le_trans h0.size (h3 k hk)⟩
theorem two_new2 (w0 w : World) (s N : Nat) (T1 : Nat → Prop) (R1 : List KV) (h1 : StoR w s T1 NoneOf R1 N) (h0 : Only NoneOf w0 w) (hT : ∀ k, T1 k → w0.heap.size ≤ k) :
    Calls Try.prog 29 #[] w fun e w' => e = .returned (.pointer (some ⟨w.heap.size + 1, 0, none⟩)) ∧ TwoSt w0 s (w.heap.size + 1) R1 [] N w' :=
  (newR w T1 (fun _ h => h1.lt h)).mono fun _ _ ⟨he, T2, h2, ho, h3⟩ => ⟨he, T1, T2, h1.other ho (fun _ h => h.elim) (fun k hk => ⟨h2.lt hk, .inr (h3 k hk)⟩), h2.more (Nat.zero_le _), h0.trans ho, hT, fun k hk => Nat.le_trans h0.size (h3 k hk)⟩

theorem flat_cell {w : World} {base g n c : Nat} {rs : List VRow} (h : w.ownsRow base 27 4 (.slice (some ⟨g, 0, none⟩) n c) rs.length (vflat rs)) {i : Nat} {r : VRow} (hr : rs[i]? = some r) {j : Nat} (hj : j < 4) : w.cell? ⟨g, i * 4 + j, none⟩ = r.cells[j]? := by
  rcases h.2 with ⟨h0, _⟩ | ⟨g', cap', cur', hv', _, hb', hle, _, hs, hcur'⟩
  · cases h0
  · injection hv' with hv1 hn _
    injection hv1 with hv1
    injection hv1 with hv1 _ _
    subst hv1
    have hil : i < rs.length := (List.getElem?_eq_some_iff.1 hr).1
    rw [Blk.cell (t := 27) (cs := cur') hb', ← flatMap_get VRow.cells 4 (fun _ => rfl) rs i j r hr hj]
    change _ = (vflat rs)[i * 4 + j]?
    rw [← hcur', List.getElem?_take_of_lt (by omega), Array.getElem?_toList]
theorem listAt_rows {w : World} {base : Nat} {v : Value} {rs : List VRow} (h : w.ownsRow base 27 4 v rs.length (vflat rs)) (hv : ∀ r ∈ rs, BytesV w r.val r.bs) : ListAt 4 VerE w v (rs.map VRow.plain) := by
  obtain ⟨A, c, rfl⟩ := ownsRow_slice h
  refine ⟨A, c, by simp, fun i x hx => ?_⟩
  rw [List.getElem?_map] at hx
  obtain ⟨r, hr, rfl⟩ := Option.map_eq_some_iff.1 hx
  obtain ⟨g, rfl⟩ : ∃ g, A = some ⟨g, 0, none⟩ := by
    rcases h.2 with ⟨h0, h1⟩ | ⟨g, cap, cur, hv, _⟩
    · rw [List.eq_nil_of_length_eq_zero h1] at hr; cases hr
    · injection hv with hv1; exact ⟨g, hv1⟩
  obtain ⟨A', c', hv', hb⟩ := hv r (List.mem_of_getElem? hr)
  refine ⟨g, 0, r.cells, rfl, (ownsRow_lt h (g := g) rfl).2, fun j c hj => ?_, rfl, A', c', by simp [VRow.cells, VRow.plain, hv'], hb⟩
  have hj2 : j < 4 := (List.getElem?_eq_some_iff.1 hj).1
  rw [Nat.zero_add, flat_cell h hr hj2]
  exact hj

theorem StoR.len {w : World} {s N : Nat} {T U : Nat → Prop} {R : List KV} (h : StoR w s T U R N) : R.length ≤ N := by
  obtain ⟨m, n, D, C, _, _, _, _, h⟩ := h
  exact h
/-- the loop over the versions: those of the key -/
def OwnRel (W : World) (key : ByteArray) (rs : List VRow) (v vi : Value) (wr : World) : Prop :=
  ∃ (i : Nat) (sel : List VRow), i ≤ rs.length ∧ vi = .int .i64 i ∧ Only NoneOf W wr ∧ wr.ownsRow W.heap.size 27 4 v sel.length (vflat sel) ∧ sel.length ≤ i ∧ sel.map VRow.plain = ((rs.take i).map VRow.plain).filter (fun p => decide (p.1 = key)) ∧ ∀ r ∈ sel, r ∈ rs

/-- the loop over the script -/
def ApRel (w0 : World) (s t : Nat) (key : ByteArray) (n : Nat) (v : Value) (wr : World) : Prop := ∃ (i : Nat) (R1 R2 : List KV), v = .int .i64 i ∧ i ≤ n ∧ TwoSt w0 s t R1 R2 i wr ∧ ApartR key R1 R2

set_option maxRecDepth 100000 in
set_option maxHeartbeats 8000000 in
theorem apart_walk (key : ByteArray) (A : Option Addr) (cap : Nat) (xs : List Stp) (w : World) (hA : StepsAt w A xs) (hfew : xs.length ≤ 1759218604390) : Calls Try.prog 8 #[.string key, .slice A xs.length cap] w (Ans (.bool true) w) := by
  have HA := Lib.hid hA
  obtain ⟨n, hn⟩ : ∃ n, xs.length = n := ⟨_, rfl⟩
  have HN := Lib.hid hn
  rw [hn] at hfew ⊢
  clear hA hn
  have HW := Lib.hid (two_new w w (Only.refl _ _))
  go_enter Try.func8, Try.ntmps8
  go_wp2_with fail
  refine HW.out.mono ?_; rintro e w1 ⟨rfl, T1, h1, ho1, ht1⟩
  have HW2 := Lib.hid (two_new2 w w1 _ 0 T1 [] h1 ho1 ht1)
  clear h1 ho1 ht1
  go_wp2_with fail
  refine HW2.out.mono ?_; rintro e w2 ⟨rfl, htw⟩
  have HTW := Lib.hid htw
  clear htw
  go_wp2_with fail
  obtain ⟨s, hs⟩ : ∃ s, s = w.heap.size + 1 := ⟨_, rfl⟩
  obtain ⟨t, ht⟩ : ∃ t, t = w1.heap.size + 1 := ⟨_, rfl⟩
  rw [← hs, ← ht] at HTW ⊢
  clear HW HW2 hs ht
  go_loopw [16] (fun v wr => ApRel w s t key n v wr) (fun v _ => n - (intOf v).toNat)
  case atStart => exact ⟨0, [], [], rfl, by omega, HTW.out, ApartR.nil key⟩
  case round =>
    obtain ⟨i, R1, R2, rfl, hi, htw, hap⟩ := hrel
    have HTW := Lib.hid htw
    have HAP := Lib.hid hap
    obtain ⟨_, _, _, _, hO, _⟩ := htw
    have HO := Lib.hid hO
    clear hap hO
    by_cases hlt : i < n
    · have hx : xs[i]? = some (xs[i]'(by rw [HN.out]; exact hlt)) := List.getElem?_eq_getElem _
      generalize xs[i]'(by rw [HN.out]; exact hlt) = x at hx
      obtain ⟨g, off, Ab, cb, rfl, hg, d0, d1, d2, d3, d4, d5, _, hks⟩ := (HA.out.keep HO.out) i x hx
      have HBY := Lib.hid (show BytesAt w Ab x.bs from by
        obtain ⟨g2, off2, Ab2, cb2, hA2, hg2, e0, e1, e2, e3, e4, e5, hby2, _⟩ := HA.out i x hx
        injection hA2 with hA2
        injection hA2 with h1 h2 _
        subst h1; subst h2
        have := (HO.out.cell (p := ⟨g, off + i * 6 + 3, none⟩) hg2 (fun h => h)).trans e3
        rw [d3] at this
        injection this with this
        injection this with h1 _ _
        rw [h1]
        exact hby2)
      have HTA := Lib.hid (HTW.out.keep ((Only.refl NoneOf wr).alloc (.cells (stepC x.kind x.key x.st (.slice Ab x.bs.length cb) x.dead x.tt) 29)))
      have hlt' : i < NMAX := by unfold NMAX; omega
      have fin : ∀ u R1' R2', TwoSt w s t R1' R2' (i + 1) u → ApartR key R1' R2' → ApRel w s t key n (.int .i64 ((i : Int) + 1)) u := fun u R1' R2' h1 h2 =>
        ⟨i + 1, R1', R2', by rw [show ((i + 1 : Nat) : Int) = (i : Int) + 1 by omega], by omega, h1, h2⟩
      have FIN := Lib.hid fin
      clear fin
      cases q4 : (x.kind == 4)
      · cases qk : (x.key.toList == key.toList)
        · have hne : x.key ≠ key := fun e => by rw [e] at qk; simp at qk
          cases q0 : (x.kind == 0)
          · go_wp2_with fail
            exact ⟨FIN.out _ _ _ (HTA.out.more (by omega)) HAP.out, by simp [intOf]; omega⟩
          · have HAP2 := Lib.hid (two_apply HTA.out hlt' x.key x.st Ab x.bs.length cb x.dead x.bs rfl (HBY.out.keep (HO.out.alloc _)))
            go_wp2_with fail
            refine HAP2.out.mono ?_; rintro e u1 ⟨rfl, hu1⟩
            have HU1 := Lib.hid hu1
            clear hu1
            go_wp2_with fail
            exact ⟨FIN.out _ _ _ HU1.out (HAP.out.other hne _), by simp [intOf]; omega⟩
        · have hkk : x.key = key := by rw [bytes_beq] at qk; exact of_decide_eq_true qk
          have HKK := Lib.hid hkk
          have hrng : (decide (0 ≤ x.kind) = true ∧ decide (x.kind ≤ 2) = true) ∨ ((x.kind == 0) = false ∧ (decide (0 ≤ x.kind) = false ∨ decide (0 ≤ x.kind) = true ∧ decide (x.kind ≤ 2) = false)) := by
            rcases Int.lt_or_le x.kind 0 with h | h
            · exact .inr ⟨beq_eq_false_iff_ne.2 (by omega), .inl (decide_eq_false (by omega))⟩
            · rcases Int.lt_or_le 2 x.kind with h' | h'
              · exact .inr ⟨beq_eq_false_iff_ne.2 (by omega), .inr ⟨decide_eq_true h, decide_eq_false (by omega)⟩⟩
              · exact .inl ⟨decide_eq_true h, decide_eq_true h'⟩
          rcases hrng with ⟨qa, qb⟩ | ⟨q0, qa | ⟨qa, qb⟩⟩
          · have HRG := Lib.hid (show 0 ≤ x.kind ∧ x.kind ≤ 2 from ⟨of_decide_eq_true qa, of_decide_eq_true qb⟩)
            obtain ⟨T1, T2, h1, h2, h3, h4, h5⟩ := HTW.out
            have hal : Only NoneOf wr (wr.alloc (.cells (stepC x.kind x.key x.st (.slice Ab x.bs.length cb) x.dead x.tt) 29)) := (Only.refl _ _).alloc _
            have HG0 := Lib.hid (show TwoG w s t T1 T2 R1 R2 x i i wr.heap.size (stepC x.kind x.key x.st (.slice Ab x.bs.length cb) x.dead x.tt) 0 (wr.alloc (.cells (stepC x.kind x.key x.st (.slice Ab x.bs.length cb) x.dead x.tt) 29)) from
              ⟨h1.keep hal, h2.keep hal, h3.trans hal, Blk.new _ _ _⟩)
            have HT1 := Lib.hid h4
            have HT2 := Lib.hid h5
            have hb1 : ¬ T1 wr.heap.size := fun h => by have := h1.lt h; omega
            have hb2 : ¬ T2 wr.heap.size := fun h => by have := h2.lt h; omega
            have hlo : ∀ k, T1 k ∨ T2 k → k < wr.heap.size := fun k hk => hk.elim (fun h => h1.lt h) (fun h => h2.lt h)
            have HF := Lib.hid (ansR_fit h1 (by omega) x)
            have HAN := Lib.hid (HAP.out.ans x hkk HRG.out)
            clear h1 h2 h3 h4 h5 hal hkk
            go_upto_region 9 with (fail)
            refine wp_region_head2 6 90 [] (fun _ => none) (fun i => match i with | 2 => some 0 | 5 => some 1 | _ => none) (fun k => T1 k ∨ T2 k) (TwoG w s t T1 T2 R1 R2 x i i wr.heap.size (stepC x.kind x.key x.st (.slice Ab x.bs.length cb) x.dead x.tt)) (TwoT x Ab cb s t R1 R2 wr.heap.size) rfl (by kernel_rfl) (by kernel_rfl) ?hskip ?hgv (TwoT_keep _ _ _ _ _ _ _ _ hlo) HG0.out.drew ?hstep ?hend
            case hskip =>
              intro i o hi ho hw k
              have : i = 0 ∨ i = 1 ∨ i = 2 ∨ i = 3 ∨ i = 4 ∨ i = 5 := by omega
              rcases this with rfl | rfl | rfl | rfl | rfl | rfl
              · rfl
              · rfl
              · obtain rfl := Option.some.inj (ho : some _ = some o); exact absurd (show true = false from hw) (by decide)
              · rfl
              · rfl
              · obtain rfl := Option.some.inj (ho : some _ = some o); exact absurd (show true = false from hw) (by decide)
            case hgv =>
              intro g hg v w h
              cases hg
            case hstep =>
              intro i o hi ho a u k hk hik hs ht
              have e5 : a.tmps.getD 5 undef = .pointer (some ⟨s, 0, none⟩) := hs 5 (of_decide_eq_true (by kernel_rfl))
              have e6 : a.tmps.getD 6 undef = .pointer (some ⟨t, 0, none⟩) := hs 6 (of_decide_eq_true (by kernel_rfl))
              have e8 : a.tmps.getD 8 undef = .pointer (some ⟨wr.heap.size, 0, none⟩) := hs 8 (of_decide_eq_true (by kernel_rfl))
              have : i = 0 ∨ i = 1 ∨ i = 2 ∨ i = 3 ∨ i = 4 ∨ i = 5 := by omega
              rcases this with rfl | rfl | rfl | rfl | rfl | rfl
              · obtain rfl := Option.some.inj (ho : some _ = some o)
                rw [if_pos (by decide)]
                exact left2_value (.pointer (some ⟨s, 0, none⟩)) (by simp [go_sem, e5]) rfl rfl hk
              · obtain rfl := Option.some.inj (ho : some _ = some o)
                rw [if_pos (by decide)]
                exact left2_load 29 (.tmp 8) wr.heap.size 29 _ _ rfl e8 hk.row Try.underlying29 rfl info29 rfl rfl hk
              · obtain rfl := Option.some.inj (ho : some _ = some o)
                rw [if_pos (by decide)]
                have s0 : a.tmps.getD 50 undef = .pointer (some ⟨s, 0, none⟩) := ht 0 (by omega) (by kernel_rfl)
                have s0c : a.tmps.getD 50 undef = .pointer (some ⟨s, 0, none⟩) := ht 0 (by omega) (by kernel_rfl)
                have s1c : a.tmps.getD 51 undef = .agg (stepC x.kind x.key x.st (.slice Ab x.bs.length cb) x.dead x.tt) := ht 1 (by omega) (by kernel_rfl)
                obtain rfl : k = 0 := by
                  rcases hik with h | h
                  · cases h
                  · injection h with h; exact h.symm
                refine left2_turns 17 #[.pointer (some ⟨s, 0, none⟩), .agg (stepC x.kind x.key x.st (.slice Ab x.bs.length cb) x.dead x.tt)] (by simp [go_sem, s0c, s1c]) ?_ rfl
                exact two_first hk Ab cb (by omega) hks HBY.out HT1.out hb1 (Nat.le_of_lt hk.row.lt)
              · obtain rfl := Option.some.inj (ho : some _ = some o)
                rw [if_pos (by decide)]
                exact left2_value (.pointer (some ⟨t, 0, none⟩)) (by simp [go_sem, e6]) rfl rfl hk
              · obtain rfl := Option.some.inj (ho : some _ = some o)
                rw [if_pos (by decide)]
                exact left2_load 29 (.tmp 8) wr.heap.size 29 _ _ rfl e8 hk.row Try.underlying29 rfl info29 rfl rfl hk
              · obtain rfl := Option.some.inj (ho : some _ = some o)
                rw [if_pos (by decide)]
                have s3 : a.tmps.getD 53 undef = .pointer (some ⟨t, 0, none⟩) := ht 3 (by omega) (by kernel_rfl)
                have s3c : a.tmps.getD 53 undef = .pointer (some ⟨t, 0, none⟩) := ht 3 (by omega) (by kernel_rfl)
                have s4c : a.tmps.getD 54 undef = .agg (stepC x.kind x.key x.st (.slice Ab x.bs.length cb) x.dead x.tt) := ht 4 (by omega) (by kernel_rfl)
                obtain rfl : k = 1 := by
                  rcases hik with h | h
                  · cases h
                  · injection h with h; exact h.symm
                refine left2_turns 17 #[.pointer (some ⟨t, 0, none⟩), .agg (stepC x.kind x.key x.st (.slice Ab x.bs.length cb) x.dead x.tt)] (by simp [go_sem, s3c, s4c]) ?_ rfl
                exact two_second hk Ab cb (by omega) hks HBY.out HT2.out hb2 (Nat.le_of_lt hk.row.lt)
            case hend =>
              intro V' u k hk hkt hV'
              have v0 : V' 0 = .pointer (some ⟨s, 0, none⟩) := hV' 0 (by omega)
              have v1 : V' 1 = .agg (stepC x.kind x.key x.st (.slice Ab x.bs.length cb) x.dead x.tt) := hV' 1 (by omega)
              obtain ⟨cs0, v2, hcs0⟩ : TellV wr.heap.size (ansR R1 x) (V' 2) u := hV' 2 (by omega)
              have v3 : V' 3 = .pointer (some ⟨t, 0, none⟩) := hV' 3 (by omega)
              have v4 : V' 4 = .agg (stepC x.kind x.key x.st (.slice Ab x.bs.length cb) x.dead x.tt) := hV' 4 (by omega)
              obtain ⟨cs1, v5, hcs1⟩ : TellV wr.heap.size (ansR R2 x) (V' 5) u := hV' 5 (by omega)
              have hk0 : 0 < k := hkt 2 0 (by omega) rfl
              have hk1 : 1 < k := hkt 5 1 (by omega) rfl
              change wpList _ _ _ _ (Act.put (Act.put (Act.put (Act.put (Act.put (Act.put _ (some 50) (V' 0)) (some 51) (V' 1)) (some 52) (V' 2)) (some 53) (V' 3)) (some 54) (V' 4)) (some 55) (V' 5)) _
              rw [v0, v1, v2, v3, v4, v5]
              simp only [Act.put, List.setIfInBounds_toArray, List.set_cons_zero, List.set_cons_succ]
              simp only [List.drop_succ_cons, List.drop_zero]
              clear hV' v0 v1 v2 v3 v4 v5
              have hend := hk.end hk1
              have HAL := Lib.hid (alike_same u cs0 cs1 (ansR R1 x) HF.out hcs0.at (by rw [HAN.out]; exact hcs1.at))
              have HEND := Lib.hid hend
              clear hk hkt hk0 hk1 hend hcs0 hcs1
              go_wp2_with fail
              refine HAL.out.mono ?_; rintro e u2 ⟨rfl, ho2⟩
              have HO2 := Lib.hid ho2
              clear ho2
              go_wp2_with fail
              obtain ⟨T1', T2', h1, h2, h3, h4, h5⟩ := HEND.out
              exact ⟨FIN.out _ _ _ (TwoSt.keep ⟨T1', T2', h1, h2, h3, h4, h5⟩ HO2.out) (HAP.out.step x HKK.out HRG.out), by simp [intOf]; omega⟩
          all_goals
            clear hkk
            go_wp2_with fail
            exact ⟨FIN.out _ _ _ (HTA.out.more (by omega)) HAP.out, by simp [intOf]; omega⟩
      · have HV1 := Lib.hid (two_vacuum HTW.out ((Only.refl NoneOf wr).alloc (.cells (stepC x.kind x.key x.st (.slice Ab x.bs.length cb) x.dead x.tt) 29)) (by omega) x.st)
        go_wp2_with fail
        refine HV1.out.mono ?_; rintro e u1 ⟨rfl, hu1, hou1⟩
        have HV2 := Lib.hid (two_vacuum hu1.swap (Only.refl _ _) (by omega) x.st)
        have hb := (Blk.new wr 29 (stepC x.kind x.key x.st (.slice Ab x.bs.length cb) x.dead x.tt)).only hou1 (by omega)
        have c2 := hb.cellv 2 rfl
        clear hu1 hb
        go_wp2_with fail
        refine HV2.out.mono ?_; rintro e u2 ⟨rfl, hu2, _⟩
        have HU2 := Lib.hid hu2.swap
        clear hu2
        go_wp2_with fail
        exact ⟨FIN.out _ _ _ (HU2.out.more (by omega)) (HAP.out.vac HTW.out.good.1 HTW.out.good.2 _), by simp [intOf]; omega⟩
    · obtain rfl : i = n := by omega
      obtain ⟨T1, T2, h1, h2, h3, h4, h5⟩ := HTW.out
      have HVS := Lib.hid (versionsR wr s i T1 T2 R1 h1 (by unfold NMAX; omega))
      have hlen := h1.len
      have H2 := Lib.hid h2
      have H3 := Lib.hid h3
      clear hlt h1 h2 h3 h4 h5
      go_wp2_with fail
      refine HVS.out.mono ?_; rintro e w3 ⟨v, rs, rfl, hr, hpl, ho3⟩
      obtain ⟨Av, cv, rfl⟩ := ownsRow_slice hr.own
      have HR := Lib.hid hr
      have HPL := Lib.hid hpl
      have HO3 := Lib.hid (H3.out.trans ho3)
      have H23 := Lib.hid (H2.out.keep ho3)
      have hrl : rs.length ≤ 2513169434916 := by
        have := congrArg List.length hpl
        rw [List.length_map, versR_length] at this
        omega
      have HRL := Lib.hid (show (versR R1).length = rs.length by rw [← hpl, List.length_map])
      clear hr hpl ho3 HVS
      obtain ⟨i0, hi0, hz0, hz1, hz3⟩ := info_parts info27'
      go_wp2_with fail
      go_loopw [9, 70] (fun v vi wr => OwnRel w3 key rs v vi wr) (fun _ vi _ => rs.length - (intOf vi).toNat)
      case atStart => exact ⟨0, [], by omega, rfl, Only.refl _ _, ⟨rfl, .inl ⟨rfl, rfl⟩⟩, by simp, rfl, fun _ h => by cases h⟩
      case round =>
        obtain ⟨j, sel, hj, rfl, hO, hR, hsl, hpl, hsub⟩ := hrel
        obtain ⟨Ao, co, rfl⟩ := ownsRow_slice hR
        by_cases hlt : j < rs.length
        · have hr : rs[j]? = some (rs[j]'hlt) := List.getElem?_eq_getElem _
          generalize rs[j]'hlt = r at hr
          have hrB := HR.out.val _ (List.mem_of_getElem? hr)
          obtain ⟨rk, rst, rv, rb, rd⟩ := r
          simp only at hrB
          obtain ⟨Ar, cr, rfl⟩ := ownsRow_slice hrB
          obtain ⟨g, rfl⟩ : ∃ g, Av = some ⟨g, 0, none⟩ := by
            rcases HR.out.own.2 with ⟨h0, h1⟩ | ⟨g, cap, cur, hv, _⟩
            · omega
            · injection hv with hv1
              exact ⟨g, hv1⟩
          have hRw := HR.out.only hO (fun _ _ h => h)
          have d0 : wr.cell? ⟨g, j * 4, none⟩ = some (.string rk) := hRw.cell hr (j := 0) (by omega)
          have d1 : wr.cell? ⟨g, j * 4 + 1, none⟩ = some (.int .i64 rst) := hRw.cell hr (j := 1) (by omega)
          have d2 : wr.cell? ⟨g, j * 4 + 2, none⟩ = some (.slice Ar rb.length cr) := hRw.cell hr (j := 2) (by omega)
          have d3 : wr.cell? ⟨g, j * 4 + 3, none⟩ = some (.bool rd) := hRw.cell hr (j := 3) (by omega)
          have HO := Lib.hid hO
          have HSEL := Lib.hid hR
          have HPS := Lib.hid hpl
          have HSUB := Lib.hid hsub
          have HTK := Lib.hid (show rs.take (j + 1) = rs.take j ++ [⟨rk, rst, .slice Ar rb.length cr, rb, rd⟩] by rw [List.take_add_one, hr]; rfl)
          have HMEM := Lib.hid (List.mem_of_getElem? hr)
          clear hO hR hpl hsub hRw hrB
          cases qk : (rk.toList == key.toList)
          · have hne : rk ≠ key := fun e => by rw [e] at qk; simp at qk
            have HNE := Lib.hid hne
            clear hne
            go_wp2_with fail
            refine ⟨⟨j + 1, sel, by omega, by rw [show ((j + 1 : Nat) : Int) = (j : Int) + 1 by omega], HO.out.alloc _, ownsRow_only HSEL.out ((Only.refl NoneOf wr).alloc _) (fun _ _ h => h), by omega, ?_, HSUB.out⟩, by simp [intOf]; omega⟩
            rw [HPS.out, HTK.out, List.map_append, List.filter_append]
            simp [VRow.plain, HNE.out]
          · have hkk : rk = key := by rw [bytes_beq] at qk; exact of_decide_eq_true qk
            have HKK := Lib.hid hkk
            clear hkk
            have hN1 : wr.heap.size + 1 ≤ (wr.alloc (.cells #[.string rk, .int .i64 rst, .slice Ar rb.length cr, .bool rd] 27)).heap.size := by simp
            have HN := Lib.hid (Blk.new' (wr.alloc (.cells #[.string rk, .int .i64 rst, .slice Ar rb.length cr, .bool rd] 27)) 27 #[.string rk, .int .i64 rst, .slice Ar rb.length cr, .bool rd] (n := wr.heap.size + 1) (by simp))
            have HSA := Lib.hid (ownsRow_only HSEL.out (((Only.refl NoneOf wr).alloc (.cells #[.string rk, .int .i64 rst, .slice Ar rb.length cr, .bool rd] 27)).alloc (.cells #[.string rk, .int .i64 rst, .slice Ar rb.length cr, .bool rd] 27)) (fun _ _ h => h))
            have hsz := HO.out.size
            go_wp2_with (first | (at_builtin; refine wpList_append_own_at _ rfl (.tmp 78) (.tmp 80) 31 rfl w3.heap.size 27 i0 _ 4 56 Try.underlying31 hi0 hz0 hz1 hz3 rfl (by decide) (.slice Ao sel.length co) sel.length (vflat sel) rfl HSA.out ⟨wr.heap.size + 1, 0, none⟩ 1 1 [.string rk, .int .i64 rst, .slice Ar rb.length cr, .bool rd] rfl rfl (World.news_of_block HN.out) (by simp [Value.oneCell']) (by unfold maxLen; omega) (by omega) (by simp; omega) ?_; intro v' w4 hown' hgr _ hat) | fail)
            have hg2 : Only NoneOf w3 w4 := (HO.out.alloc _ |>.alloc _).step (only_grown hgr) (fun k hk e => by have := (ownsRow_lt HSA.out e).1; omega)
            refine ⟨⟨j + 1, sel ++ [⟨rk, rst, .slice Ar rb.length cr, rb, rd⟩], by omega, by rw [show ((j + 1 : Nat) : Int) = (j : Int) + 1 by omega], hg2, by rw [List.length_append]; simpa [VRow.cells] using hown', by simp; omega, ?_, fun r hr' => ?_⟩, by simp [intOf]; omega⟩
            · rw [HTK.out, List.map_append, List.map_append, List.filter_append, HPS.out]
              simp [VRow.plain, HKK.out]
            · rcases List.mem_append.1 hr' with h | h
              · exact HSUB.out r h
              · obtain rfl : r = ⟨rk, rst, .slice Ar rb.length cr, rb, rd⟩ := by simpa using h
                exact HMEM.out
        · obtain rfl : j = rs.length := by omega
          rw [List.take_length, HPL.out, HAP.out.vers] at hpl
          have HLA := Lib.hid (listAt_rows hR (fun r hr' => ((HR.out.val r (hsub r hr')).only hO (fun _ _ h => h)).bytesV))
          have HO := Lib.hid hO
          have H2w := Lib.hid (H23.out.keep hO)
          have HPS := Lib.hid hpl
          have HVS2 := Lib.hid (versionsR wr t i T2 T1 R2 (H23.out.keep hO) (by unfold NMAX; omega))
          have hl2 := H23.out.len
          clear hlt hR hO hpl
          go_wp2_with fail
          refine HVS2.out.mono ?_; rintro e w5 ⟨v5, rs5, rfl, hr5, hpl5, ho5⟩
          have hfit : ∀ x ∈ versR R2, x.2.bs.length ≤ 4611686018427387904 := fun x hx => by
            have := H23.out.good.bs x (versR_mem hx)
            omega
          have HVA := Lib.hid (versions_alike w5 (.slice Ao sel.length co) v5 (versR R2) (versR R2) (by rw [← HPS.out]; exact HLA.out.keep (fun x cs => VerE.keep ho5 x cs) ho5) (by rw [← hpl5]; exact listAt_vers hr5) (by rw [versR_length]; omega) hfit)
          have HO5 := Lib.hid ((HO3.out.trans HO.out).trans ho5)
          have HFX := fun u => Lib.hid (fixed_is u)
          simp only [decide_true] at HVA
          clear hr5 hpl5 ho5
          go_wp2_with fail
          refine HVA.out.mono ?_; rintro e w6 ⟨rfl, hw6⟩
          have HO6 := Lib.hid (HO5.out.trans (drewN_only hw6))
          clear hw6
          go_wp2_with fail
          refine (HFX _).out.mono ?_; rintro e w7 ⟨rfl, ho7⟩
          have HO7 := Lib.hid (HO6.out.trans ho7)
          clear ho7
          go_wp2_with fail
          go_ret
          exact ⟨rfl, HO7.out⟩

end Go.Proofs.Ytnonnencdhogiaa

/-
  Layer 14's law StoreEarlier, plain: later versions are not seen.
-/
namespace Go.Proofs.Ytnonnencdhogiaa

theorem found_snoc {xs : List Ver} {v : Ver} {st : Int} (h : st < v.st) : found (xs ++ [v]) st = found xs st := by
  have : newest (xs ++ [v]) st = newest xs st := by
    unfold newest
    congr 1
    induction xs with
    | nil => simp only [List.nil_append, List.takeWhile_cons, List.takeWhile_nil]; rw [if_neg (by simp; omega)]
    | cons x xs ih => simp only [List.cons_append, List.takeWhile_cons]; split <;> simp [ih]
  unfold found
  rw [this]
theorem scan_new {R : List KV} {key : ByteArray} {v : Ver} {st : Int} (h : st < v.st) (fr tt : ByteArray) : scanR (R ++ [(key, v)]) fr tt st = scanR R fr tt st := by
  have hk : ∀ k, scanKey (verR (R ++ [(key, v)])) fr tt st k = scanKey (verR R) fr tt st k := fun k => by
    unfold scanKey
    have : found (verR (R ++ [(key, v)]) ⟨k.toArray⟩) st = found (verR R ⟨k.toArray⟩) st := by
      rw [verR_append, verR_one]
      split
      · exact found_snoc h
      · rw [List.append_nil]
    rw [this]
  have hf : scanKey (verR (R ++ [(key, v)])) fr tt st = scanKey (verR R) fr tt st := funext hk
  unfold scanR
  rw [hf]
  rcases keysR_snoc R key v with ⟨_, e⟩ | ⟨hn, hp⟩
  · rw [e]
  · have hnone : scanKey (verR R) fr tt st key.data.toList = none := by
      have hv : verR R (keyB key.data.toList) = [] := by
        cases hc : verR R (keyB key.data.toList) with
        | nil => rfl
        | cons y ys =>
          obtain ⟨z, hz⟩ := verR_ne.1 (show verR R (keyB key.data.toList) ≠ [] by rw [hc]; simp)
          exact absurd (keysR_mem.2 ⟨z, hz⟩) hn
      unfold scanKey
      rw [hv]
      split <;> rfl
    have hs : (keysR (R ++ [(key, v)])).filter (fun k => decide (k ≠ key.data.toList)) = keysR R := by
      refine sorted_unique _ _ ((keysR_sorted _).filter _) (keysR_sorted _) fun k => ?_
      rw [List.mem_filter, hp.mem_iff, List.mem_cons]
      constructor
      · rintro ⟨h | h, h2⟩
        · simp [h] at h2
        · exact h
      · intro hk'
        exact ⟨.inr hk', by simp only [decide_eq_true_eq]; exact fun e => hn (e ▸ hk')⟩
    rw [← hs]
    generalize keysR (R ++ [(key, v)]) = ks
    induction ks with
    | nil => rfl
    | cons k ks ih =>
      by_cases e : k = key.data.toList
      · subst e
        rw [List.filter_cons_of_neg (by simp), List.filterMap_cons, hnone]
        exact ih
      · rw [List.filter_cons_of_pos (by simpa using e), List.filterMap_cons, List.filterMap_cons, ih]
theorem earlier_ans {R : List KV} {key : ByteArray} {v : Ver} {x : Stp} (h : x.st < v.st) (hk : x.kind = 1 ∨ x.kind = 3) : ansR (afterR R key v) x = ansR R x := by
  unfold afterR
  split
  · unfold ansR
    rcases hk with e | e <;> simp only [e]
    · have : found (verR (R ++ [(key, v)]) x.key) x.st = found (verR R x.key) x.st := by
        rw [verR_append, verR_one]
        split
        · exact found_snoc h
        · rw [List.append_nil]
      simp [this]
    · simp [scan_new h]
  · rfl
theorem quiet_step {R : List KV} {x : Stp} (hk : x.kind = 1 ∨ x.kind = 3) : stepR R x = R := by
  unfold stepR
  rcases hk with e | e <;> simp [e]

end Go.Proofs.Ytnonnencdhogiaa

/-
  Layer 14's laws: the calls that ask and change nothing.
-/
namespace Go.Proofs.Ytnonnencdhogiaa
open Go.RowKit

/-- what a call told that changed nothing -/
def CallQ (R : List KV) (x : Stp) (w : World) (e : Ending) (w' : World) : Prop :=
  ∃ cs, e = .returned (.agg cs) ∧ TStay w.heap.size w' cs (ansR R x) ∧ Only NoneOf w w'

set_option maxRecDepth 100000 in
set_option maxHeartbeats 4000000 in
theorem callq_1 (w : World) (s N : Nat) (T U : Nat → Prop) (R : List KV) (h : StoR w s T U R N) (_ : N < NMAX) (x : Stp) (A : Option Addr) (cc : Nat) (hk : x.kind = 1) (hkey : x.key.size ≤ maxLen) (hby : BytesAt w A x.bs) :
    Calls Try.prog 17 #[.pointer (some ⟨s, 0, none⟩), .agg (stepC x.kind x.key x.st (.slice A x.bs.length cc) x.dead x.tt)] w (CallQ R x w) := by
  obtain ⟨kind, key, st, bs, dead, tt⟩ := x
  simp only at hk hkey hby ⊢
  subst hk
  obtain ⟨nn, hnn⟩ : ∃ nn, bs.length = nn := ⟨_, rfl⟩
  rw [hnn]
  have hlt := fun k hk => h.lt (k := k) hk
  have hO : Only NoneOf w (((w.alloc (.cells (stepC 1 key st (.slice A nn cc) dead tt) 29)).alloc (.cells (tellC 0 0 0 false (.slice none 0 0) (.slice none 0 0) (.slice none 0 0)) 33)).alloc (.cells (tellC 0 0 0 false (.slice none 0 0) (.slice none 0 0) (.slice none 0 0)) 33)) := (((Only.refl _ _).alloc _).alloc _).alloc _
  have hB3 := ((Blk.new w 29 (stepC 1 key st (.slice A nn cc) dead tt)).alloc (.cells (tellC 0 0 0 false (.slice none 0 0) (.slice none 0 0) (.slice none 0 0)) 33)).alloc (.cells (tellC 0 0 0 false (.slice none 0 0) (.slice none 0 0) (.slice none 0 0)) 33)
  have hB4 := (Blk.new' (w.alloc (.cells (stepC 1 key st (.slice A nn cc) dead tt) 29)) 33 (tellC 0 0 0 false (.slice none 0 0) (.slice none 0 0) (.slice none 0 0)) (n := w.heap.size + 1) (by simp)).alloc (.cells (tellC 0 0 0 false (.slice none 0 0) (.slice none 0 0) (.slice none 0 0)) 33)
  have hB5 := Blk.new' ((w.alloc (.cells (stepC 1 key st (.slice A nn cc) dead tt) 29)).alloc (.cells (tellC 0 0 0 false (.slice none 0 0) (.slice none 0 0) (.slice none 0 0)) 33)) 33 (tellC 0 0 0 false (.slice none 0 0) (.slice none 0 0) (.slice none 0 0)) (n := w.heap.size + 1 + 1) (by simp)
  have HO := Lib.hid hO
  have HS := Lib.hid (h.keep hO)
  have HB4 := Lib.hid hB4
  have HB5 := Lib.hid hB5
  have HBY := Lib.hid (hby.keep hO)
  have c0 := hB3.cellv 0 rfl
  have c1 := hB3.cellv 1 rfl
  have c2 := hB3.cellv 2 rfl
  have c3 := hB3.cellv 3 rfl
  have c4 := hB3.cellv 4 rfl
  have c5 := hB3.cellv 5 rfl
  have h0 := h
  clear hO hB3 hB4 hB5 hby h
  go_enter Try.func17, Try.ntmps17
  go_wp2_with fail
  refine (getR _ s N T _ R HS.out key st hkey).mono ?_; rintro e w4 ⟨hget, hO4⟩
  have HO4 := Lib.hid hO4
  have hsz4 := hO4.size
  have hz4 : w.heap.size + 3 ≤ w4.heap.size := by simpa using hsz4
  have B4 := HB4.out.only hO4 (fun h => h)
  have B5 := HB5.out.only hO4 (fun h => h)
  obtain ⟨f, hf⟩ : ∃ f, found (verR R key) st = f := ⟨_, rfl⟩
  rw [hf] at hget
  have HF := Lib.hid hf
  clear hf
  cases f with
  | none =>
    obtain rfl := hget
    have f4 := B5.free 4
    have k4 := B5.cellv 4 rfl
    have f3 := B5.free 3
    have k3 := B5.cellv 3 rfl
    have F5 := Lib.hid ((B5.put 4 (.slice none 0 0)).put 3 (.bool false))
    have F4 := Lib.hid ((B4.far (p := ⟨w.heap.size + 1 + 1, 4, none⟩) (by simp) (.slice none 0 0)).far (p := ⟨w.heap.size + 1 + 1, 3, none⟩) (by simp) (.bool false))
    have FR := Lib.hid (F4.out.row #[.int .i64 0, .int .i64 0, .int .i64 0, .bool false, .slice none 0 0, .slice none 0 0, .slice none 0 0])
    have FO := Lib.hid ((((Only.refl (fun k => k = w.heap.size + 1 ∨ k = w.heap.size + 1 + 1) w4).put (p := ⟨w.heap.size + 1 + 1, 4, none⟩) (.inl (.inr rfl)) (.slice none 0 0)).put (p := ⟨w.heap.size + 1 + 1, 3, none⟩) (.inl (.inr rfl)) (.bool false)).row (b := w.heap.size + 1) (.inl (.inl rfl)) #[.int .i64 0, .int .i64 0, .int .i64 0, .bool false, .slice none 0 0, .slice none 0 0, .slice none 0 0])
    clear B4 B5 hO4
    go_wp2_with (first | (refine wpList_load_row rfl 33 (.tmp 5) rfl (w.heap.size + 1 + 1) rfl 33 _ (0, 0) _ F5.out Try.underlying33 rfl info33 ?_) | (refine wpList_store_row rfl 33 (.tmp 4) (.tmp 82) rfl (w.heap.size + 1) #[.int .i64 0, .int .i64 0, .int .i64 0, .bool false, .slice none 0 0, .slice none 0 0, .slice none 0 0] rfl rfl 33 (tellC 0 0 0 false (.slice none 0 0) (.slice none 0 0) (.slice none 0 0)) F4.out info33 rfl (by simp [Value.oneCell']) ?_) | fail)
    refine bodyPost_ret (v := .agg #[.int .i64 0, .int .i64 0, .int .i64 0, .bool false, .slice none 0 0, .slice none 0 0, .slice none 0 0]) (results_cell_row rfl _ _ _ 33 _ (0, 0) _ rfl FR.out Try.underlying33 rfl info33) rfl ⟨_, rfl, ?_, ?_⟩
    · have e : ansR R ⟨1, key, st, bs, dead, tt⟩ = {} := by simp [ansR, HF.out]
      rw [e]
      exact tstay_plain _ _ _ _ _ _
    · exact ((HO.out.trans HO4.out).step FO.out (fun k hk e => by omega))
  | some b =>
    obtain ⟨vb, rfl, hvb⟩ := hget
    obtain ⟨Ab, cb, rfl⟩ := ownsRow_slice hvb
    have HVB := Lib.hid hvb
    clear hvb
    have f4 := B5.free 4
    have k4 := B5.cellv 4 rfl
    have f3 := B5.free 3
    have k3 := B5.cellv 3 rfl
    have F5 := Lib.hid ((B5.put 4 (.slice Ab b.length cb)).put 3 (.bool true))
    have F4 := Lib.hid ((B4.far (p := ⟨w.heap.size + 1 + 1, 4, none⟩) (by simp) (.slice Ab b.length cb)).far (p := ⟨w.heap.size + 1 + 1, 3, none⟩) (by simp) (.bool true))
    have FR := Lib.hid (F4.out.row #[.int .i64 0, .int .i64 0, .int .i64 0, .bool true, .slice Ab b.length cb, .slice none 0 0, .slice none 0 0])
    have FO := Lib.hid ((((Only.refl (fun k => k = w.heap.size + 1 ∨ k = w.heap.size + 1 + 1) w4).put (p := ⟨w.heap.size + 1 + 1, 4, none⟩) (.inl (.inr rfl)) (.slice Ab b.length cb)).put (p := ⟨w.heap.size + 1 + 1, 3, none⟩) (.inl (.inr rfl)) (.bool true)).row (b := w.heap.size + 1) (.inl (.inl rfl)) #[.int .i64 0, .int .i64 0, .int .i64 0, .bool true, .slice Ab b.length cb, .slice none 0 0, .slice none 0 0])
    clear B4 B5 hO4
    go_wp2_with (first | (refine wpList_load_row rfl 33 (.tmp 5) rfl (w.heap.size + 1 + 1) rfl 33 _ (0, 0) _ F5.out Try.underlying33 rfl info33 ?_) | (refine wpList_store_row rfl 33 (.tmp 4) (.tmp 82) rfl (w.heap.size + 1) #[.int .i64 0, .int .i64 0, .int .i64 0, .bool true, .slice Ab b.length cb, .slice none 0 0, .slice none 0 0] rfl rfl 33 (tellC 0 0 0 false (.slice none 0 0) (.slice none 0 0) (.slice none 0 0)) F4.out info33 rfl (by simp [Value.oneCell']) ?_) | fail)
    refine bodyPost_ret (v := .agg #[.int .i64 0, .int .i64 0, .int .i64 0, .bool true, .slice Ab b.length cb, .slice none 0 0, .slice none 0 0]) (results_cell_row rfl _ _ _ 33 _ (0, 0) _ rfl FR.out Try.underlying33 rfl info33) rfl ⟨_, rfl, ?_, ?_⟩
    · have e : ansR R ⟨1, key, st, bs, dead, tt⟩ = { b := b, is := true } := by simp [ansR, HF.out]
      rw [e]
      intro S w'' hS hlow
      have hsz3 : w.heap.size + 3 ≤ (((w.alloc (.cells (stepC 1 key st (.slice A nn cc) dead tt) 29)).alloc (.cells (tellC 0 0 0 false (.slice none 0 0) (.slice none 0 0) (.slice none 0 0)) 33)).alloc (.cells (tellC 0 0 0 false (.slice none 0 0) (.slice none 0 0) (.slice none 0 0)) 33)).heap.size := by simp
      have hlo := fun g hg => (ownsRow_lt HVB.out (g := g) hg).1
      exact ⟨_, _, _, rfl, ((HVB.out.only FO.out (fun g hg e => by have := hlo g hg; omega)).only hS (fun g hg e => by have := hlo g hg; have := hlow g e; omega)).bytesV, listAt_nil _ _ _, listAt_nil _ _ _⟩
    · exact ((HO.out.trans HO4.out).step FO.out (fun k hk e => by omega))

set_option maxRecDepth 100000 in
set_option maxHeartbeats 4000000 in
theorem callq_3 (w : World) (s N : Nat) (T U : Nat → Prop) (R : List KV) (h : StoR w s T U R N) (hN : N < NMAX) (x : Stp) (A : Option Addr) (cc : Nat) (hk : x.kind = 3) (hkey : x.key.size ≤ maxLen) (hby : BytesAt w A x.bs) :
    Calls Try.prog 17 #[.pointer (some ⟨s, 0, none⟩), .agg (stepC x.kind x.key x.st (.slice A x.bs.length cc) x.dead x.tt)] w (CallQ R x w) := by
  obtain ⟨kind, key, st, bs, dead, tt⟩ := x
  simp only at hk hkey hby ⊢
  subst hk
  obtain ⟨nn, hnn⟩ : ∃ nn, bs.length = nn := ⟨_, rfl⟩
  rw [hnn]
  have hlt := fun k hk => h.lt (k := k) hk
  have hO : Only NoneOf w (((w.alloc (.cells (stepC 3 key st (.slice A nn cc) dead tt) 29)).alloc (.cells (tellC 0 0 0 false (.slice none 0 0) (.slice none 0 0) (.slice none 0 0)) 33)).alloc (.cells (tellC 0 0 0 false (.slice none 0 0) (.slice none 0 0) (.slice none 0 0)) 33)) := (((Only.refl _ _).alloc _).alloc _).alloc _
  have hB3 := ((Blk.new w 29 (stepC 3 key st (.slice A nn cc) dead tt)).alloc (.cells (tellC 0 0 0 false (.slice none 0 0) (.slice none 0 0) (.slice none 0 0)) 33)).alloc (.cells (tellC 0 0 0 false (.slice none 0 0) (.slice none 0 0) (.slice none 0 0)) 33)
  have hB4 := (Blk.new' (w.alloc (.cells (stepC 3 key st (.slice A nn cc) dead tt) 29)) 33 (tellC 0 0 0 false (.slice none 0 0) (.slice none 0 0) (.slice none 0 0)) (n := w.heap.size + 1) (by simp)).alloc (.cells (tellC 0 0 0 false (.slice none 0 0) (.slice none 0 0) (.slice none 0 0)) 33)
  have hB5 := Blk.new' ((w.alloc (.cells (stepC 3 key st (.slice A nn cc) dead tt) 29)).alloc (.cells (tellC 0 0 0 false (.slice none 0 0) (.slice none 0 0) (.slice none 0 0)) 33)) 33 (tellC 0 0 0 false (.slice none 0 0) (.slice none 0 0) (.slice none 0 0)) (n := w.heap.size + 1 + 1) (by simp)
  have HO := Lib.hid hO
  have HS := Lib.hid (h.keep hO)
  have HB4 := Lib.hid hB4
  have HB5 := Lib.hid hB5
  have HBY := Lib.hid (hby.keep hO)
  have c0 := hB3.cellv 0 rfl
  have c1 := hB3.cellv 1 rfl
  have c2 := hB3.cellv 2 rfl
  have c3 := hB3.cellv 3 rfl
  have c4 := hB3.cellv 4 rfl
  have c5 := hB3.cellv 5 rfl
  have h0 := h
  clear hO hB3 hB4 hB5 hby h
  go_enter Try.func17, Try.ntmps17
  go_wp2_with fail
  refine (scannedR _ s N T _ R HS.out (by omega) key tt st).mono ?_; rintro e w4 ⟨vp, rs, rfl, hvb, hpl, hO4⟩
  have HO4 := Lib.hid hO4
  have hsz4 := hO4.size
  have hz4 : w.heap.size + 3 ≤ w4.heap.size := by simpa using hsz4
  have B4 := HB4.out.only hO4 (fun h => h)
  have B5 := HB5.out.only hO4 (fun h => h)
  obtain ⟨Ab, cb, rfl⟩ := ownsRow_slice hvb.own
  have HVB := Lib.hid hvb
  have HPL := Lib.hid hpl
  clear hvb hpl
  have f5 := B5.free 5
  have k5 := B5.cellv 5 rfl
  have F5 := Lib.hid (B5.put 5 (.slice Ab rs.length cb))
  have F4 := Lib.hid (B4.far (p := ⟨w.heap.size + 1 + 1, 5, none⟩) (by simp) (.slice Ab rs.length cb))
  have FR := Lib.hid (F4.out.row #[.int .i64 0, .int .i64 0, .int .i64 0, .bool false, .slice none 0 0, .slice Ab rs.length cb, .slice none 0 0])
  have FO := Lib.hid (((Only.refl (fun k => k = w.heap.size + 1 ∨ k = w.heap.size + 1 + 1) w4).put (p := ⟨w.heap.size + 1 + 1, 5, none⟩) (.inl (.inr rfl)) (.slice Ab rs.length cb)).row (b := w.heap.size + 1) (.inl (.inl rfl)) #[.int .i64 0, .int .i64 0, .int .i64 0, .bool false, .slice none 0 0, .slice Ab rs.length cb, .slice none 0 0])
  clear B4 B5 hO4
  go_wp2_with (first | (refine wpList_load_row rfl 33 (.tmp 5) rfl (w.heap.size + 1 + 1) rfl 33 _ (0, 0) _ F5.out Try.underlying33 rfl info33 ?_) | (refine wpList_store_row rfl 33 (.tmp 4) (.tmp 82) rfl (w.heap.size + 1) #[.int .i64 0, .int .i64 0, .int .i64 0, .bool false, .slice none 0 0, .slice Ab rs.length cb, .slice none 0 0] rfl rfl 33 (tellC 0 0 0 false (.slice none 0 0) (.slice none 0 0) (.slice none 0 0)) F4.out info33 rfl (by simp [Value.oneCell']) ?_) | fail)
  refine bodyPost_ret (v := .agg #[.int .i64 0, .int .i64 0, .int .i64 0, .bool false, .slice none 0 0, .slice Ab rs.length cb, .slice none 0 0]) (results_cell_row rfl _ _ _ 33 _ (0, 0) _ rfl FR.out Try.underlying33 rfl info33) rfl ⟨_, rfl, ?_, ?_⟩
  · have e : ansR R ⟨3, key, st, bs, dead, tt⟩ = { pairs := rs.map PRow.plain } := by simp [ansR, HPL.out]
    rw [e]
    intro S w'' hS hlow
    have hsz3 : w.heap.size + 3 ≤ (((w.alloc (.cells (stepC 3 key st (.slice A nn cc) dead tt) 29)).alloc (.cells (tellC 0 0 0 false (.slice none 0 0) (.slice none 0 0) (.slice none 0 0)) 33)).alloc (.cells (tellC 0 0 0 false (.slice none 0 0) (.slice none 0 0) (.slice none 0 0)) 33)).heap.size := by simp
    have hlo := fun g hg => (HVB.out.lt (k := g) hg).1
    exact ⟨_, _, _, rfl, bytesV_nil _, listAt_pairs ((HVB.out.only FO.out (fun g hg e => by have := hlo g hg; omega)).only hS (fun g hg e => by have := hlo g hg; have := hlow g e; omega)), listAt_nil _ _ _⟩
  · exact ((HO.out.trans HO4.out).step FO.out (fun k hk e => by omega))

theorem callq (w : World) (s N : Nat) (T U : Nat → Prop) (R : List KV) (h : StoR w s T U R N) (hN : N < NMAX) (x : Stp) (A : Option Addr) (cc : Nat) (hk : x.kind = 1 ∨ x.kind = 3) (hkey : x.key.size ≤ maxLen) (hby : BytesAt w A x.bs) :
    Calls Try.prog 17 #[.pointer (some ⟨s, 0, none⟩), .agg (stepC x.kind x.key x.st (.slice A x.bs.length cc) x.dead x.tt)] w (CallQ R x w) :=
  hk.elim (fun hk => callq_1 w s N T U R h hN x A cc hk hkey hby) (fun hk => callq_3 w s N T U R h hN x A cc hk hkey hby)

end Go.Proofs.Ytnonnencdhogiaa

