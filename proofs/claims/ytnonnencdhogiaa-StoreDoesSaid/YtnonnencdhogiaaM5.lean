/-
  A region that draws its order, with guards that are known, and with calls that turn memory in a forced order; behind it a tail in order.
-/
import Derived.Test.YtnonnencdhogiaaM3
namespace Go.Proofs.Ytnonnencdhogiaa
open Go.RowKit

/-- what a value yields to a guard -/
def boolOf (v : Value) : Option Bool := match v with | .bool b => some b | _ => none
/-- is it wanted, where the guards' values are known? -/
def wantOf (gv : Nat → Option Bool) (o : Oper) : Bool := match o.guard with | none => true | some (g, b) => gv g == some b
def bindsOn (o : Oper) (j : Nat) : Bool := o.after.any fun e => Region.binds .any e && decide (e.on = j)
def headB2 (ops : Array Oper) (n : Nat) (srcs : List Nat) (tn : Nat → Option Nat) : Bool :=
  (List.range n).all fun i => match ops[i]? with
    | some o => (match o.guard with | none => true | some (g, _) => decide (g < n) && srcs.contains g && bindsOn o g) && o.dst.isSome && (o.after.all fun e => !Region.binds .any e || decide (e.on < i)) &&
        ((List.range n).all fun j => decide (i = j) || !decide (dstOf ops i = dstOf ops j)) && (match tn i with | some (t + 1) => (List.range n).any fun j => decide (tn j = some t) && bindsOn o j | _ => true) &&
        ((List.range n).all fun j => decide (i = j) || decide (tn i = none) || !decide (tn i = tn j))
    | none => false
def regionB2 (ops : Array Oper) (n m : Nat) (srcs : List Nat) (tn : Nat → Option Nat) : Bool :=
  (decide (n = ops.size) || (decide (n < ops.size) && Region.sinkB .any ops n && Region.chainB .any ops n)) && Region.seqB .any ops (ops.size - n) n (Array.ofFn fun i : Fin ops.size => decide (i.1 < n)) &&
    headB2 ops n srcs tn && ((List.range n).all fun i => decide (dstOf ops i < m))

theorem bindsOn_spec {o : Oper} {j : Nat} (h : bindsOn o j = true) : ∃ e ∈ o.after, Region.binds .any e = true ∧ e.on = j := by
  obtain ⟨i, hi, he⟩ := Array.any_eq_true.1 h
  simp only [Bool.and_eq_true, decide_eq_true_eq] at he
  exact ⟨_, Array.getElem_mem hi, he.1, he.2⟩

structure HSpec (ops : Array Oper) (n : Nat) (srcs : List Nat) (tn : Nat → Option Nat) (i : Nat) (o : Oper) : Prop where
  at_ : ops[i]? = some o
  guard : ∀ g b, o.guard = some (g, b) → g < n ∧ g ∈ srcs ∧ ∃ e ∈ o.after, Region.binds .any e = true ∧ e.on = g
  dst : o.dst = some (dstOf ops i)
  back : ∀ e ∈ o.after, Region.binds .any e = true → e.on < i
  apart : ∀ j, j < n → i ≠ j → dstOf ops i ≠ dstOf ops j
  turn : ∀ t, tn i = some (t + 1) → ∃ j, j < n ∧ tn j = some t ∧ ∃ e ∈ o.after, Region.binds .any e = true ∧ e.on = j
  one : ∀ j, j < n → i ≠ j → tn i ≠ none → tn i ≠ tn j

theorem headB2_spec {ops : Array Oper} {n : Nat} {srcs : List Nat} {tn : Nat → Option Nat} (h : headB2 ops n srcs tn = true) {i : Nat} (hi : i < n) : ∃ o, HSpec ops n srcs tn i o := by
  have h1 := List.all_eq_true.1 h i (List.mem_range.2 hi)
  cases ho : ops[i]? with
  | none => rw [ho] at h1; cases h1
  | some o =>
    rw [ho] at h1
    simp only [Bool.and_eq_true] at h1
    obtain ⟨⟨⟨⟨⟨h2, h3⟩, h4⟩, h5⟩, h6⟩, h7⟩ := h1
    refine ⟨o, ho, fun g b hg => ?_, ?_, fun e he hb => ?_, fun j hj hij => ?_, fun t ht => ?_, fun j hj hij hne => ?_⟩
    · rw [hg] at h2
      simp only [Bool.and_eq_true, decide_eq_true_eq, List.contains_iff_mem] at h2
      exact ⟨h2.1.1, h2.1.2, bindsOn_spec h2.2⟩
    · obtain ⟨d, hd⟩ := Option.isSome_iff_exists.1 h3
      simp [dstOf, ho, hd]
    · have := Array.all_eq_true_iff_forall_mem.1 h4 e he
      rw [hb] at this
      simpa using this
    · have := List.all_eq_true.1 h5 j (List.mem_range.2 hj)
      simp only [Bool.or_eq_true, decide_eq_true_eq, Bool.not_eq_true', decide_eq_false_iff_not] at this
      exact this.resolve_left hij
    · rw [ht] at h6
      obtain ⟨j, hj, hh⟩ := List.any_eq_true.1 h6
      simp only [Bool.and_eq_true, decide_eq_true_eq] at hh
      exact ⟨j, List.mem_range.1 hj, hh.1, bindsOn_spec hh.2⟩
    · have := List.all_eq_true.1 h7 j (List.mem_range.2 hj)
      simp only [Bool.or_eq_true, decide_eq_true_eq, Bool.not_eq_true', decide_eq_false_iff_not] at this
      rcases this with (h | h) | h
      · exact absurd h hij
      · exact absurd h hne
      · exact h

section
variable {P : Program} {ops : Array Oper} {n : Nat} {a0 : Act} {T : Nat → Value → World → Prop} {G : Nat → World → Prop} {S : Nat → Prop} {gv : Nat → Option Bool} {srcs : List Nat} {tn : Nat → Option Nat}

structure HInv2 (ops : Array Oper) (n : Nat) (a0 : Act) (T : Nat → Value → World → Prop) (G : Nat → World → Prop) (tn : Nat → Option Nat) (listed : Array Bool) (a : Act) (w : World) : Prop where
  defers : a.defers = a0.defers
  size : a.tmps.size = a0.tmps.size
  other : ∀ s, (∀ i, i < n → listed.getD i false = true → dstOf ops i ≠ s) → a.tmps.getD s undef = a0.tmps.getD s undef
  held : ∀ i, i < n → listed.getD i false = true → T i (a.tmps.getD (dstOf ops i) undef) w
  phase : ∃ k, G k w ∧ ∀ i t, i < n → tn i = some t → (listed.getD i false = true ↔ t < k)

/-- the phase behind an operation -/
def nextPh (tn : Nat → Option Nat) (i k : Nat) : Nat := if tn i = some k then k + 1 else k
/-- What an operation leaves. -/
def Left2 (T : Nat → Value → World → Prop) (G : Nat → World → Prop) (S : Nat → Prop) (tn : Nat → Option Nat) (i k : Nat) (o : Oper) (a : Act) (w : World) (a' : Act) (w' : World) : Prop :=
  ∃ v, a' = a.put o.dst v ∧ T i v w' ∧ G (nextPh tn i k) w' ∧ Only S w w'

theorem HInv2.put {listed : Array Bool} {a : Act} {w : World} (inv : HInv2 ops n a0 T G tn listed a w) (hb : headB2 ops n srcs tn = true) (hd : ∀ i, i < n → dstOf ops i < a0.tmps.size)
    (hT : ∀ i v w w', T i v w → Only S w w' → T i v w') {i : Nat} (hi : i < n) {o : Oper} (ho : ops[i]? = some o) (hun : listed.getD i true = false) {k : Nat} (hk : ∀ j t, j < n → tn j = some t → (listed.getD j false = true ↔ t < k))
    (hik : tn i = none ∨ tn i = some k) {a' : Act} {w' : World} (h : Left2 T G S tn i k o a w a' w') : HInv2 ops n a0 T G tn (listed.setIfInBounds i true) a' w' := by
  obtain ⟨v, rfl, hv, hg', ho'⟩ := h
  obtain ⟨o', sp⟩ := headB2_spec hb hi
  obtain rfl : o' = o := Option.some.inj (sp.at_.symm.trans ho)
  have hg := fun s => put_getD a (dstOf ops i) s v (by rw [inv.size]; exact hd i hi)
  rw [sp.dst]
  have hother : ∀ j, j ≠ i → (listed.setIfInBounds i true).getD j false = true → listed.getD j false = true := fun j hj hl => by rwa [getD_set_ne false (Ne.symm hj)] at hl
  have hself : (listed.setIfInBounds i true).getD i false = true := by
    have : i < listed.size := by
      rcases Nat.lt_or_ge i listed.size with h' | h'
      · exact h'
      · simp [Array.getElem?_eq_none h'] at hun
    simp [this]
  refine ⟨(put_defers _ _ _).trans inv.defers, (put_size _ _ _).trans inv.size, fun s hs => ?_, fun j hj hl => ?_, nextPh tn i k, hg', fun j t hj ht => ?_⟩
  · rw [hg, if_neg (hs i hi hself)]
    exact inv.other s fun j hj hl => hs j hj (getD_set_true hl)
  · by_cases hji : j = i
    · subst hji
      rw [hg, if_pos rfl]
      exact hv
    · rw [hg, if_neg (sp.apart j hj (Ne.symm hji))]
      exact hT _ _ _ _ (inv.held j hj (hother j hji hl)) ho'
  · unfold nextPh
    by_cases hji : j = i
    · subst hji
      rcases hik with hik | hik
      · rw [hik] at ht; cases ht
      · rw [hik] at ht
        injection ht with ht
        rw [if_pos hik]
        exact ⟨fun _ => by omega, fun _ => hself⟩
    · rw [getD_set_ne false (Ne.symm hji), hk j t hj ht]
      by_cases he : tn i = some k
      · rw [if_pos he]
        have : t ≠ k := fun e => sp.one j hj (Ne.symm hji) (by rw [he]; simp) (by rw [he, ht, e])
        constructor <;> intro h <;> omega
      · rw [if_neg he]

theorem HInv2.end {listed : Array Bool} {a : Act} {w : World} (inv : HInv2 ops n a0 T G tn listed a w) (hd : ∀ i, i < n → dstOf ops i < a0.tmps.size) :
    a = endFrame ops n a0 (fun i => a.tmps.getD (dstOf ops i) undef) := by
  obtain ⟨h1, h2, h3⟩ := foldl_put (fun s => a.tmps.getD s undef) (dstOf ops) (List.range n) a0 (fun i hi => hd i (List.mem_range.1 hi))
  refine act_ext (inv.defers.trans h1.symm) (inv.size.trans h2.symm) fun s => ?_
  unfold endFrame
  rw [h3 s]
  split
  · rfl
  · rename_i hs
    exact inv.other s fun i hi _ he => hs ⟨i, List.mem_range.2 hi, he⟩
end

section
variable {P : Program}
theorem head2_any {Q : Exit → Act → World → Prop} {l : List Oper} {a0 : Act} {W : World} (n m : Nat) (srcs : List Nat) (gv : Nat → Option Bool) (tn : Nat → Option Nat) (S : Nat → Prop) (G : Nat → World → Prop) (T : Nat → Value → World → Prop) (hsz : a0.tmps.size = m)
    (hB : regionB2 l.toArray n m srcs tn = true) (hskip : ∀ i o, i < n → l[i]? = some o → wantOf gv o = false → ∀ k, nextPh tn i k = k) (hgv : ∀ g, g ∈ srcs → ∀ v w, T g v w → boolOf v = gv g)
    (hT : ∀ i v w w', T i v w → Only S w w' → T i v w') (hG : G 0 { W with drawn := W.drawn + 1 })
    (hstep : ∀ i o, i < n → l[i]? = some o → ∀ a w k, G k w → (tn i = none ∨ tn i = some k) → (∀ s, (∀ j, j < n → dstOf l.toArray j ≠ s) → a.tmps.getD s undef = a0.tmps.getD s undef) →
      (∀ j, j < n → Region.waitsFor .any l.toArray i j = true → T j (a.tmps.getD (dstOf l.toArray j) undef) w) → if wantOf gv o = true then o.wp P a w (Left2 T G S tn i k o a w) Q else T i undef w)
    (hend : ∀ (V : Nat → Value) w k, G k w → (∀ i t, i < n → tn i = some t → t < k) → (∀ i, i < n → T i (V i) w) → wpList P l.toArray Q (l.drop n) (endFrame l.toArray n a0 V) w) :
    wpAny P .any l.toArray Q l.toArray.size (Array.replicate l.toArray.size false) a0 { W with drawn := W.drawn + 1 } := by
  simp only [regionB2, Bool.and_eq_true, Bool.or_eq_true, decide_eq_true_eq] at hB
  obtain ⟨⟨⟨hnn, hseq⟩, hb⟩, hd'⟩ := hB
  have hns : n ≤ l.toArray.size := by rcases hnn with h | ⟨⟨h, _⟩, _⟩ <;> omega
  have hd : ∀ i, i < n → dstOf l.toArray i < a0.tmps.size := fun i hi => by
    have := List.all_eq_true.1 hd' i (List.mem_range.2 hi)
    rw [hsz]
    simpa using this
  have hdl : (l.drop n).length = l.toArray.size - n := by simp
  have key : ∀ (f : Nat) (listed : Array Bool) (a : Act) (w : World), (List.range n).countP (fun i => !listed.getD i false) = f → HeadInv .any l.toArray n listed → HInv2 l.toArray n a0 T G tn listed a w →
      wpAny P .any l.toArray Q (f + (l.toArray.size - n)) listed a w := by
    intro f
    induction f with
    | zero =>
      intro listed a w hcount hinv inv
      have hl : ∀ i, i < n → listed.getD i false = true := fun i hi => by
        have := List.countP_eq_zero.1 hcount i (List.mem_range.2 hi)
        simpa using this
      have he : listed = Array.ofFn fun i : Fin l.toArray.size => decide (i.1 < n) := by
        refine Array.ext (by simp [hinv.size]) fun i h1 h2 => ?_
        rw [Array.getElem_ofFn]
        by_cases hi : i < n
        · have := hl i hi
          simpa [h1, hi] using this
        · have := hinv.tail i (by omega) (by rw [← hinv.size]; exact h1)
          simpa [h1, hi] using this
      obtain ⟨k, hk, hph⟩ := inv.phase
      have hend' := hend (fun i => a.tmps.getD (dstOf l.toArray i) undef) w k hk (fun i t hi ht => (hph i t hi ht).1 (hl i hi)) (fun i hi => inv.held i hi (hl i hi))
      rw [← inv.end hd] at hend'
      have := wpAny_of_seq (md := .any) (Q' := Q) (l.drop n) n listed a w (fun j => by simp [List.getElem?_drop]) (by rw [hdl, he]; exact hseq) hend'
      rw [hdl] at this
      rw [Nat.zero_add]
      exact this
    | succ f ih =>
      intro listed a w hcount hinv inv
      rw [show f + 1 + (l.toArray.size - n) = (f + (l.toArray.size - n)) + 1 by omega]
      obtain ⟨i0, hi0, hu0⟩ : ∃ i, i < n ∧ listed.getD i false = false := by
        have : 0 < (List.range n).countP (fun i => !listed.getD i false) := by omega
        obtain ⟨i, hi, hu⟩ := List.countP_pos_iff.1 this
        exact ⟨i, List.mem_range.1 hi, by simpa using hu⟩
      have hus : ∀ i, i < n → listed.getD i false = false → listed.getD i true = false := fun i hi hu => getD_in (by rw [hinv.size]; omega) hu
      have hready : ∀ i, i ∈ Region.ready .any l.toArray listed → i < n := fun i hi => by
        rcases Nat.lt_or_ge i n with h | h
        · exact h
        · rcases hnn with h' | ⟨⟨hn, hs⟩, hc⟩
          · obtain ⟨_, o, ho, _⟩ := mem_ready.1 hi
            have := (Array.getElem?_eq_some_iff.1 ho).1
            omega
          · exact absurd hi (tail_waits hs hc hn hinv _ i0 rfl hi0 (hus i0 hi0 hu0) i h)
      refine ⟨fun hr => ?_, fun i hi => ?_⟩
      · exfalso
        have : ∀ k i, i < k → i < n → listed.getD i false = false → ∃ j, j ∈ Region.ready .any l.toArray listed := by
          intro k
          induction k with
          | zero => intro i hi; omega
          | succ k ihk =>
            intro i hik hi hu
            by_cases hlow : ∃ j, j < i ∧ listed.getD j false = false
            · obtain ⟨j, hj, huj⟩ := hlow
              exact ihk j (by omega) (by omega) huj
            · obtain ⟨o, sp⟩ := headB2_spec hb hi
              refine ⟨i, mem_ready.2 ⟨hus i hi hu, o, sp.at_, fun e he hbe => ?_⟩⟩
              have hlt := sp.back e he hbe
              cases hle : listed.getD e.on false with
              | true => rfl
              | false => exact absurd ⟨e.on, hlt, hle⟩ hlow
        obtain ⟨j, hj⟩ := this (i0 + 1) i0 (by omega) hi0 hu0
        rw [hr] at hj
        cases hj
      · have hin := hready i hi
        obtain ⟨hun, o, ho, hall⟩ := mem_ready.1 hi
        obtain ⟨o', sp⟩ := headB2_spec hb hin
        obtain rfl : o' = o := Option.some.inj (sp.at_.symm.trans ho)
        obtain ⟨k, hk, hph⟩ := inv.phase
        have hik : tn i = none ∨ tn i = some k := by
          cases ht : tn i with
          | none => exact .inl rfl
          | some t =>
            refine .inr (congrArg some ?_)
            have h1 : ¬ t < k := fun h => by
              have := (hph i t hin ht).2 h
              rw [getD_both hun] at this
              cases this
            cases t with
            | zero =>
              rcases Nat.eq_zero_or_pos k with h | h
              · exact h.symm
              · omega
            | succ t =>
              obtain ⟨j, hj, htj, e, he, hbe, hon⟩ := sp.turn t ht
              have := (hph j t hj htj).1 (by rw [← hon]; exact hall e he hbe)
              omega
        have hw := hstep i o' hin (by simpa using ho) a w k hk hik (fun s hs => inv.other s fun j hj _ => hs j hj) (fun j hj hwt => by
          obtain ⟨oj, hoj, e, he, hbe, hon⟩ := Region.waitsFor_spec hwt
          obtain rfl : oj = o' := Option.some.inj (hoj.symm.trans ho)
          have := hall e he hbe
          rw [hon] at this
          exact inv.held j hj this)
        have hwant : Region.wanted o' (yielded l.toArray a.tmps) = wantOf gv o' := by
          unfold Region.wanted wantOf
          cases hgd : o'.guard with
          | none => rfl
          | some gb =>
            obtain ⟨g, b⟩ := gb
            obtain ⟨hgn, hgs, e, he, hbe, hon⟩ := sp.guard g b hgd
            have hlg : listed.getD g false = true := by rw [← hon]; exact hall e he hbe
            have hTg := hgv g hgs _ _ (inv.held g hgn hlg)
            obtain ⟨og, spg⟩ := headB2_spec hb hgn
            have hy : yielded l.toArray a.tmps g = boolOf (a.tmps.getD (dstOf l.toArray g) undef) := by
              unfold yielded
              rw [spg.at_, Option.bind_some, spg.dst, Option.bind_some]
              have hlt : dstOf l.toArray g < a.tmps.size := by rw [inv.size]; exact hd g hgn
              rw [Array.getElem?_eq_getElem hlt]
              simp only [Array.getD_eq_getD_getElem?, Array.getElem?_eq_getElem hlt, Option.getD_some]
              cases a.tmps[dstOf l.toArray g] <;> rfl
            simp only
            rw [hy, hTg]
        have hfin : ∀ a' w', Left2 T G S tn i k o' a w a' w' → wpAny P .any l.toArray Q (f + (l.toArray.size - n)) (listed.setIfInBounds i true) a' w' := fun a' w' h' => ih _ a' w' (by
          have hself : (listed.setIfInBounds i true).getD i false = true := by
            have : i < listed.size := by rw [hinv.size]; omega
            simp [this]
          have := countP_less (fun i => !listed.getD i false) (fun j => !(listed.setIfInBounds i true).getD j false) i (List.range n) List.nodup_range (List.mem_range.2 hin) (by rw [getD_both hun]; rfl) (by rw [hself]; rfl) (fun j hj => by rw [getD_set_ne false (Ne.symm hj)])
          omega) (hinv.set hi hin) (inv.put hb hd hT hin ho hun hph hik h')
        unfold wpOp
        simp only [ho]
        rw [hwant]
        cases hwv : wantOf gv o'
        · rw [hwv] at hw
          rw [if_neg (by simp)] at hw
          rw [if_neg (by simp)]
          exact hfin _ _ ⟨undef, rfl, hw, by
            have hnp : nextPh tn i k = k := hskip i o' hin (by simpa using ho) hwv k
            rw [hnp]
            exact hk, Only.refl _ _⟩
        · rw [hwv, if_pos rfl] at hw
          rw [if_pos rfl]
          exact .inl (Oper.wp_mono hfin hw)
  have h0 := key n (Array.replicate l.toArray.size false) a0 { W with drawn := W.drawn + 1 } (by
      rw [List.countP_eq_length.2 (fun i _ => by rw [getD_replicate_false]; rfl)]
      simp)
    ⟨by simp, fun j oj _ hl => (by rw [getD_replicate_false] at hl; cases hl), fun t _ ht => getD_in (by simpa using ht) (getD_replicate_false _ _)⟩
    ⟨rfl, rfl, fun _ _ => rfl, fun i _ hl => (by rw [getD_replicate_false] at hl; cases hl), 0, hG, fun i t _ _ => ⟨fun hl => (by rw [getD_replicate_false] at hl; cases hl), fun h => (by omega)⟩⟩
  rw [show n + (l.toArray.size - n) = l.toArray.size by omega] at h0
  exact h0
end

section
variable {F : Fence} {n' : Nat} {P : Program}
theorem head2_anyIn {Q : Exit → Act → World → Prop} {l : List Oper} {a0 : Act} {W : World} (n m : Nat) (srcs : List Nat) (gv : Nat → Option Bool) (tn : Nat → Option Nat) (S : Nat → Prop) (G : Nat → World → Prop) (T : Nat → Value → World → Prop) (hsz : a0.tmps.size = m)
    (hB : regionB2 l.toArray n m srcs tn = true) (hskip : ∀ i o, i < n → l[i]? = some o → wantOf gv o = false → ∀ k, nextPh tn i k = k) (hgv : ∀ g, g ∈ srcs → ∀ v w, T g v w → boolOf v = gv g)
    (hT : ∀ i v w w', T i v w → Only S w w' → T i v w') (hG : G 0 { W with drawn := W.drawn + 1 })
    (habout : ∀ (o : Oper) (a : Act) (w : World) (f : FuncId), o.about P w a.eval = some f → F.fn f)
    (hop : ∀ (o : Oper) (a : Act) (w : World) (K : Act → World → Prop), o ∈ l.take n → o.wp P a w K Q → o.wpIn F n' P a w K Q)
    (hstep : ∀ i o, i < n → l[i]? = some o → ∀ a w k, G k w → (tn i = none ∨ tn i = some k) → (∀ s, (∀ j, j < n → dstOf l.toArray j ≠ s) → a.tmps.getD s undef = a0.tmps.getD s undef) →
      (∀ j, j < n → Region.waitsFor .any l.toArray i j = true → T j (a.tmps.getD (dstOf l.toArray j) undef) w) → if wantOf gv o = true then o.wp P a w (Left2 T G S tn i k o a w) Q else T i undef w)
    (hend : ∀ (V : Nat → Value) w k, G k w → (∀ i t, i < n → tn i = some t → t < k) → (∀ i, i < n → T i (V i) w) → wpListIn F n' P l.toArray Q (l.drop n) (endFrame l.toArray n a0 V) w) :
    wpAnyIn F n' P .any l.toArray Q l.toArray.size (Array.replicate l.toArray.size false) a0 { W with drawn := W.drawn + 1 } := by
  simp only [regionB2, Bool.and_eq_true, Bool.or_eq_true, decide_eq_true_eq] at hB
  obtain ⟨⟨⟨hnn, hseq⟩, hb⟩, hd'⟩ := hB
  have hns : n ≤ l.toArray.size := by rcases hnn with h | ⟨⟨h, _⟩, _⟩ <;> omega
  have hd : ∀ i, i < n → dstOf l.toArray i < a0.tmps.size := fun i hi => by
    have := List.all_eq_true.1 hd' i (List.mem_range.2 hi)
    rw [hsz]
    simpa using this
  have hdl : (l.drop n).length = l.toArray.size - n := by simp
  have key : ∀ (f : Nat) (listed : Array Bool) (a : Act) (w : World), (List.range n).countP (fun i => !listed.getD i false) = f → HeadInv .any l.toArray n listed → HInv2 l.toArray n a0 T G tn listed a w →
      wpAnyIn F n' P .any l.toArray Q (f + (l.toArray.size - n)) listed a w := by
    intro f
    induction f with
    | zero =>
      intro listed a w hcount hinv inv
      have hl : ∀ i, i < n → listed.getD i false = true := fun i hi => by
        have := List.countP_eq_zero.1 hcount i (List.mem_range.2 hi)
        simpa using this
      have he : listed = Array.ofFn fun i : Fin l.toArray.size => decide (i.1 < n) := by
        refine Array.ext (by simp [hinv.size]) fun i h1 h2 => ?_
        rw [Array.getElem_ofFn]
        by_cases hi : i < n
        · have := hl i hi
          simpa [h1, hi] using this
        · have := hinv.tail i (by omega) (by rw [← hinv.size]; exact h1)
          simpa [h1, hi] using this
      obtain ⟨k, hk, hph⟩ := inv.phase
      have hend' := hend (fun i => a.tmps.getD (dstOf l.toArray i) undef) w k hk (fun i t hi ht => (hph i t hi ht).1 (hl i hi)) (fun i hi => inv.held i hi (hl i hi))
      rw [← inv.end hd] at hend'
      have := wpAnyIn_of_seq (md := .any) (Q' := Q) (l.drop n) n listed a w (fun j => by simp [List.getElem?_drop]) (by rw [hdl, he]; exact hseq) hend'
      rw [hdl] at this
      rw [Nat.zero_add]
      exact this
    | succ f ih =>
      intro listed a w hcount hinv inv
      rw [show f + 1 + (l.toArray.size - n) = (f + (l.toArray.size - n)) + 1 by omega]
      obtain ⟨i0, hi0, hu0⟩ : ∃ i, i < n ∧ listed.getD i false = false := by
        have : 0 < (List.range n).countP (fun i => !listed.getD i false) := by omega
        obtain ⟨i, hi, hu⟩ := List.countP_pos_iff.1 this
        exact ⟨i, List.mem_range.1 hi, by simpa using hu⟩
      have hus : ∀ i, i < n → listed.getD i false = false → listed.getD i true = false := fun i hi hu => getD_in (by rw [hinv.size]; omega) hu
      have hready : ∀ i, i ∈ Region.ready .any l.toArray listed → i < n := fun i hi => by
        rcases Nat.lt_or_ge i n with h | h
        · exact h
        · rcases hnn with h' | ⟨⟨hn, hs⟩, hc⟩
          · obtain ⟨_, o, ho, _⟩ := mem_ready.1 hi
            have := (Array.getElem?_eq_some_iff.1 ho).1
            omega
          · exact absurd hi (tail_waits hs hc hn hinv _ i0 rfl hi0 (hus i0 hi0 hu0) i h)
      refine ⟨fun hr => ?_, fun i hi => ?_⟩
      · exfalso
        have : ∀ k i, i < k → i < n → listed.getD i false = false → ∃ j, j ∈ Region.ready .any l.toArray listed := by
          intro k
          induction k with
          | zero => intro i hi; omega
          | succ k ihk =>
            intro i hik hi hu
            by_cases hlow : ∃ j, j < i ∧ listed.getD j false = false
            · obtain ⟨j, hj, huj⟩ := hlow
              exact ihk j (by omega) (by omega) huj
            · obtain ⟨o, sp⟩ := headB2_spec hb hi
              refine ⟨i, mem_ready.2 ⟨hus i hi hu, o, sp.at_, fun e he hbe => ?_⟩⟩
              have hlt := sp.back e he hbe
              cases hle : listed.getD e.on false with
              | true => rfl
              | false => exact absurd ⟨e.on, hlt, hle⟩ hlow
        obtain ⟨j, hj⟩ := this (i0 + 1) i0 (by omega) hi0 hu0
        rw [hr] at hj
        cases hj
      · have hin := hready i hi
        obtain ⟨hun, o, ho, hall⟩ := mem_ready.1 hi
        obtain ⟨o', sp⟩ := headB2_spec hb hin
        obtain rfl : o' = o := Option.some.inj (sp.at_.symm.trans ho)
        obtain ⟨k, hk, hph⟩ := inv.phase
        have hik : tn i = none ∨ tn i = some k := by
          cases ht : tn i with
          | none => exact .inl rfl
          | some t =>
            refine .inr (congrArg some ?_)
            have h1 : ¬ t < k := fun h => by
              have := (hph i t hin ht).2 h
              rw [getD_both hun] at this
              cases this
            cases t with
            | zero =>
              rcases Nat.eq_zero_or_pos k with h | h
              · exact h.symm
              · omega
            | succ t =>
              obtain ⟨j, hj, htj, e, he, hbe, hon⟩ := sp.turn t ht
              have := (hph j t hj htj).1 (by rw [← hon]; exact hall e he hbe)
              omega
        have hw := hstep i o' hin (by simpa using ho) a w k hk hik (fun s hs => inv.other s fun j hj _ => hs j hj) (fun j hj hwt => by
          obtain ⟨oj, hoj, e, he, hbe, hon⟩ := Region.waitsFor_spec hwt
          obtain rfl : oj = o' := Option.some.inj (hoj.symm.trans ho)
          have := hall e he hbe
          rw [hon] at this
          exact inv.held j hj this)
        have hwant : Region.wanted o' (yielded l.toArray a.tmps) = wantOf gv o' := by
          unfold Region.wanted wantOf
          cases hgd : o'.guard with
          | none => rfl
          | some gb =>
            obtain ⟨g, b⟩ := gb
            obtain ⟨hgn, hgs, e, he, hbe, hon⟩ := sp.guard g b hgd
            have hlg : listed.getD g false = true := by rw [← hon]; exact hall e he hbe
            have hTg := hgv g hgs _ _ (inv.held g hgn hlg)
            obtain ⟨og, spg⟩ := headB2_spec hb hgn
            have hy : yielded l.toArray a.tmps g = boolOf (a.tmps.getD (dstOf l.toArray g) undef) := by
              unfold yielded
              rw [spg.at_, Option.bind_some, spg.dst, Option.bind_some]
              have hlt : dstOf l.toArray g < a.tmps.size := by rw [inv.size]; exact hd g hgn
              rw [Array.getElem?_eq_getElem hlt]
              simp only [Array.getD_eq_getD_getElem?, Array.getElem?_eq_getElem hlt, Option.getD_some]
              cases a.tmps[dstOf l.toArray g] <;> rfl
            simp only
            rw [hy, hTg]
        have hfin : ∀ a' w', Left2 T G S tn i k o' a w a' w' → wpAnyIn F n' P .any l.toArray Q (f + (l.toArray.size - n)) (listed.setIfInBounds i true) a' w' := fun a' w' h' => ih _ a' w' (by
          have hself : (listed.setIfInBounds i true).getD i false = true := by
            have : i < listed.size := by rw [hinv.size]; omega
            simp [this]
          have := countP_less (fun i => !listed.getD i false) (fun j => !(listed.setIfInBounds i true).getD j false) i (List.range n) List.nodup_range (List.mem_range.2 hin) (by rw [getD_both hun]; rfl) (by rw [hself]; rfl) (fun j hj => by rw [getD_set_ne false (Ne.symm hj)])
          omega) (hinv.set hi hin) (inv.put hb hd hT hin ho hun hph hik h')
        unfold wpOpIn
        simp only [ho]
        rw [hwant]
        cases hwv : wantOf gv o'
        · rw [hwv] at hw
          rw [if_neg (by simp)] at hw
          rw [if_neg (by simp)]
          exact ⟨fun f hf => habout _ _ _ f hf, hfin _ _ ⟨undef, rfl, hw, by
            have hnp : nextPh tn i k = k := hskip i o' hin (by simpa using ho) hwv k
            rw [hnp]
            exact hk, Only.refl _ _⟩⟩
        · rw [hwv, if_pos rfl] at hw
          rw [if_pos rfl]
          exact Oper.wpIn_mono hfin (hop o' a w _ (by
            have hlo : l[i]? = some o' := by simpa using ho
            exact List.mem_of_getElem? (i := i) (by rw [List.getElem?_take_of_lt hin]; exact hlo)) hw)
  have h0 := key n (Array.replicate l.toArray.size false) a0 { W with drawn := W.drawn + 1 } (by
      rw [List.countP_eq_length.2 (fun i _ => by rw [getD_replicate_false]; rfl)]
      simp)
    ⟨by simp, fun j oj _ hl => (by rw [getD_replicate_false] at hl; cases hl), fun t _ ht => getD_in (by simpa using ht) (getD_replicate_false _ _)⟩
    ⟨rfl, rfl, fun _ _ => rfl, fun i _ hl => (by rw [getD_replicate_false] at hl; cases hl), 0, hG, fun i t _ _ => ⟨fun hl => (by rw [getD_replicate_false] at hl; cases hl), fun h => (by omega)⟩⟩
  rw [show n + (l.toArray.size - n) = l.toArray.size by omega] at h0
  exact h0
end

theorem wp_region_head2 {P : Program} {id : Nat} {Q : Exit → Act → World → Prop} {l : List Oper} {a0 : Act} {W : World} (n m : Nat) (srcs : List Nat) (gv : Nat → Option Bool) (tn : Nat → Option Nat) (S : Nat → Prop) (G : Nat → World → Prop) (T : Nat → Value → World → Prop) (hsz : a0.tmps.size = m) (hm : P.follows .mixedOrders = true)
    (hB : regionB2 l.toArray n m srcs tn = true) (hskip : ∀ i o, i < n → l[i]? = some o → wantOf gv o = false → ∀ k, nextPh tn i k = k) (hgv : ∀ g, g ∈ srcs → ∀ v w, T g v w → boolOf v = gv g)
    (hT : ∀ i v w w', T i v w → Only S w w' → T i v w') (hG : G 0 { W with drawn := W.drawn + 1 })
    (hstep : ∀ i o, i < n → l[i]? = some o → ∀ a w k, G k w → (tn i = none ∨ tn i = some k) → (∀ s, (∀ j, j < n → dstOf l.toArray j ≠ s) → a.tmps.getD s undef = a0.tmps.getD s undef) →
      (∀ j, j < n → Region.waitsFor .any l.toArray i j = true → T j (a.tmps.getD (dstOf l.toArray j) undef) w) → if wantOf gv o = true then o.wp P a w (Left2 T G S tn i k o a w) Q else T i undef w)
    (hend : ∀ (V : Nat → Value) w k, G k w → (∀ i t, i < n → tn i = some t → t < k) → (∀ i, i < n → T i (V i) w) → wpList P l.toArray Q (l.drop n) (endFrame l.toArray n a0 V) w) :
    (Code.region id l.toArray true).wp P Q a0 W :=
  wp_region_any hm (head2_any n m srcs gv tn S G T hsz hB hskip hgv hT hG hstep hend)

/-- The same in a round. -/
theorem wpIn_region_head2R {P : Program} {id r n' : Nat} {Q : Exit → Act → World → Prop} {l : List Oper} {a0 : Act} {W : World} (n m : Nat) (srcs : List Nat) (gv : Nat → Option Bool) (tn : Nat → Option Nat) (S : Nat → Prop) (G : Nat → World → Prop) (T : Nat → Value → World → Prop) (hsz : a0.tmps.size = m) (hm : P.follows .mixedOrders = true)
    (hB : regionB2 l.toArray n m srcs tn = true) (hnd : noDefers (l.take n) = true) (hskip : ∀ i o, i < n → l[i]? = some o → wantOf gv o = false → ∀ k, nextPh tn i k = k) (hgv : ∀ g, g ∈ srcs → ∀ v w, T g v w → boolOf v = gv g)
    (hT : ∀ i v w w', T i v w → Only S w w' → T i v w') (hG : G 0 { W with drawn := W.drawn + 1 })
    (hstep : ∀ i o, i < n → l[i]? = some o → ∀ a w k, G k w → (tn i = none ∨ tn i = some k) → (∀ s, (∀ j, j < n → dstOf l.toArray j ≠ s) → a.tmps.getD s undef = a0.tmps.getD s undef) →
      (∀ j, j < n → Region.waitsFor .any l.toArray i j = true → T j (a.tmps.getD (dstOf l.toArray j) undef) w) → if wantOf gv o = true then o.wp P a w (Left2 T G S tn i k o a w) Q else T i undef w)
    (hend : ∀ (V : Nat → Value) w k, G k w → (∀ i t, i < n → tn i = some t → t < k) → (∀ i, i < n → T i (V i) w) → wpListIn (Fence.wide.inRound r) n' P l.toArray Q (l.drop n) (endFrame l.toArray n a0 V) w) :
    (Code.region id l.toArray true).wpIn (Fence.wide.inRound r) n' P Q a0 W :=
  wpIn_region_any hm (head2_anyIn n m srcs gv tn S G T hsz hB hskip hgv hT hG (fun _ _ _ _ _ => trivial) (fun _ _ _ _ ho h => wpIn_of_wp_round (noDefers_spec hnd ho) h) hstep hend)

section
variable {P : Program} {T : Nat → Value → World → Prop} {G : Nat → World → Prop} {S : Nat → Prop} {tn : Nat → Option Nat} {i k : Nat} {o : Oper} {a : Act} {w : World} {Q : Exit → Act → World → Prop}
/-- a value, nothing turned -/
theorem left2_value (v : Value) (ho : (execOp a.eval o).run P w = .ok (.value v) w) (hv : T i v w) (hn : tn i = none) (hg : G k w) : o.wp P a w (Left2 T G S tn i k o a w) Q := by
  unfold Oper.wp
  rw [ho]
  exact ⟨v, rfl, hv, by unfold nextPh; rw [if_neg (by rw [hn]; simp)]; exact hg, Only.refl _ _⟩
/-- a row of cells loaded -/
theorem left2_load (ty : TypeId) (x : Operand) (g : Nat) (t : TypeId) (cs : Array Value) (d : TypeDesc) (ho : o.op = .load ty x) (hx : a.eval x = .pointer (some ⟨g, 0, none⟩)) (hB : Blk w g t cs)
    (hu : P.underlying ty = some d) (hd : (match d with | .struct _ | .array _ _ => true | _ => false) = true) (hi : (P.info? ty).map (·.size) = some cs.size) (hv : T i (.agg cs) w) (hn : tn i = none) (hg : G k w) : o.wp P a w (Left2 T G S tn i k o a w) Q :=
  left2_value _ (by
    unfold execOp
    simp only [ho, hx, Instr.loadAt, Instr.sureAddr, Sem.run_bind, Sem.run_pure, Result.andThen_ok, run_loadVar_row w g t ty cs _ d hB hu hd hi]) hv hn hg
/-- a call that makes memory -/
theorem left2_calls (f : FuncId) (args : Array Value) (ho : (execOp a.eval o).run P w = .ok (.enter f args) w) (hc : Calls P f args w fun e w' => ∃ v, e = .returned v ∧ T i v w' ∧ Only NoneOf w w') (hn : tn i = none) (hg : ∀ w', Only NoneOf w w' → G k w') : o.wp P a w (Left2 T G S tn i k o a w) Q := by
  unfold Oper.wp
  rw [ho]
  exact hc.mono fun e w' ⟨v, he, ht, hw⟩ => by
    subst he
    exact ⟨v, rfl, ht, by unfold nextPh; rw [if_neg (by rw [hn]; simp)]; exact hg w' hw, hw.mono fun _ _ h => h.elim⟩
/-- a call that turns memory -/
theorem left2_turns (f : FuncId) (args : Array Value) (ho : (execOp a.eval o).run P w = .ok (.enter f args) w) (hc : Calls P f args w fun e w' => ∃ v, e = .returned v ∧ T i v w' ∧ G (k + 1) w' ∧ Only S w w') (hn : tn i = some k) : o.wp P a w (Left2 T G S tn i k o a w) Q := by
  unfold Oper.wp
  rw [ho]
  exact hc.mono fun e w' ⟨v, he, ht, hg, hw⟩ => by
    subst he
    exact ⟨v, rfl, ht, by unfold nextPh; rw [if_pos hn]; exact hg, hw⟩
end
end Go.Proofs.Ytnonnencdhogiaa
