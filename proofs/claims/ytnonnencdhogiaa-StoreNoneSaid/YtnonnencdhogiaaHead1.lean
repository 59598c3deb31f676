/-
  A region that draws its order: operations that make memory or only read, in any order, and behind them a tail in order.
-/
import Derived.Test.YtnonnencdhogiaaQuiet1
import Derived.StillTail
namespace Go.Proofs.Ytnonnencdhogiaa
open Go.RowKit

def dstOf (ops : Array Oper) (i : Nat) : Tmp := ((ops[i]?).bind (·.dst)).getD 0

/-- The first n operations have no guard, each a slot of its own, and wait only for earlier ones. -/
def headB (ops : Array Oper) (n : Nat) : Bool :=
  (List.range n).all fun i => match ops[i]? with
    | some o => o.guard.isNone && o.dst.isSome && (o.after.all fun e => !Region.binds .any e || decide (e.on < i)) && (List.range n).all fun j => decide (i = j) || !decide (dstOf ops i = dstOf ops j)
    | none => false

section
variable {P : Program} {ops : Array Oper} {W : World} {n : Nat} {a0 : Act} {T : Nat → Value → World → Prop} {al : Nat → Bool}

structure HInv (ops : Array Oper) (n : Nat) (a0 : Act) (W : World) (T : Nat → Value → World → Prop) (al : Nat → Bool) (listed : Array Bool) (a : Act) (w : World) : Prop where
  aft : Aft W w
  defers : a.defers = a0.defers
  size : a.tmps.size = a0.tmps.size
  other : ∀ s, (∀ i, i < n → listed.getD i false = true → dstOf ops i ≠ s) → a.tmps.getD s undef = a0.tmps.getD s undef
  held : ∀ i, i < n → listed.getD i false = true → T i (a.tmps.getD (dstOf ops i) undef) w
  apart : ∀ i j, i < n → j < n → i ≠ j → listed.getD i false = true → listed.getD j false = true → al i = true → al j = true → a.tmps.getD (dstOf ops i) undef ≠ a.tmps.getD (dstOf ops j) undef

/-- What a head operation leaves. -/
def Left (T : Nat → Value → World → Prop) (al : Nat → Bool) (i : Nat) (o : Oper) (a : Act) (w : World) (a' : Act) (w' : World) : Prop :=
  ∃ v, a' = a.put o.dst v ∧ T i v w' ∧ Only NoneOf w w' ∧ (al i = true → ∃ b, v = .pointer (some ⟨b, 0, none⟩) ∧ w.heap.size ≤ b)

theorem headB_spec (h : headB ops n = true) {i : Nat} (hi : i < n) : ∃ o, ops[i]? = some o ∧ o.guard = none ∧ o.dst = some (dstOf ops i) ∧ (∀ e ∈ o.after, Region.binds .any e = true → e.on < i) ∧ ∀ j, j < n → i ≠ j → dstOf ops i ≠ dstOf ops j := by
  have h1 := List.all_eq_true.1 h i (List.mem_range.2 hi)
  cases ho : ops[i]? with
  | none => rw [ho] at h1; cases h1
  | some o =>
    rw [ho] at h1
    simp only [Bool.and_eq_true] at h1
    obtain ⟨⟨⟨h2, h3⟩, h4⟩, h5⟩ := h1
    refine ⟨o, rfl, by simpa using h2, ?_, fun e he hb => ?_, fun j hj hij => ?_⟩
    · obtain ⟨d, hd⟩ := Option.isSome_iff_exists.1 h3
      simp [dstOf, ho, hd]
    · have := Array.all_eq_true_iff_forall_mem.1 h4 e he
      rw [hb] at this
      simpa using this
    · have := List.all_eq_true.1 h5 j (List.mem_range.2 hj)
      simp only [Bool.or_eq_true, decide_eq_true_eq, Bool.not_eq_true', decide_eq_false_iff_not] at this
      exact this.resolve_left hij

theorem put_getD (a : Act) (d s : Tmp) (v : Value) (hd : d < a.tmps.size) : (a.put (some d) v).tmps.getD s undef = if d = s then v else a.tmps.getD s undef := by
  unfold Act.put
  simp only [Array.getD_eq_getD_getElem?, Array.getElem?_setIfInBounds]
  split
  · rename_i h
    subst h
    simp
  · rfl
theorem put_size (a : Act) (d : Option Tmp) (v : Value) : (a.put d v).tmps.size = a.tmps.size := by
  unfold Act.put; split <;> simp
theorem put_defers (a : Act) (d : Option Tmp) (v : Value) : (a.put d v).defers = a.defers := by
  unfold Act.put; split <;> rfl

theorem HInv.put {listed : Array Bool} {a : Act} {w : World} (inv : HInv ops n a0 W T al listed a w) (hb : headB ops n = true) (hd : ∀ i, i < n → dstOf ops i < a0.tmps.size)
    (hT : ∀ i v w w', T i v w → Only NoneOf w w' → T i v w') (hal : ∀ i v w, al i = true → T i v w → ∃ b, v = .pointer (some ⟨b, 0, none⟩) ∧ b < w.heap.size)
    {i : Nat} (hi : i < n) {o : Oper} (ho : ops[i]? = some o) (hun : listed.getD i true = false) {a' : Act} {w' : World} (h : Left T al i o a w a' w') : HInv ops n a0 W T al (listed.setIfInBounds i true) a' w' := by
  obtain ⟨v, rfl, hv, ho', hf⟩ := h
  obtain ⟨o', h1, _, h3, _, h5⟩ := headB_spec hb hi
  obtain rfl : o' = o := Option.some.inj (h1.symm.trans ho)
  have hg := fun s => put_getD a (dstOf ops i) s v (by rw [inv.size]; exact hd i hi)
  rw [h3]
  have hother : ∀ j, j ≠ i → (listed.setIfInBounds i true).getD j false = true → listed.getD j false = true := fun j hj hl => by rwa [getD_set_ne false (Ne.symm hj)] at hl
  have hself : (listed.setIfInBounds i true).getD i false = true := by
    have : i < listed.size := by
      rcases Nat.lt_or_ge i listed.size with h' | h'
      · exact h'
      · simp [Array.getElem?_eq_none h'] at hun
    simp [this]
  refine ⟨Only.trans inv.aft ho', (put_defers _ _ _).trans inv.defers, (put_size _ _ _).trans inv.size, fun s hs => ?_, fun j hj hl => ?_, fun j k hj hk hjk hlj hlk haj hak => ?_⟩
  · rw [hg, if_neg (hs i hi hself)]
    exact inv.other s fun j hj hl => hs j hj (getD_set_true hl)
  · by_cases hji : j = i
    · subst hji
      rw [hg, if_pos rfl]
      exact hv
    · rw [hg, if_neg (h5 j hj (Ne.symm hji))]
      exact hT _ _ _ _ (inv.held j hj (hother j hji hl)) ho'
  · by_cases hji : j = i
    · subst hji
      rw [hg, hg, if_pos rfl, if_neg (h5 k hk hjk)]
      obtain ⟨b, rfl, hb'⟩ := hf haj
      obtain ⟨c, hc, hlt⟩ := hal k _ _ hak (inv.held k hk (hother k (Ne.symm hjk) hlk))
      rw [hc]
      intro he
      injection he with he
      injection he with he
      injection he with he
      omega
    · by_cases hki : k = i
      · subst hki
        rw [hg, hg, if_pos rfl, if_neg (h5 j hj (Ne.symm hji))]
        obtain ⟨b, rfl, hb'⟩ := hf hak
        obtain ⟨c, hc, hlt⟩ := hal j _ _ haj (inv.held j hj (hother j hji hlj))
        rw [hc]
        intro he
        injection he with he
        injection he with he
        injection he with he
        omega
      · rw [hg, hg, if_neg (h5 j hj (Ne.symm hji)), if_neg (h5 k hk (Ne.symm hki))]
        exact inv.apart j k hj hk hjk (hother j hji hlj) (hother k hki hlk) haj hak

/-- the frame at the head's end -/
def endFrame (ops : Array Oper) (n : Nat) (a0 : Act) (V : Nat → Value) : Act := (List.range n).foldl (fun a i => a.put (some (dstOf ops i)) (V i)) a0

theorem foldl_put (F : Tmp → Value) (d : Nat → Tmp) : ∀ (l : List Nat) (a : Act), (∀ i ∈ l, d i < a.tmps.size) →
    (l.foldl (fun a i => a.put (some (d i)) (F (d i))) a).defers = a.defers ∧ (l.foldl (fun a i => a.put (some (d i)) (F (d i))) a).tmps.size = a.tmps.size ∧
    ∀ s, (l.foldl (fun a i => a.put (some (d i)) (F (d i))) a).tmps.getD s undef = if ∃ i ∈ l, d i = s then F s else a.tmps.getD s undef
  | [], a, _ => ⟨rfl, rfl, fun s => by simp⟩
  | i :: l, a, h => by
    obtain ⟨h1, h2, h3⟩ := foldl_put F d l (a.put (some (d i)) (F (d i))) (fun j hj => by rw [put_size]; exact h j (by simp [hj]))
    refine ⟨h1.trans (put_defers _ _ _), h2.trans (put_size _ _ _), fun s => ?_⟩
    rw [List.foldl_cons, h3 s, put_getD _ _ _ _ (h i (by simp))]
    by_cases hs : ∃ j ∈ l, d j = s
    · rw [if_pos hs, if_pos (by obtain ⟨j, hj, e⟩ := hs; exact ⟨j, by simp [hj], e⟩)]
    · rw [if_neg hs]
      by_cases hi : d i = s
      · rw [if_pos hi, if_pos ⟨i, by simp, hi⟩, hi]
      · rw [if_neg hi, if_neg (by
          rintro ⟨j, hj, e⟩
          rcases List.mem_cons.1 hj with rfl | hj
          · exact hi e
          · exact hs ⟨j, hj, e⟩)]

theorem act_ext {a b : Act} (hd : a.defers = b.defers) (hs : a.tmps.size = b.tmps.size) (h : ∀ s, a.tmps.getD s undef = b.tmps.getD s undef) : a = b := by
  obtain ⟨t, d⟩ := a
  obtain ⟨t', d'⟩ := b
  simp only at hd hs h
  subst hd
  congr 1
  refine Array.ext hs fun i h1 h2 => ?_
  have := h i
  simpa [h1, h2] using this

theorem HInv.end {listed : Array Bool} {a : Act} {w : World} (inv : HInv ops n a0 W T al listed a w) (hd : ∀ i, i < n → dstOf ops i < a0.tmps.size) :
    a = endFrame ops n a0 (fun i => a.tmps.getD (dstOf ops i) undef) := by
  obtain ⟨h1, h2, h3⟩ := foldl_put (fun s => a.tmps.getD s undef) (dstOf ops) (List.range n) a0 (fun i hi => hd i (List.mem_range.1 hi))
  refine act_ext (inv.defers.trans h1.symm) (inv.size.trans h2.symm) fun s => ?_
  unfold endFrame
  rw [h3 s]
  split
  · rfl
  · rename_i hs
    exact inv.other s fun i hi _ he => hs ⟨i, List.mem_range.2 hi, he⟩

theorem countP_less (p q : Nat → Bool) (i : Nat) : ∀ l : List Nat, l.Nodup → i ∈ l → p i = true → q i = false → (∀ j, j ≠ i → q j = p j) → l.countP q + 1 = l.countP p
  | [], _, h, _, _, _ => by simp at h
  | j :: l, hn, h, hp, hq, hj => by
    obtain ⟨h1, h2⟩ := List.nodup_cons.1 hn
    by_cases e : j = i
    · subst e
      have hc : l.countP q = l.countP p := List.countP_congr fun k hk => by rw [hj k (fun e => h1 (e ▸ hk))]
      rw [List.countP_cons, List.countP_cons, hp, hq, hc]
      simp
    · have hm : i ∈ l := (List.mem_cons.1 h).resolve_left fun e' => e e'.symm
      rw [List.countP_cons, List.countP_cons, hj j e, ← countP_less p q i l h2 hm hp hq hj]
      omega

def regionB (ops : Array Oper) (n m : Nat) : Bool :=
  decide (n < ops.size) && Region.sinkB .any ops n && Region.chainB .any ops n && headB ops n && ((List.range n).all fun i => decide (dstOf ops i < m)) &&
    Region.seqB .any ops (ops.size - n) n (Array.ofFn fun i : Fin ops.size => decide (i.1 < n))

theorem head_any {Q : Exit → Act → World → Prop} {l : List Oper} {a0 : Act} {W : World} (n m : Nat) (T : Nat → Value → World → Prop) (al : Nat → Bool) (hsz : a0.tmps.size = m) (hB : regionB l.toArray n m = true)
    (hT : ∀ i v w w', T i v w → Only NoneOf w w' → T i v w') (hal : ∀ i v w, al i = true → T i v w → ∃ b, v = .pointer (some ⟨b, 0, none⟩) ∧ b < w.heap.size)
    (hstep : ∀ i o, i < n → l[i]? = some o → ∀ a w, Aft W w → (∀ s, (∀ j, j < n → dstOf l.toArray j ≠ s) → a.tmps.getD s undef = a0.tmps.getD s undef) →
      (∀ j, j < n → Region.waitsFor .any l.toArray i j = true → T j (a.tmps.getD (dstOf l.toArray j) undef) w) → o.wp P a w (Left T al i o a w) Q)
    (hend : ∀ (V : Nat → Value) w, Aft W w → (∀ i, i < n → T i (V i) w) → (∀ i j, i < n → j < n → i ≠ j → al i = true → al j = true → V i ≠ V j) → wpList P l.toArray Q (l.drop n) (endFrame l.toArray n a0 V) w) :
    wpAny P .any l.toArray Q l.toArray.size (Array.replicate l.toArray.size false) a0 { W with drawn := W.drawn + 1 } := by
  simp only [regionB, Bool.and_eq_true, decide_eq_true_eq] at hB
  obtain ⟨⟨⟨⟨⟨hn, hs⟩, hc⟩, hb⟩, hd'⟩, hseq⟩ := hB
  have hd : ∀ i, i < n → dstOf l.toArray i < a0.tmps.size := fun i hi => by
    have := List.all_eq_true.1 hd' i (List.mem_range.2 hi)
    rw [hsz]
    simpa using this
  have hdl : (l.drop n).length = l.toArray.size - n := by simp
  have key : ∀ (f : Nat) (listed : Array Bool) (a : Act) (w : World), (List.range n).countP (fun i => !listed.getD i false) = f → HeadInv .any l.toArray n listed → HInv l.toArray n a0 W T al listed a w →
      wpAny P .any l.toArray Q (f + (l.toArray.size - n)) listed a w := by
    intro f
    induction f with
    | zero =>
      intro listed a w hcount hinv inv
      have hl : ∀ i, i < n → listed.getD i false = true := fun i hi => by
        have := List.countP_eq_zero.1 hcount i (List.mem_range.2 hi)
        simpa using this
      have he : listed = Array.ofFn fun i : Fin l.toArray.size => decide (i.1 < n) := by
        refine Array.ext (by simp [hinv.size]) fun i h1 h2 => ?_
        rw [Array.getElem_ofFn]
        by_cases hi : i < n
        · have := hl i hi
          simpa [h1, hi] using this
        · have := hinv.tail i (by omega) (by rw [← hinv.size]; exact h1)
          simpa [h1, hi] using this
      have hend' := hend (fun i => a.tmps.getD (dstOf l.toArray i) undef) w inv.aft (fun i hi => inv.held i hi (hl i hi)) (fun i j hi hj hij ha hb => inv.apart i j hi hj hij (hl i hi) (hl j hj) ha hb)
      rw [← inv.end hd] at hend'
      have := wpAny_of_seq (md := .any) (Q' := Q) (l.drop n) n listed a w (fun j => by simp [List.getElem?_drop]) (by rw [hdl, he]; exact hseq) hend'
      rw [hdl] at this
      rw [Nat.zero_add]
      exact this
    | succ f ih =>
      intro listed a w hcount hinv inv
      rw [show f + 1 + (l.toArray.size - n) = (f + (l.toArray.size - n)) + 1 by omega]
      -- one that has not come up
      obtain ⟨i0, hi0, hu0⟩ : ∃ i, i < n ∧ listed.getD i false = false := by
        have : 0 < (List.range n).countP (fun i => !listed.getD i false) := by omega
        obtain ⟨i, hi, hu⟩ := List.countP_pos_iff.1 this
        exact ⟨i, List.mem_range.1 hi, by simpa using hu⟩
      have hus : ∀ i, i < n → listed.getD i false = false → listed.getD i true = false := fun i hi hu => getD_in (by rw [hinv.size]; omega) hu
      have htail := tail_waits hs hc hn hinv _ i0 rfl hi0 (hus i0 hi0 hu0)
      refine ⟨fun hr => ?_, fun i hi => ?_⟩
      · exfalso
        -- the least is ready
        have : ∀ k i, i < k → i < n → listed.getD i false = false → ∃ j, j ∈ Region.ready .any l.toArray listed := by
          intro k
          induction k with
          | zero => intro i hi; omega
          | succ k ihk =>
            intro i hik hi hu
            by_cases hlow : ∃ j, j < i ∧ listed.getD j false = false
            · obtain ⟨j, hj, huj⟩ := hlow
              exact ihk j (by omega) (by omega) huj
            · obtain ⟨o, ho, _, _, hback, _⟩ := headB_spec hb hi
              refine ⟨i, mem_ready.2 ⟨hus i hi hu, o, ho, fun e he hbe => ?_⟩⟩
              have hlt := hback e he hbe
              cases hle : listed.getD e.on false with
              | true => rfl
              | false => exact absurd ⟨e.on, hlt, hle⟩ hlow
        obtain ⟨j, hj⟩ := this (i0 + 1) i0 (by omega) hi0 hu0
        rw [hr] at hj
        cases hj
      · have hin : i < n := by
          rcases Nat.lt_or_ge i n with h | h
          · exact h
          · exact absurd hi (htail i h)
        obtain ⟨hun, o, ho, hall⟩ := mem_ready.1 hi
        obtain ⟨o', ho', hgd, _, _, _⟩ := headB_spec hb hin
        obtain rfl : o' = o := Option.some.inj (ho'.symm.trans ho)
        have hw := hstep i o' hin (by simpa using ho) a w inv.aft (fun s hs => inv.other s fun j hj _ => hs j hj) (fun j hj hwt => by
          obtain ⟨oj, hoj, e, he, hbe, hon⟩ := Region.waitsFor_spec hwt
          obtain rfl : oj = o' := Option.some.inj (hoj.symm.trans ho)
          have := hall e he hbe
          rw [hon] at this
          exact inv.held j hj this)
        have hwp : wpOp P l.toArray Q i (Left T al i o' a w) a w := by
          unfold wpOp
          simp only [ho]
          rw [if_pos (by unfold Region.wanted; rw [hgd])]
          exact .inl hw
        refine wpOp_mono (fun a' w' h' => ih _ a' w' ?_ (hinv.set hi hin) (inv.put hb hd hT hal hin ho hun h')) hwp
        have hself : (listed.setIfInBounds i true).getD i false = true := by
          have : i < listed.size := by rw [hinv.size]; omega
          simp [this]
        have := countP_less (fun i => !listed.getD i false) (fun j => !(listed.setIfInBounds i true).getD j false) i (List.range n) List.nodup_range (List.mem_range.2 hin) (by rw [getD_both hun]; rfl) (by rw [hself]; rfl) (fun j hj => by rw [getD_set_ne false (Ne.symm hj)])
        omega
  have h0 := key n (Array.replicate l.toArray.size false) a0 { W with drawn := W.drawn + 1 } (by
      rw [List.countP_eq_length.2 (fun i _ => by rw [getD_replicate_false]; rfl)]
      simp)
    ⟨by simp, fun j oj _ hl => (by rw [getD_replicate_false] at hl; cases hl), fun t _ ht => getD_in (by simpa using ht) (getD_replicate_false _ _)⟩
    ⟨(Only.refl _ _).drew, rfl, rfl, fun _ _ => rfl, fun i _ hl => (by rw [getD_replicate_false] at hl; cases hl), fun i j _ _ _ hl => (by rw [getD_replicate_false] at hl; cases hl)⟩
  rw [show n + (l.toArray.size - n) = l.toArray.size by omega] at h0
  exact h0

theorem wp_region_head {id : Nat} {Q : Exit → Act → World → Prop} {l : List Oper} {a0 : Act} {W : World} (n m : Nat) (T : Nat → Value → World → Prop) (al : Nat → Bool) (hsz : a0.tmps.size = m) (hm : P.follows .mixedOrders = true) (hB : regionB l.toArray n m = true)
    (hT : ∀ i v w w', T i v w → Only NoneOf w w' → T i v w') (hal : ∀ i v w, al i = true → T i v w → ∃ b, v = .pointer (some ⟨b, 0, none⟩) ∧ b < w.heap.size)
    (hstep : ∀ i o, i < n → l[i]? = some o → ∀ a w, Aft W w → (∀ s, (∀ j, j < n → dstOf l.toArray j ≠ s) → a.tmps.getD s undef = a0.tmps.getD s undef) →
      (∀ j, j < n → Region.waitsFor .any l.toArray i j = true → T j (a.tmps.getD (dstOf l.toArray j) undef) w) → o.wp P a w (Left T al i o a w) Q)
    (hend : ∀ (V : Nat → Value) w, Aft W w → (∀ i, i < n → T i (V i) w) → (∀ i j, i < n → j < n → i ≠ j → al i = true → al j = true → V i ≠ V j) → wpList P l.toArray Q (l.drop n) (endFrame l.toArray n a0 V) w) :
    (Code.region id l.toArray true).wp P Q a0 W :=
  wp_region_any hm (head_any n m T al hsz hB hT hal hstep hend)
end

section
variable {P : Program} {T : Nat → Value → World → Prop} {al : Nat → Bool} {i : Nat} {o : Oper} {a : Act} {w : World} {Q : Exit → Act → World → Prop}

theorem left_value (v : Value) (ho : (execOp a.eval o).run P w = .ok (.value v) w) (hal : al i = false) (hv : T i v w) : o.wp P a w (Left T al i o a w) Q := by
  unfold Oper.wp
  rw [ho]
  exact ⟨v, rfl, hv, Only.refl _ _, fun h => by rw [hal] at h; cases h⟩

theorem left_load (ty : TypeId) (x : Operand) (g : Nat) (t : TypeId) (cs : Array Value) (d : TypeDesc) (ho : o.op = .load ty x) (hx : a.eval x = .pointer (some ⟨g, 0, none⟩)) (hB : Blk w g t cs)
    (hu : P.underlying ty = some d) (hd : (match d with | .struct _ | .array _ _ => true | _ => false) = true) (hi : (P.info? ty).map (·.size) = some cs.size) (hal : al i = false) (hv : T i (.agg cs) w) : o.wp P a w (Left T al i o a w) Q :=
  left_value _ (by
    unfold execOp
    simp only [ho, hx, Instr.loadAt, Instr.sureAddr, Sem.run_bind, Sem.run_pure, Result.andThen_ok, run_loadVar_row w g t ty cs _ d hB hu hd hi]) hal hv

theorem left_call (f : FuncId) (args : Array Value) (v : Value) (ho : (execOp a.eval o).run P w = .ok (.enter f args) w) (hc : ∀ u, Hid (Calls P f args u (Ans v u))) (hal : al i = false) (hv : ∀ w', T i v w') : o.wp P a w (Left T al i o a w) Q := by
  unfold Oper.wp
  rw [ho]
  exact (hc w).out.mono fun e w' ⟨he, hw⟩ => by
    subst he
    exact ⟨v, rfl, hv w', hw, fun h => by rw [hal] at h; cases h⟩

theorem left_alloc (cs : Array Value) (t : TypeId) (ho : (execOp a.eval o).run P w = .ok (.value (.pointer (some ⟨w.heap.size, 0, none⟩))) (w.alloc (.cells cs t))) (hv : T i (.pointer (some ⟨w.heap.size, 0, none⟩)) (w.alloc (.cells cs t))) : o.wp P a w (Left T al i o a w) Q := by
  unfold Oper.wp
  rw [ho]
  exact ⟨_, rfl, hv, (Only.refl _ _).alloc _, fun _ => ⟨_, rfl, Nat.le_refl _⟩⟩
end

end Go.Proofs.Ytnonnencdhogiaa
