/-
  Layer 14's laws: scripts and lists of versions that come in, opened.
-/
import Derived.Test.YtnonnencdhogiaaS26
import Derived.Test.YtnonnencdhogiaaSlice
namespace Go.Proofs.Ytnonnencdhogiaa
open Go.ChangeShapes Go.WideShapes Go.ChangeAt Go.RowKit Go.Deep

theorem lawPost {f : FuncId} {args : Array Value} {w : World} (h : Calls Try.prog f args w (Ans (.bool true) w)) : Calls Try.prog f args w (LawPost w) :=
  h.mono fun _ _ ⟨he, ho⟩ => ⟨he, ho.below (fun _ h => h.elim) (Nat.le_refl _)⟩

theorem list_of {α : Type} {P : Nat → α → Prop} : ∀ n : Nat, (∀ i, i < n → ∃ x, P i x) → ∃ s : List α, s.length = n ∧ ∀ i x, s[i]? = some x → P i x
  | 0, _ => ⟨[], rfl, fun i x h => by simp at h⟩
  | n + 1, h => by
    obtain ⟨s, hs, hp⟩ := list_of n (fun i hi => h i (by omega))
    obtain ⟨x, hx⟩ := h n (by omega)
    refine ⟨s ++ [x], by simp [hs], fun i y hy => ?_⟩
    by_cases hi : i < s.length
    · rw [List.getElem?_append_left hi] at hy; exact hp i y hy
    · have hil : i < (s ++ [x]).length := (List.getElem?_eq_some_iff.1 hy).1
      have : i = s.length := by simp at hil; omega
      subst this
      have e : y = x := by simpa using hy.symm
      rw [e, hs]; exact hx

section
variable {H : Type} {enc : TypeId × Value → H} {w : World} {held : Bool}

theorem field_bytes {n : Nat} {c : Value} {y : DataW H × List MemPlace} (h : DataW.trod enc Try.prog w 0 (fun _ => true) held n 25 [c] = some y) : ∃ A cap, ∃ bs : List UInt8, c = .slice A bs.length cap ∧ BytesAt w A bs := by
  have hs : ∃ a len cap, c = .slice a len cap := by
    rcases open_slice Try.underlying25 h with ⟨h1, _⟩ | ⟨a, len, cap, _, _, _, _, h1, _⟩
    · exact ⟨none, 0, 0, by simpa using h1⟩
    · exact ⟨some a, len, cap, by simpa using h1⟩
  obtain ⟨a, len, cap, rfl⟩ := hs
  obtain ⟨A, n', cap', hv, _, _, _, hi⟩ := open_elems (sz := 1) (v := .slice a len cap) Try.underlying25 (by kernel_rfl) (by omega) ⟨_, _, _, rfl⟩ ⟨n, by simpa [Value.cells] using h⟩
  injection hv with h1 h2 h3
  subst h1; subst h2; subst h3
  have hx : ∀ i, i < len → ∃ b : UInt8, ∃ g off, a = some ⟨g, off, none⟩ ∧ g < w.heap.size ∧ w.cell? ⟨g, off + i, none⟩ = some (byteV b) := by
    intro i hlt
    obtain ⟨blk, off, cs, m, y, hA, hb, hlen, hc, ht⟩ := hi i hlt
    match cs, hlen with
    | [c], _ =>
      obtain ⟨x, rfl, hw⟩ := field_int Try.underlying5 ht
      have hr : 0 ≤ x ∧ x ≤ 255 := by simpa [Lit.wf, IntKind.min, IntKind.max, IntKind.signed, IntKind.bits] using hw
      refine ⟨UInt8.ofNat x.toNat, blk, off, hA, hb, ?_⟩
      have h0 := hc 0 _ rfl
      rw [Nat.mul_one, Nat.add_zero] at h0
      rw [h0]
      have hn : (UInt8.ofNat x.toNat).toNat = x.toNat := by rw [UInt8.toNat_ofNat']; omega
      simp only [byteV, hn]
      congr 2
      omega
  obtain ⟨bs, hbs, hp⟩ := list_of len hx
  refine ⟨a, cap, bs, by rw [hbs], fun i c hc => ?_⟩
  obtain ⟨g, off, h1, h2, h3⟩ := hp i c hc
  exact ⟨g, off, h1, h2, h3⟩

/-- four cells of a version -/
theorem ver_cells {n : Nat} {cs : List Value} {x : DataW H × List MemPlace} (h : DataW.trod enc Try.prog w 0 (fun _ => true) held n 27 cs = some x) :
    ∃ (key : ByteArray) (st : Int) (A : Option Addr) (cap : Nat) (bs : List UInt8) (dead : Bool), cs = [.string key, .int .i64 st, .slice A bs.length cap, .bool dead] ∧ key.size ≤ maxLen ∧ BytesAt w A bs := by
  obtain ⟨hl, hf⟩ := fields_of Try.underlying27 (by kernel_rfl) (by kernel_rfl) h
  obtain ⟨c0, _, _, h0, t0⟩ := hf 0 _ rfl
  obtain ⟨c1, _, _, h1, t1⟩ := hf 1 _ rfl
  obtain ⟨c2, _, _, h2, t2⟩ := hf 2 _ rfl
  obtain ⟨c3, _, _, h3, t3⟩ := hf 3 _ rfl
  obtain ⟨key, rfl, hk⟩ := field_string Try.underlying9 t0
  obtain ⟨st, rfl, _⟩ := field_int Try.underlying3 t1
  obtain ⟨A, cap, bs, rfl, hb⟩ := field_bytes t2
  obtain ⟨dead, rfl⟩ := field_bool Try.underlying4 t3
  refine ⟨key, st, A, cap, bs, dead, ?_, hk, hb⟩
  have hl4 : cs.length = 4 := hl
  match cs, hl4 with
  | [a, b, c, d], _ =>
    simp only [List.getElem?_cons_zero, List.getElem?_cons_succ, Option.some.injEq] at h0 h1 h2 h3
    rw [h0, h1, h2, h3]

/-- a step's cells at a place -/
def StepAt (w : World) (g o : Nat) (x : Stp) (A : Option Addr) (cap : Nat) : Prop :=
  g < w.heap.size ∧ w.cell? ⟨g, o, none⟩ = some (.int .i64 x.kind) ∧ w.cell? ⟨g, o + 1, none⟩ = some (.string x.key) ∧ w.cell? ⟨g, o + 2, none⟩ = some (.int .i64 x.st) ∧ w.cell? ⟨g, o + 3, none⟩ = some (.slice A x.bs.length cap) ∧
    w.cell? ⟨g, o + 4, none⟩ = some (.bool x.dead) ∧ w.cell? ⟨g, o + 5, none⟩ = some (.string x.tt) ∧ BytesAt w A x.bs ∧ x.key.size ≤ maxLen
/-- a script in memory -/
def StepsAt (w : World) (A : Option Addr) (xs : List Stp) : Prop := ∀ (i : Nat) (x : Stp), xs[i]? = some x → ∃ g off Ab cap, A = some ⟨g, off, none⟩ ∧ StepAt w g (off + i * 6) x Ab cap
/-- a list of versions in memory -/
def VersAt (w : World) (A : Option Addr) (xs : List KV) : Prop := ∀ (i : Nat) (x : KV), xs[i]? = some x → ∃ g off Ab cap, A = some ⟨g, off, none⟩ ∧ g < w.heap.size ∧ w.cell? ⟨g, off + i * 4, none⟩ = some (.string x.1) ∧ w.cell? ⟨g, off + i * 4 + 1, none⟩ = some (.int .i64 x.2.st) ∧
    w.cell? ⟨g, off + i * 4 + 2, none⟩ = some (.slice Ab x.2.bs.length cap) ∧ w.cell? ⟨g, off + i * 4 + 3, none⟩ = some (.bool x.2.dead) ∧ BytesAt w Ab x.2.bs ∧ x.1.size ≤ maxLen

theorem StepAt.keep {w w' : World} {g o cap : Nat} {x : Stp} {A : Option Addr} (h : StepAt w g o x A cap) (ho : Only NoneOf w w') : StepAt w' g o x A cap := by
  obtain ⟨h0, h1, h2, h3, h4, h5, h6, h7, h8⟩ := h
  have hc := fun j => ho.cell (p := ⟨g, j, none⟩) h0 (fun h => h)
  exact ⟨Nat.lt_of_lt_of_le h0 ho.size, (hc _).trans h1, (hc _).trans h2, (hc _).trans h3, (hc _).trans h4, (hc _).trans h5, (hc _).trans h6, h7.keep ho, h8⟩
theorem StepsAt.keep {w w' : World} {A : Option Addr} {xs : List Stp} (h : StepsAt w A xs) (ho : Only NoneOf w w') : StepsAt w' A xs := fun i x hx => by
  obtain ⟨g, off, Ab, cap, hA, hs⟩ := h i x hx
  exact ⟨g, off, Ab, cap, hA, hs.keep ho⟩
theorem VersAt.keep {w w' : World} {A : Option Addr} {xs : List KV} (h : VersAt w A xs) (ho : Only NoneOf w w') : VersAt w' A xs := fun i x hx => by
  obtain ⟨g, off, Ab, cap, hA, h0, h1, h2, h3, h4, h5, h6⟩ := h i x hx
  have hc := fun j => ho.cell (p := ⟨g, j, none⟩) h0 (fun h => h)
  exact ⟨g, off, Ab, cap, hA, Nat.lt_of_lt_of_le h0 ho.size, (hc _).trans h1, (hc _).trans h2, (hc _).trans h3, (hc _).trans h4, h5.keep ho, h6⟩

theorem open_steps {v : Value} {d : DataW H} {p : List MemPlace} (hv : ∃ a len cap, v = .slice a len cap) (h : DataW.Trod enc Try.prog w 0 (fun _ => true) held 23 v d p) :
    ∃ A cap, ∃ s : List Stp, v = .slice A s.length cap ∧ (A = none ∧ s.length = 0 ∧ cap = 0 ∨ ∃ D S, d = .slice D S ∧ D.length = s.length ∧ D.length + S.length = cap) ∧ StepsAt w A s := by
  obtain ⟨A, n, cap, rfl, hl, hm, hdd, hi⟩ := open_elems (sz := 6) Try.underlying23 (by kernel_rfl) (by omega) hv h
  have hx : ∀ i, i < n → ∃ x : Stp, ∃ g off Ab cap', A = some ⟨g, off, none⟩ ∧ StepAt w g (off + i * 6) x Ab cap' := by
    intro i hlt
    obtain ⟨blk, off, cs, m, x, hA, hb, hlen, hc, ht⟩ := hi i hlt
    match cs, hlen with
    | [k0, k1, k2, k3, k4, k5], _ =>
      obtain ⟨xs, n', _, _, hcl, hxl, hg⟩ := DataW.trod_struct Try.underlying29 ht
      have e3 : Try.prog.cellsOf 3 = 1 := by kernel_rfl
      have e27 : Try.prog.cellsOf 27 = 4 := by kernel_rfl
      have e9 : Try.prog.cellsOf 9 = 1 := by kernel_rfl
      have g0 : DataW.trod enc Try.prog w 0 (fun _ => true) held n' 3 (([k0, k1, k2, k3, k4, k5].drop 0).take (Try.prog.cellsOf 3)) = xs[0]? := hg 0 _ rfl
      have g1 : DataW.trod enc Try.prog w 0 (fun _ => true) held n' 27 (([k0, k1, k2, k3, k4, k5].drop 1).take (Try.prog.cellsOf 27)) = xs[1]? := hg 1 _ rfl
      have g2 : DataW.trod enc Try.prog w 0 (fun _ => true) held n' 9 (([k0, k1, k2, k3, k4, k5].drop 5).take (Try.prog.cellsOf 9)) = xs[2]? := hg 2 _ rfl
      rw [e3] at g0
      rw [e27] at g1
      rw [e9] at g2
      simp only [List.drop_succ_cons, List.drop_zero, List.take_succ_cons, List.take_zero] at g0 g1 g2
      have hx3 : xs.length = 3 := hxl
      match xs, hx3 with
      | [x0, x1, x2], _ =>
        obtain ⟨kind, rfl, _⟩ := field_int Try.underlying3 g0
        obtain ⟨key, st, Ab, cap', bs, dead, hcs, hk, hby⟩ := ver_cells g1
        obtain ⟨tt, rfl, _⟩ := field_string Try.underlying9 g2
        simp only [List.cons.injEq, and_true] at hcs
        obtain ⟨rfl, rfl, rfl, rfl⟩ := hcs
        exact ⟨⟨kind, key, st, bs, dead, tt⟩, blk, off, Ab, cap', hA, hb, hc 0 _ rfl, hc 1 _ rfl, hc 2 _ rfl, hc 3 _ rfl, hc 4 _ rfl, hc 5 _ rfl, hby, hk⟩
  obtain ⟨s, hs, hp⟩ := list_of n hx
  subst hs
  exact ⟨A, cap, s, rfl, hdd, hp⟩

theorem open_vers {v : Value} {d : DataW H} {p : List MemPlace} (hv : ∃ a len cap, v = .slice a len cap) (h : DataW.Trod enc Try.prog w 0 (fun _ => true) held 31 v d p) :
    ∃ A cap, ∃ s : List KV, v = .slice A s.length cap ∧ (A = none ∧ s.length = 0 ∧ cap = 0 ∨ ∃ D S, d = .slice D S ∧ D.length = s.length ∧ D.length + S.length = cap) ∧ VersAt w A s := by
  obtain ⟨A, n, cap, rfl, hl, hm, hdd, hi⟩ := open_elems (sz := 4) Try.underlying31 (by kernel_rfl) (by omega) hv h
  have hx : ∀ i, i < n → ∃ x : KV, ∃ g off Ab cap', A = some ⟨g, off, none⟩ ∧ g < w.heap.size ∧ w.cell? ⟨g, off + i * 4, none⟩ = some (.string x.1) ∧ w.cell? ⟨g, off + i * 4 + 1, none⟩ = some (.int .i64 x.2.st) ∧
    w.cell? ⟨g, off + i * 4 + 2, none⟩ = some (.slice Ab x.2.bs.length cap') ∧ w.cell? ⟨g, off + i * 4 + 3, none⟩ = some (.bool x.2.dead) ∧ BytesAt w Ab x.2.bs ∧ x.1.size ≤ maxLen := by
    intro i hlt
    obtain ⟨blk, off, cs, m, x, hA, hb, hlen, hc, ht⟩ := hi i hlt
    obtain ⟨key, st, Ab, cap', bs, dead, rfl, hk, hby⟩ := ver_cells ht
    exact ⟨(key, ⟨st, bs, dead⟩), blk, off, Ab, cap', hA, hb, hc 0 _ rfl, hc 1 _ rfl, hc 2 _ rfl, hc 3 _ rfl, hby, hk⟩
  obtain ⟨s, hs, hp⟩ := list_of n hx
  subst hs
  exact ⟨A, cap, s, rfl, hdd, hp⟩
end

/-- A script holds at most so many. -/
theorem steps_few {H : Type} {ts : List TypeId} {ds : List (DataW H)} {A : Option Addr} {n cap : Nat} {d : DataW H} (j : Nat) (h : (DataW.weightsEach Try.prog ts ds).all (· ≤ reachBytes) = true) (ht : ts[j]? = some 23) (hj : ds[j]? = some d)
    (hd : A = none ∧ n = 0 ∧ cap = 0 ∨ ∃ D S, d = .slice D S ∧ D.length = n ∧ D.length + S.length = cap) : n ≤ 1759218604390 := by
  rcases hd with ⟨_, h0, _⟩ | ⟨D, S, rfl, hD, _⟩
  · omega
  · have := sized_slice h ht hj Try.underlying23
    rw [show Try.prog.bytesOf 29 = 80 by kernel_rfl] at this
    unfold reachBytes at this
    omega
theorem vers_few {H : Type} {ts : List TypeId} {ds : List (DataW H)} {A : Option Addr} {n cap : Nat} {d : DataW H} (j : Nat) (h : (DataW.weightsEach Try.prog ts ds).all (· ≤ reachBytes) = true) (ht : ts[j]? = some 31) (hj : ds[j]? = some d)
    (hd : A = none ∧ n = 0 ∧ cap = 0 ∨ ∃ D S, d = .slice D S ∧ D.length = n ∧ D.length + S.length = cap) : n ≤ 2513169434843 := by
  rcases hd with ⟨_, h0, _⟩ | ⟨D, S, rfl, hD, _⟩
  · omega
  · have := sized_slice h ht hj Try.underlying31
    rw [show Try.prog.bytesOf 27 = 56 by kernel_rfl] at this
    unfold reachBytes at this
    omega

end Go.Proofs.Ytnonnencdhogiaa
