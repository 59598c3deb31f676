/-
  Layer 14's law: call: what a store tells.
-/
import Derived.Test.YtnonnencdhogiaaS24
namespace Go.Proofs.Ytnonnencdhogiaa
open Go.RowKit

/-- a call -/
structure Stp where
  kind : Int
  key : ByteArray
  st : Int
  bs : List UInt8
  dead : Bool
  tt : ByteArray
abbrev stepC (k : Int) (key : ByteArray) (st : Int) (v : Value) (dead : Bool) (tt : ByteArray) : Array Value := #[.int .i64 k, .string key, .int .i64 st, v, .bool dead, .string tt]

/-- what it tells -/
def ansR (R : List KV) (x : Stp) : An :=
  if x.kind = 0 then { e := codeR R x.key ⟨x.st, x.bs, x.dead⟩ }
  else if x.kind = 1 then (match found (verR R x.key) x.st with | none => {} | some b => { b := b, is := true })
  else if x.kind = 2 then (match (verR R x.key).getLast? with | none => {} | some y => { n := y.st, is := true })
  else if x.kind = 3 then { pairs := scanR R x.key x.tt x.st }
  else if x.kind = 4 then { n := (R.length - (vacR R x.st).length : Nat) }
  else if x.kind = 5 then { n := liveR R }
  else if x.kind = 6 then { n := (keysR R).length, m := R.length }
  else if x.kind = 7 then { l := versR R }
  else {}
/-- what came, behind it -/
def stepR (R : List KV) (x : Stp) : List KV :=
  if x.kind = 0 then afterR R x.key ⟨x.st, x.bs, x.dead⟩ else if x.kind = 4 then vacR R x.st else R

/-- a told thing that stays, whatever turns below lo -/
def TStay (lo : Nat) (w : World) (cs : Array Value) (x : An) : Prop := ∀ (S : Nat → Prop) (w' : World), Only S w w' → (∀ k, S k → k < lo) → TAt w' cs x
theorem TStay.at {lo : Nat} {w : World} {cs : Array Value} {x : An} (h : TStay lo w cs x) : TAt w cs x := h NoneOf w (Only.refl _ _) (fun _ h => h.elim)
theorem tstay_plain (lo : Nat) (w : World) (e n m : Int) (is : Bool) : TStay lo w (tellC e n m is (.slice none 0 0) (.slice none 0 0) (.slice none 0 0)) { e := e, n := n, m := m, is := is } :=
  fun _ w' _ _ => ⟨_, _, _, rfl, bytesV_nil w', listAt_nil _ _ w', listAt_nil _ _ w'⟩
theorem listAt_pairs {w : World} {base : Nat} {v : Value} {rs : List PRow} (h : PRows w base v rs) : ListAt 2 PairE w v (rs.map PRow.plain) := by
  obtain ⟨A, c, rfl⟩ := ownsRow_slice h.own
  refine ⟨A, c, by simp, fun i x hx => ?_⟩
  rw [List.getElem?_map] at hx
  obtain ⟨r, hr, rfl⟩ := Option.map_eq_some_iff.1 hx
  obtain ⟨g, rfl⟩ : ∃ g, A = some ⟨g, 0, none⟩ := by
    rcases h.own.2 with ⟨h0, h1⟩ | ⟨g, cap, cur, hv, _⟩
    · rw [List.eq_nil_of_length_eq_zero h1] at hr; cases hr
    · injection hv with hv1; exact ⟨g, hv1⟩
  obtain ⟨A', c', hv', hb⟩ := (h.vals r (List.mem_of_getElem? hr)).at
  refine ⟨g, 0, r.cells, rfl, (ownsRow_lt h.own (g := g) rfl).2, fun j c hj => ?_, rfl, A', c', by simp [PRow.cells, PRow.plain, hv'], hb⟩
  have hj2 : j < 2 := (List.getElem?_eq_some_iff.1 hj).1
  rw [Nat.zero_add, h.cell (fun _ => rfl) hr hj2]
  exact hj
theorem VRows.cell {w : World} {base g n c : Nat} {rs : List VRow} (h : VRows w base (.slice (some ⟨g, 0, none⟩) n c) rs) {i : Nat} {r : VRow} (hr : rs[i]? = some r) {j : Nat} (hj : j < 4) : w.cell? ⟨g, i * 4 + j, none⟩ = r.cells[j]? :=
  BRows.cell (α := VRow) (t := 27) (sz := 4) (cells := VRow.cells) (val := VRow.val) (bs := VRow.bs) ⟨h.own, h.val, h.apart, h.dist⟩ (fun _ => rfl) hr hj
theorem listAt_vers {w : World} {base : Nat} {v : Value} {rs : List VRow} (h : VRows w base v rs) : ListAt 4 VerE w v (rs.map VRow.plain) := by
  obtain ⟨A, c, rfl⟩ := ownsRow_slice h.own
  refine ⟨A, c, by simp, fun i x hx => ?_⟩
  rw [List.getElem?_map] at hx
  obtain ⟨r, hr, rfl⟩ := Option.map_eq_some_iff.1 hx
  obtain ⟨g, rfl⟩ : ∃ g, A = some ⟨g, 0, none⟩ := by
    rcases h.own.2 with ⟨h0, h1⟩ | ⟨g, cap, cur, hv, _⟩
    · rw [List.eq_nil_of_length_eq_zero h1] at hr; cases hr
    · injection hv with hv1; exact ⟨g, hv1⟩
  obtain ⟨A', c', hv', hb⟩ := (h.val r (List.mem_of_getElem? hr)).at
  refine ⟨g, 0, r.cells, rfl, (ownsRow_lt h.own (g := g) rfl).2, fun j c hj => ?_, rfl, A', c', by simp [VRow.cells, VRow.plain, hv'], hb⟩
  have hj2 : j < 4 := (List.getElem?_eq_some_iff.1 hj).1
  rw [Nat.zero_add, h.cell hr hj2]
  exact hj

theorem info33 : (Try.prog.info? 33).map (·.size) = some 7 := by kernel_rfl
theorem one_tell (e n m : Int) (is : Bool) (A1 A2 A3 : Option Addr) (n1 n2 n3 c1 c2 c3 : Nat) : (tellC e n m is (.slice A1 n1 c1) (.slice A2 n2 c2) (.slice A3 n3 c3)).all (·.oneCell') = true := by simp [Value.oneCell']

theorem liveIs2 (w : World) (s N : Nat) (T U : Nat → Prop) (R : List KV) (h : StoR w s T U R N) : Calls Try.prog 34 #[.pointer (some ⟨s, 0, none⟩)] w fun e w' => e = .returned (.int .i64 (liveR R)) ∧ Only NoneOf w w' :=
  (liveIs w s N T U R h).mono fun _ _ ⟨he, hw⟩ => ⟨he, hw ▸ Only.refl _ _⟩

/-- How call ends. -/
def CallPost (s N : Nat) (T U : Nat → Prop) (R : List KV) (x : Stp) (w : World) (e : Ending) (w' : World) : Prop :=
  ∃ cs T', e = .returned (.agg cs) ∧ TStay w.heap.size w' cs (ansR R x) ∧ StoR w' s T' U (stepR R x) (N + 1) ∧ Only T w w' ∧ ∀ k, T' k → T k ∨ w.heap.size ≤ k

theorem StoR.more {w : World} {s N N' : Nat} {T U : Nat → Prop} {R : List KV} (h : StoR w s T U R N) (hN : N ≤ N') : StoR w s T U R N' := by
  obtain ⟨m, n, D, C, h1, h2, h3, h4, h5⟩ := h
  exact ⟨m, n, D, C, h1, h2, h3, by omega, by omega⟩


set_option maxRecDepth 100000 in
set_option maxHeartbeats 4000000 in
theorem call_0 (w : World) (s N : Nat) (T U : Nat → Prop) (R : List KV) (h : StoR w s T U R N) (hN : N < NMAX) (x : Stp) (A : Option Addr) (cc : Nat) (hk : x.kind = 0) (hkey : x.key.size ≤ maxLen) (hby : BytesAt w A x.bs) :
    Calls Try.prog 17 #[.pointer (some ⟨s, 0, none⟩), .agg (stepC x.kind x.key x.st (.slice A x.bs.length cc) x.dead x.tt)] w (CallPost s N T U R x w) := by
  obtain ⟨kind, key, st, bs, dead, tt⟩ := x
  simp only at hk hkey hby ⊢
  subst hk
  obtain ⟨nn, hnn⟩ : ∃ nn, bs.length = nn := ⟨_, rfl⟩
  rw [hnn]
  have hlt := fun k hk => h.lt (k := k) hk
  have hO : Only NoneOf w (((w.alloc (.cells (stepC 0 key st (.slice A nn cc) dead tt) 29)).alloc (.cells (tellC 0 0 0 false (.slice none 0 0) (.slice none 0 0) (.slice none 0 0)) 33)).alloc (.cells (tellC 0 0 0 false (.slice none 0 0) (.slice none 0 0) (.slice none 0 0)) 33)) := (((Only.refl _ _).alloc _).alloc _).alloc _
  have hB3 := ((Blk.new w 29 (stepC 0 key st (.slice A nn cc) dead tt)).alloc (.cells (tellC 0 0 0 false (.slice none 0 0) (.slice none 0 0) (.slice none 0 0)) 33)).alloc (.cells (tellC 0 0 0 false (.slice none 0 0) (.slice none 0 0) (.slice none 0 0)) 33)
  have hB4 := (Blk.new' (w.alloc (.cells (stepC 0 key st (.slice A nn cc) dead tt) 29)) 33 (tellC 0 0 0 false (.slice none 0 0) (.slice none 0 0) (.slice none 0 0)) (n := w.heap.size + 1) (by simp)).alloc (.cells (tellC 0 0 0 false (.slice none 0 0) (.slice none 0 0) (.slice none 0 0)) 33)
  have hB5 := Blk.new' ((w.alloc (.cells (stepC 0 key st (.slice A nn cc) dead tt) 29)).alloc (.cells (tellC 0 0 0 false (.slice none 0 0) (.slice none 0 0) (.slice none 0 0)) 33)) 33 (tellC 0 0 0 false (.slice none 0 0) (.slice none 0 0) (.slice none 0 0)) (n := w.heap.size + 1 + 1) (by simp)
  have HO := Lib.hid hO
  have HS := Lib.hid (h.other (U' := fun k => U k ∨ k = w.heap.size + 1 ∨ k = w.heap.size + 1 + 1) hO (fun _ h => h.elim) (fun k hk => by
    have hsz : (((w.alloc (.cells (stepC 0 key st (.slice A nn cc) dead tt) 29)).alloc (.cells (tellC 0 0 0 false (.slice none 0 0) (.slice none 0 0) (.slice none 0 0)) 33)).alloc (.cells (tellC 0 0 0 false (.slice none 0 0) (.slice none 0 0) (.slice none 0 0)) 33)).heap.size = w.heap.size + 3 := by simp
    rw [hsz]
    rcases hk with hk | hk | hk
    · have := h.ult hk; exact ⟨by omega, .inl hk⟩
    · exact ⟨by omega, .inr (by omega)⟩
    · exact ⟨by omega, .inr (by omega)⟩))
  have HB4 := Lib.hid hB4
  have HB5 := Lib.hid hB5
  have HBY := Lib.hid (hby.keep hO)
  have c0 := hB3.cellv 0 rfl
  have c1 := hB3.cellv 1 rfl
  have c2 := hB3.cellv 2 rfl
  have c3 := hB3.cellv 3 rfl
  have c4 := hB3.cellv 4 rfl
  have c5 := hB3.cellv 5 rfl
  have h0 := h
  clear hO hB3 hB4 hB5 hby h
  go_enter Try.func17, Try.ntmps17
  go_wp2_with fail
  refine (applyR _ s N T _ R HS.out hN key st A nn cc dead bs hnn HBY.out).mono ?_; rintro e w4 ⟨rfl, T', hS4, hO4, hT4⟩
  have HO4 := Lib.hid hO4
  have hsz4 := hO4.size
  have hz4 : w.heap.size + 3 ≤ w4.heap.size := by simpa using hsz4
  have B4 := HB4.out.only hO4 (fun hk => by have := hlt _ hk; omega)
  have B5 := HB5.out.only hO4 (fun hk => by have := hlt _ hk; omega)
  have HS4 := Lib.hid hS4
  have HT4 := Lib.hid hT4
  clear hS4 hT4
  have f0 := B5.free 0
  have k0 := B5.cellv 0 rfl
  have F5 := Lib.hid (B5.put 0 (.int .i64 (codeR R key ⟨st, bs, dead⟩)))
  have F4 := Lib.hid (B4.far (p := ⟨w.heap.size + 1 + 1, 0, none⟩) (by simp) (.int .i64 (codeR R key ⟨st, bs, dead⟩)))
  have FR := Lib.hid (F4.out.row #[.int .i64 (codeR R key ⟨st, bs, dead⟩), .int .i64 0, .int .i64 0, .bool false, .slice none 0 0, .slice none 0 0, .slice none 0 0])
  have FO := Lib.hid (((Only.refl (fun k => k = w.heap.size + 1 ∨ k = w.heap.size + 1 + 1) w4).put (p := ⟨w.heap.size + 1 + 1, 0, none⟩) (.inl (.inr rfl)) (.int .i64 (codeR R key ⟨st, bs, dead⟩))).row (b := w.heap.size + 1) (.inl (.inl rfl)) #[.int .i64 (codeR R key ⟨st, bs, dead⟩), .int .i64 0, .int .i64 0, .bool false, .slice none 0 0, .slice none 0 0, .slice none 0 0])
  clear B4 B5 hO4
  go_wp2_with (first | (refine wpList_load_row rfl 33 (.tmp 5) rfl (w.heap.size + 1 + 1) rfl 33 _ (0, 0) _ F5.out Try.underlying33 rfl info33 ?_) | (refine wpList_store_row rfl 33 (.tmp 4) (.tmp 82) rfl (w.heap.size + 1) #[.int .i64 (codeR R key ⟨st, bs, dead⟩), .int .i64 0, .int .i64 0, .bool false, .slice none 0 0, .slice none 0 0, .slice none 0 0] rfl rfl 33 (tellC 0 0 0 false (.slice none 0 0) (.slice none 0 0) (.slice none 0 0)) F4.out info33 rfl (by simp [Value.oneCell']) ?_) | fail)
  refine bodyPost_ret (v := .agg #[.int .i64 (codeR R key ⟨st, bs, dead⟩), .int .i64 0, .int .i64 0, .bool false, .slice none 0 0, .slice none 0 0, .slice none 0 0]) (results_cell_row rfl _ _ _ 33 _ (0, 0) _ rfl FR.out Try.underlying33 rfl info33) rfl ⟨_, T', rfl, ?_, ?_, ?_, fun k hk => by rcases HT4.out k hk with h | h; exact .inl h; exact .inr (by have := HO.out.size; omega)⟩
  · exact tstay_plain _ _ _ _ _ _
  · have hfin := HS4.out.other (U' := U) FO.out (fun k hk => .inr hk) (fun k hk => ⟨by have := (h0.ult hk); have := FO.out.size; omega, .inl (.inl hk)⟩)
    exact hfin
  · refine ((HO.out.mono (S' := T) (fun _ _ h => h.elim)).step HO4.out (fun k hk h => h)).step FO.out (fun k hk e => by omega)

set_option maxRecDepth 100000 in
set_option maxHeartbeats 4000000 in
theorem call_4 (w : World) (s N : Nat) (T U : Nat → Prop) (R : List KV) (h : StoR w s T U R N) (hN : N < NMAX) (x : Stp) (A : Option Addr) (cc : Nat) (hk : x.kind = 4) (hkey : x.key.size ≤ maxLen) (hby : BytesAt w A x.bs) :
    Calls Try.prog 17 #[.pointer (some ⟨s, 0, none⟩), .agg (stepC x.kind x.key x.st (.slice A x.bs.length cc) x.dead x.tt)] w (CallPost s N T U R x w) := by
  obtain ⟨kind, key, st, bs, dead, tt⟩ := x
  simp only at hk hkey hby ⊢
  subst hk
  obtain ⟨nn, hnn⟩ : ∃ nn, bs.length = nn := ⟨_, rfl⟩
  rw [hnn]
  have hlt := fun k hk => h.lt (k := k) hk
  have hO : Only NoneOf w (((w.alloc (.cells (stepC 4 key st (.slice A nn cc) dead tt) 29)).alloc (.cells (tellC 0 0 0 false (.slice none 0 0) (.slice none 0 0) (.slice none 0 0)) 33)).alloc (.cells (tellC 0 0 0 false (.slice none 0 0) (.slice none 0 0) (.slice none 0 0)) 33)) := (((Only.refl _ _).alloc _).alloc _).alloc _
  have hB3 := ((Blk.new w 29 (stepC 4 key st (.slice A nn cc) dead tt)).alloc (.cells (tellC 0 0 0 false (.slice none 0 0) (.slice none 0 0) (.slice none 0 0)) 33)).alloc (.cells (tellC 0 0 0 false (.slice none 0 0) (.slice none 0 0) (.slice none 0 0)) 33)
  have hB4 := (Blk.new' (w.alloc (.cells (stepC 4 key st (.slice A nn cc) dead tt) 29)) 33 (tellC 0 0 0 false (.slice none 0 0) (.slice none 0 0) (.slice none 0 0)) (n := w.heap.size + 1) (by simp)).alloc (.cells (tellC 0 0 0 false (.slice none 0 0) (.slice none 0 0) (.slice none 0 0)) 33)
  have hB5 := Blk.new' ((w.alloc (.cells (stepC 4 key st (.slice A nn cc) dead tt) 29)).alloc (.cells (tellC 0 0 0 false (.slice none 0 0) (.slice none 0 0) (.slice none 0 0)) 33)) 33 (tellC 0 0 0 false (.slice none 0 0) (.slice none 0 0) (.slice none 0 0)) (n := w.heap.size + 1 + 1) (by simp)
  have HO := Lib.hid hO
  have HS := Lib.hid (h.other (U' := fun k => U k ∨ k = w.heap.size + 1 ∨ k = w.heap.size + 1 + 1) hO (fun _ h => h.elim) (fun k hk => by
    have hsz : (((w.alloc (.cells (stepC 4 key st (.slice A nn cc) dead tt) 29)).alloc (.cells (tellC 0 0 0 false (.slice none 0 0) (.slice none 0 0) (.slice none 0 0)) 33)).alloc (.cells (tellC 0 0 0 false (.slice none 0 0) (.slice none 0 0) (.slice none 0 0)) 33)).heap.size = w.heap.size + 3 := by simp
    rw [hsz]
    rcases hk with hk | hk | hk
    · have := h.ult hk; exact ⟨by omega, .inl hk⟩
    · exact ⟨by omega, .inr (by omega)⟩
    · exact ⟨by omega, .inr (by omega)⟩))
  have HB4 := Lib.hid hB4
  have HB5 := Lib.hid hB5
  have HBY := Lib.hid (hby.keep hO)
  have c0 := hB3.cellv 0 rfl
  have c1 := hB3.cellv 1 rfl
  have c2 := hB3.cellv 2 rfl
  have c3 := hB3.cellv 3 rfl
  have c4 := hB3.cellv 4 rfl
  have c5 := hB3.cellv 5 rfl
  have h0 := h
  clear hO hB3 hB4 hB5 hby h
  go_enter Try.func17, Try.ntmps17
  go_wp2_with fail
  refine (vacuumR _ s N T _ R HS.out (by omega) st).mono ?_; rintro e w4 ⟨rfl, T', hS4, hO4, hT4⟩
  have HO4 := Lib.hid hO4
  have hsz4 := hO4.size
  have hz4 : w.heap.size + 3 ≤ w4.heap.size := by simpa using hsz4
  have B4 := HB4.out.only hO4 (fun hk => by have := hlt _ hk; omega)
  have B5 := HB5.out.only hO4 (fun hk => by have := hlt _ hk; omega)
  have HS4 := Lib.hid hS4
  have HT4 := Lib.hid hT4
  clear hS4 hT4
  generalize hgn : ((R.length - (vacR R st).length : Nat) : Int) = gn at *
  have f1 := B5.free 1
  have k1 := B5.cellv 1 rfl
  have F5 := Lib.hid (B5.put 1 (.int .i64 gn))
  have F4 := Lib.hid (B4.far (p := ⟨w.heap.size + 1 + 1, 1, none⟩) (by simp) (.int .i64 gn))
  have FR := Lib.hid (F4.out.row #[.int .i64 0, .int .i64 gn, .int .i64 0, .bool false, .slice none 0 0, .slice none 0 0, .slice none 0 0])
  have FO := Lib.hid (((Only.refl (fun k => k = w.heap.size + 1 ∨ k = w.heap.size + 1 + 1) w4).put (p := ⟨w.heap.size + 1 + 1, 1, none⟩) (.inl (.inr rfl)) (.int .i64 gn)).row (b := w.heap.size + 1) (.inl (.inl rfl)) #[.int .i64 0, .int .i64 gn, .int .i64 0, .bool false, .slice none 0 0, .slice none 0 0, .slice none 0 0])
  clear B4 B5 hO4
  go_wp2_with (first | (refine wpList_load_row rfl 33 (.tmp 5) rfl (w.heap.size + 1 + 1) rfl 33 _ (0, 0) _ F5.out Try.underlying33 rfl info33 ?_) | (refine wpList_store_row rfl 33 (.tmp 4) (.tmp 82) rfl (w.heap.size + 1) #[.int .i64 0, .int .i64 gn, .int .i64 0, .bool false, .slice none 0 0, .slice none 0 0, .slice none 0 0] rfl rfl 33 (tellC 0 0 0 false (.slice none 0 0) (.slice none 0 0) (.slice none 0 0)) F4.out info33 rfl (by simp [Value.oneCell']) ?_) | fail)
  refine bodyPost_ret (v := .agg #[.int .i64 0, .int .i64 gn, .int .i64 0, .bool false, .slice none 0 0, .slice none 0 0, .slice none 0 0]) (results_cell_row rfl _ _ _ 33 _ (0, 0) _ rfl FR.out Try.underlying33 rfl info33) rfl ⟨_, T', rfl, ?_, ?_, ?_, fun k hk => by rcases HT4.out k hk with h | h; exact .inl h; exact .inr (by have := HO.out.size; omega)⟩
  · subst hgn; exact tstay_plain _ _ _ _ _ _
  · have hfin := HS4.out.other (U' := U) FO.out (fun k hk => .inr hk) (fun k hk => ⟨by have := (h0.ult hk); have := FO.out.size; omega, .inl (.inl hk)⟩)
    exact hfin.more (by omega)
  · refine ((HO.out.mono (S' := T) (fun _ _ h => h.elim)).step HO4.out (fun k hk h => h)).step FO.out (fun k hk e => by omega)

set_option maxRecDepth 100000 in
set_option maxHeartbeats 4000000 in
theorem call_5 (w : World) (s N : Nat) (T U : Nat → Prop) (R : List KV) (h : StoR w s T U R N) (_ : N < NMAX) (x : Stp) (A : Option Addr) (cc : Nat) (hk : x.kind = 5) (hkey : x.key.size ≤ maxLen) (hby : BytesAt w A x.bs) :
    Calls Try.prog 17 #[.pointer (some ⟨s, 0, none⟩), .agg (stepC x.kind x.key x.st (.slice A x.bs.length cc) x.dead x.tt)] w (CallPost s N T U R x w) := by
  obtain ⟨kind, key, st, bs, dead, tt⟩ := x
  simp only at hk hkey hby ⊢
  subst hk
  obtain ⟨nn, hnn⟩ : ∃ nn, bs.length = nn := ⟨_, rfl⟩
  rw [hnn]
  have hlt := fun k hk => h.lt (k := k) hk
  have hO : Only NoneOf w (((w.alloc (.cells (stepC 5 key st (.slice A nn cc) dead tt) 29)).alloc (.cells (tellC 0 0 0 false (.slice none 0 0) (.slice none 0 0) (.slice none 0 0)) 33)).alloc (.cells (tellC 0 0 0 false (.slice none 0 0) (.slice none 0 0) (.slice none 0 0)) 33)) := (((Only.refl _ _).alloc _).alloc _).alloc _
  have hB3 := ((Blk.new w 29 (stepC 5 key st (.slice A nn cc) dead tt)).alloc (.cells (tellC 0 0 0 false (.slice none 0 0) (.slice none 0 0) (.slice none 0 0)) 33)).alloc (.cells (tellC 0 0 0 false (.slice none 0 0) (.slice none 0 0) (.slice none 0 0)) 33)
  have hB4 := (Blk.new' (w.alloc (.cells (stepC 5 key st (.slice A nn cc) dead tt) 29)) 33 (tellC 0 0 0 false (.slice none 0 0) (.slice none 0 0) (.slice none 0 0)) (n := w.heap.size + 1) (by simp)).alloc (.cells (tellC 0 0 0 false (.slice none 0 0) (.slice none 0 0) (.slice none 0 0)) 33)
  have hB5 := Blk.new' ((w.alloc (.cells (stepC 5 key st (.slice A nn cc) dead tt) 29)).alloc (.cells (tellC 0 0 0 false (.slice none 0 0) (.slice none 0 0) (.slice none 0 0)) 33)) 33 (tellC 0 0 0 false (.slice none 0 0) (.slice none 0 0) (.slice none 0 0)) (n := w.heap.size + 1 + 1) (by simp)
  have HO := Lib.hid hO
  have HS := Lib.hid (h.keep hO)
  have HB4 := Lib.hid hB4
  have HB5 := Lib.hid hB5
  have HBY := Lib.hid (hby.keep hO)
  have c0 := hB3.cellv 0 rfl
  have c1 := hB3.cellv 1 rfl
  have c2 := hB3.cellv 2 rfl
  have c3 := hB3.cellv 3 rfl
  have c4 := hB3.cellv 4 rfl
  have c5 := hB3.cellv 5 rfl
  have h0 := h
  clear hO hB3 hB4 hB5 hby h
  go_enter Try.func17, Try.ntmps17
  go_wp2_with fail
  refine (liveIs2 _ s N T _ R HS.out).mono ?_; rintro e w4 ⟨rfl, hO4⟩
  have HO4 := Lib.hid hO4
  have hsz4 := hO4.size
  have hz4 : w.heap.size + 3 ≤ w4.heap.size := by simpa using hsz4
  have B4 := HB4.out.only hO4 (fun h => h)
  have B5 := HB5.out.only hO4 (fun h => h)
  have f1 := B5.free 1
  have k1 := B5.cellv 1 rfl
  have F5 := Lib.hid (B5.put 1 (.int .i64 (liveR R)))
  have F4 := Lib.hid (B4.far (p := ⟨w.heap.size + 1 + 1, 1, none⟩) (by simp) (.int .i64 (liveR R)))
  have FR := Lib.hid (F4.out.row #[.int .i64 0, .int .i64 (liveR R), .int .i64 0, .bool false, .slice none 0 0, .slice none 0 0, .slice none 0 0])
  have FO := Lib.hid (((Only.refl (fun k => k = w.heap.size + 1 ∨ k = w.heap.size + 1 + 1) w4).put (p := ⟨w.heap.size + 1 + 1, 1, none⟩) (.inl (.inr rfl)) (.int .i64 (liveR R))).row (b := w.heap.size + 1) (.inl (.inl rfl)) #[.int .i64 0, .int .i64 (liveR R), .int .i64 0, .bool false, .slice none 0 0, .slice none 0 0, .slice none 0 0])
  clear B4 B5 hO4
  go_wp2_with (first | (refine wpList_load_row rfl 33 (.tmp 5) rfl (w.heap.size + 1 + 1) rfl 33 _ (0, 0) _ F5.out Try.underlying33 rfl info33 ?_) | (refine wpList_store_row rfl 33 (.tmp 4) (.tmp 82) rfl (w.heap.size + 1) #[.int .i64 0, .int .i64 (liveR R), .int .i64 0, .bool false, .slice none 0 0, .slice none 0 0, .slice none 0 0] rfl rfl 33 (tellC 0 0 0 false (.slice none 0 0) (.slice none 0 0) (.slice none 0 0)) F4.out info33 rfl (by simp [Value.oneCell']) ?_) | fail)
  refine bodyPost_ret (v := .agg #[.int .i64 0, .int .i64 (liveR R), .int .i64 0, .bool false, .slice none 0 0, .slice none 0 0, .slice none 0 0]) (results_cell_row rfl _ _ _ 33 _ (0, 0) _ rfl FR.out Try.underlying33 rfl info33) rfl ⟨_, T, rfl, ?_, ?_, ?_, fun k hk => .inl hk⟩
  · exact tstay_plain _ _ _ _ _ _
  · exact (h0.keep ((HO.out.trans HO4.out).step FO.out (fun k hk e => by omega))).more (by omega)
  · exact ((HO.out.trans HO4.out).step FO.out (fun k hk e => by omega)).mono (fun _ _ h => h.elim)

set_option maxRecDepth 100000 in
set_option maxHeartbeats 4000000 in
theorem call_6 (w : World) (s N : Nat) (T U : Nat → Prop) (R : List KV) (h : StoR w s T U R N) (hN : N < NMAX) (x : Stp) (A : Option Addr) (cc : Nat) (hk : x.kind = 6) (hkey : x.key.size ≤ maxLen) (hby : BytesAt w A x.bs) :
    Calls Try.prog 17 #[.pointer (some ⟨s, 0, none⟩), .agg (stepC x.kind x.key x.st (.slice A x.bs.length cc) x.dead x.tt)] w (CallPost s N T U R x w) := by
  obtain ⟨kind, key, st, bs, dead, tt⟩ := x
  simp only at hk hkey hby ⊢
  subst hk
  obtain ⟨nn, hnn⟩ : ∃ nn, bs.length = nn := ⟨_, rfl⟩
  rw [hnn]
  have hlt := fun k hk => h.lt (k := k) hk
  have hO : Only NoneOf w (((w.alloc (.cells (stepC 6 key st (.slice A nn cc) dead tt) 29)).alloc (.cells (tellC 0 0 0 false (.slice none 0 0) (.slice none 0 0) (.slice none 0 0)) 33)).alloc (.cells (tellC 0 0 0 false (.slice none 0 0) (.slice none 0 0) (.slice none 0 0)) 33)) := (((Only.refl _ _).alloc _).alloc _).alloc _
  have hB3 := ((Blk.new w 29 (stepC 6 key st (.slice A nn cc) dead tt)).alloc (.cells (tellC 0 0 0 false (.slice none 0 0) (.slice none 0 0) (.slice none 0 0)) 33)).alloc (.cells (tellC 0 0 0 false (.slice none 0 0) (.slice none 0 0) (.slice none 0 0)) 33)
  have hB4 := (Blk.new' (w.alloc (.cells (stepC 6 key st (.slice A nn cc) dead tt) 29)) 33 (tellC 0 0 0 false (.slice none 0 0) (.slice none 0 0) (.slice none 0 0)) (n := w.heap.size + 1) (by simp)).alloc (.cells (tellC 0 0 0 false (.slice none 0 0) (.slice none 0 0) (.slice none 0 0)) 33)
  have hB5 := Blk.new' ((w.alloc (.cells (stepC 6 key st (.slice A nn cc) dead tt) 29)).alloc (.cells (tellC 0 0 0 false (.slice none 0 0) (.slice none 0 0) (.slice none 0 0)) 33)) 33 (tellC 0 0 0 false (.slice none 0 0) (.slice none 0 0) (.slice none 0 0)) (n := w.heap.size + 1 + 1) (by simp)
  have HO := Lib.hid hO
  have HS := Lib.hid (h.keep hO)
  have HB4 := Lib.hid hB4
  have HB5 := Lib.hid hB5
  have HBY := Lib.hid (hby.keep hO)
  have c0 := hB3.cellv 0 rfl
  have c1 := hB3.cellv 1 rfl
  have c2 := hB3.cellv 2 rfl
  have c3 := hB3.cellv 3 rfl
  have c4 := hB3.cellv 4 rfl
  have c5 := hB3.cellv 5 rfl
  have h0 := h
  clear hO hB3 hB4 hB5 hby h
  go_enter Try.func17, Try.ntmps17
  go_wp2_with fail
  refine (lenR _ s N T _ R HS.out (by omega)).mono ?_; rintro e w4 ⟨rfl, hO4⟩
  have HO4 := Lib.hid hO4
  have hsz4 := hO4.size
  have hz4 : w.heap.size + 3 ≤ w4.heap.size := by simpa using hsz4
  have B4 := HB4.out.only hO4 (fun h => h)
  have B5 := HB5.out.only hO4 (fun h => h)
  generalize hg1 : (((keysR R).length : Nat) : Int) = g1 at *
  generalize hg2 : ((R.length : Nat) : Int) = g2 at *
  have f1 := B5.free 1
  have k1 := B5.cellv 1 rfl
  have f2 := B5.free 2
  have k2 := B5.cellv 2 rfl
  have F5 := Lib.hid ((B5.put 1 (.int .i64 g1)).put 2 (.int .i64 g2))
  have F4 := Lib.hid ((B4.far (p := ⟨w.heap.size + 1 + 1, 1, none⟩) (by simp) (.int .i64 g1)).far (p := ⟨w.heap.size + 1 + 1, 2, none⟩) (by simp) (.int .i64 g2))
  have FR := Lib.hid (F4.out.row #[.int .i64 0, .int .i64 g1, .int .i64 g2, .bool false, .slice none 0 0, .slice none 0 0, .slice none 0 0])
  have FO := Lib.hid ((((Only.refl (fun k => k = w.heap.size + 1 ∨ k = w.heap.size + 1 + 1) w4).put (p := ⟨w.heap.size + 1 + 1, 1, none⟩) (.inl (.inr rfl)) (.int .i64 g1)).put (p := ⟨w.heap.size + 1 + 1, 2, none⟩) (.inl (.inr rfl)) (.int .i64 g2)).row (b := w.heap.size + 1) (.inl (.inl rfl)) #[.int .i64 0, .int .i64 g1, .int .i64 g2, .bool false, .slice none 0 0, .slice none 0 0, .slice none 0 0])
  clear B4 B5 hO4
  go_wp2_with (first | (refine wpList_load_row rfl 33 (.tmp 5) rfl (w.heap.size + 1 + 1) rfl 33 _ (0, 0) _ F5.out Try.underlying33 rfl info33 ?_) | (refine wpList_store_row rfl 33 (.tmp 4) (.tmp 82) rfl (w.heap.size + 1) #[.int .i64 0, .int .i64 g1, .int .i64 g2, .bool false, .slice none 0 0, .slice none 0 0, .slice none 0 0] rfl rfl 33 (tellC 0 0 0 false (.slice none 0 0) (.slice none 0 0) (.slice none 0 0)) F4.out info33 rfl (by simp [Value.oneCell']) ?_) | fail)
  refine bodyPost_ret (v := .agg #[.int .i64 0, .int .i64 g1, .int .i64 g2, .bool false, .slice none 0 0, .slice none 0 0, .slice none 0 0]) (results_cell_row rfl _ _ _ 33 _ (0, 0) _ rfl FR.out Try.underlying33 rfl info33) rfl ⟨_, T, rfl, ?_, ?_, ?_, fun k hk => .inl hk⟩
  · subst hg1; subst hg2; exact tstay_plain _ _ _ _ _ _
  · exact (h0.keep ((HO.out.trans HO4.out).step FO.out (fun k hk e => by omega))).more (by omega)
  · exact ((HO.out.trans HO4.out).step FO.out (fun k hk e => by omega)).mono (fun _ _ h => h.elim)

set_option maxRecDepth 100000 in
set_option maxHeartbeats 4000000 in
theorem call_1 (w : World) (s N : Nat) (T U : Nat → Prop) (R : List KV) (h : StoR w s T U R N) (_ : N < NMAX) (x : Stp) (A : Option Addr) (cc : Nat) (hk : x.kind = 1) (hkey : x.key.size ≤ maxLen) (hby : BytesAt w A x.bs) :
    Calls Try.prog 17 #[.pointer (some ⟨s, 0, none⟩), .agg (stepC x.kind x.key x.st (.slice A x.bs.length cc) x.dead x.tt)] w (CallPost s N T U R x w) := by
  obtain ⟨kind, key, st, bs, dead, tt⟩ := x
  simp only at hk hkey hby ⊢
  subst hk
  obtain ⟨nn, hnn⟩ : ∃ nn, bs.length = nn := ⟨_, rfl⟩
  rw [hnn]
  have hlt := fun k hk => h.lt (k := k) hk
  have hO : Only NoneOf w (((w.alloc (.cells (stepC 1 key st (.slice A nn cc) dead tt) 29)).alloc (.cells (tellC 0 0 0 false (.slice none 0 0) (.slice none 0 0) (.slice none 0 0)) 33)).alloc (.cells (tellC 0 0 0 false (.slice none 0 0) (.slice none 0 0) (.slice none 0 0)) 33)) := (((Only.refl _ _).alloc _).alloc _).alloc _
  have hB3 := ((Blk.new w 29 (stepC 1 key st (.slice A nn cc) dead tt)).alloc (.cells (tellC 0 0 0 false (.slice none 0 0) (.slice none 0 0) (.slice none 0 0)) 33)).alloc (.cells (tellC 0 0 0 false (.slice none 0 0) (.slice none 0 0) (.slice none 0 0)) 33)
  have hB4 := (Blk.new' (w.alloc (.cells (stepC 1 key st (.slice A nn cc) dead tt) 29)) 33 (tellC 0 0 0 false (.slice none 0 0) (.slice none 0 0) (.slice none 0 0)) (n := w.heap.size + 1) (by simp)).alloc (.cells (tellC 0 0 0 false (.slice none 0 0) (.slice none 0 0) (.slice none 0 0)) 33)
  have hB5 := Blk.new' ((w.alloc (.cells (stepC 1 key st (.slice A nn cc) dead tt) 29)).alloc (.cells (tellC 0 0 0 false (.slice none 0 0) (.slice none 0 0) (.slice none 0 0)) 33)) 33 (tellC 0 0 0 false (.slice none 0 0) (.slice none 0 0) (.slice none 0 0)) (n := w.heap.size + 1 + 1) (by simp)
  have HO := Lib.hid hO
  have HS := Lib.hid (h.keep hO)
  have HB4 := Lib.hid hB4
  have HB5 := Lib.hid hB5
  have HBY := Lib.hid (hby.keep hO)
  have c0 := hB3.cellv 0 rfl
  have c1 := hB3.cellv 1 rfl
  have c2 := hB3.cellv 2 rfl
  have c3 := hB3.cellv 3 rfl
  have c4 := hB3.cellv 4 rfl
  have c5 := hB3.cellv 5 rfl
  have h0 := h
  clear hO hB3 hB4 hB5 hby h
  go_enter Try.func17, Try.ntmps17
  go_wp2_with fail
  refine (getR _ s N T _ R HS.out key st hkey).mono ?_; rintro e w4 ⟨hget, hO4⟩
  have HO4 := Lib.hid hO4
  have hsz4 := hO4.size
  have hz4 : w.heap.size + 3 ≤ w4.heap.size := by simpa using hsz4
  have B4 := HB4.out.only hO4 (fun h => h)
  have B5 := HB5.out.only hO4 (fun h => h)
  obtain ⟨f, hf⟩ : ∃ f, found (verR R key) st = f := ⟨_, rfl⟩
  rw [hf] at hget
  have HF := Lib.hid hf
  clear hf
  cases f with
  | none =>
    obtain rfl := hget
    have f4 := B5.free 4
    have k4 := B5.cellv 4 rfl
    have f3 := B5.free 3
    have k3 := B5.cellv 3 rfl
    have F5 := Lib.hid ((B5.put 4 (.slice none 0 0)).put 3 (.bool false))
    have F4 := Lib.hid ((B4.far (p := ⟨w.heap.size + 1 + 1, 4, none⟩) (by simp) (.slice none 0 0)).far (p := ⟨w.heap.size + 1 + 1, 3, none⟩) (by simp) (.bool false))
    have FR := Lib.hid (F4.out.row #[.int .i64 0, .int .i64 0, .int .i64 0, .bool false, .slice none 0 0, .slice none 0 0, .slice none 0 0])
    have FO := Lib.hid ((((Only.refl (fun k => k = w.heap.size + 1 ∨ k = w.heap.size + 1 + 1) w4).put (p := ⟨w.heap.size + 1 + 1, 4, none⟩) (.inl (.inr rfl)) (.slice none 0 0)).put (p := ⟨w.heap.size + 1 + 1, 3, none⟩) (.inl (.inr rfl)) (.bool false)).row (b := w.heap.size + 1) (.inl (.inl rfl)) #[.int .i64 0, .int .i64 0, .int .i64 0, .bool false, .slice none 0 0, .slice none 0 0, .slice none 0 0])
    clear B4 B5 hO4
    go_wp2_with (first | (refine wpList_load_row rfl 33 (.tmp 5) rfl (w.heap.size + 1 + 1) rfl 33 _ (0, 0) _ F5.out Try.underlying33 rfl info33 ?_) | (refine wpList_store_row rfl 33 (.tmp 4) (.tmp 82) rfl (w.heap.size + 1) #[.int .i64 0, .int .i64 0, .int .i64 0, .bool false, .slice none 0 0, .slice none 0 0, .slice none 0 0] rfl rfl 33 (tellC 0 0 0 false (.slice none 0 0) (.slice none 0 0) (.slice none 0 0)) F4.out info33 rfl (by simp [Value.oneCell']) ?_) | fail)
    refine bodyPost_ret (v := .agg #[.int .i64 0, .int .i64 0, .int .i64 0, .bool false, .slice none 0 0, .slice none 0 0, .slice none 0 0]) (results_cell_row rfl _ _ _ 33 _ (0, 0) _ rfl FR.out Try.underlying33 rfl info33) rfl ⟨_, T, rfl, ?_, ?_, ?_, fun k hk => .inl hk⟩
    · have e : ansR R ⟨1, key, st, bs, dead, tt⟩ = {} := by simp [ansR, HF.out]
      rw [e]
      exact tstay_plain _ _ _ _ _ _
    · exact (h0.keep ((HO.out.trans HO4.out).step FO.out (fun k hk e => by omega))).more (by omega)
    · exact ((HO.out.trans HO4.out).step FO.out (fun k hk e => by omega)).mono (fun _ _ h => h.elim)
  | some b =>
    obtain ⟨vb, rfl, hvb⟩ := hget
    obtain ⟨Ab, cb, rfl⟩ := ownsRow_slice hvb
    have HVB := Lib.hid hvb
    clear hvb
    have f4 := B5.free 4
    have k4 := B5.cellv 4 rfl
    have f3 := B5.free 3
    have k3 := B5.cellv 3 rfl
    have F5 := Lib.hid ((B5.put 4 (.slice Ab b.length cb)).put 3 (.bool true))
    have F4 := Lib.hid ((B4.far (p := ⟨w.heap.size + 1 + 1, 4, none⟩) (by simp) (.slice Ab b.length cb)).far (p := ⟨w.heap.size + 1 + 1, 3, none⟩) (by simp) (.bool true))
    have FR := Lib.hid (F4.out.row #[.int .i64 0, .int .i64 0, .int .i64 0, .bool true, .slice Ab b.length cb, .slice none 0 0, .slice none 0 0])
    have FO := Lib.hid ((((Only.refl (fun k => k = w.heap.size + 1 ∨ k = w.heap.size + 1 + 1) w4).put (p := ⟨w.heap.size + 1 + 1, 4, none⟩) (.inl (.inr rfl)) (.slice Ab b.length cb)).put (p := ⟨w.heap.size + 1 + 1, 3, none⟩) (.inl (.inr rfl)) (.bool true)).row (b := w.heap.size + 1) (.inl (.inl rfl)) #[.int .i64 0, .int .i64 0, .int .i64 0, .bool true, .slice Ab b.length cb, .slice none 0 0, .slice none 0 0])
    clear B4 B5 hO4
    go_wp2_with (first | (refine wpList_load_row rfl 33 (.tmp 5) rfl (w.heap.size + 1 + 1) rfl 33 _ (0, 0) _ F5.out Try.underlying33 rfl info33 ?_) | (refine wpList_store_row rfl 33 (.tmp 4) (.tmp 82) rfl (w.heap.size + 1) #[.int .i64 0, .int .i64 0, .int .i64 0, .bool true, .slice Ab b.length cb, .slice none 0 0, .slice none 0 0] rfl rfl 33 (tellC 0 0 0 false (.slice none 0 0) (.slice none 0 0) (.slice none 0 0)) F4.out info33 rfl (by simp [Value.oneCell']) ?_) | fail)
    refine bodyPost_ret (v := .agg #[.int .i64 0, .int .i64 0, .int .i64 0, .bool true, .slice Ab b.length cb, .slice none 0 0, .slice none 0 0]) (results_cell_row rfl _ _ _ 33 _ (0, 0) _ rfl FR.out Try.underlying33 rfl info33) rfl ⟨_, T, rfl, ?_, ?_, ?_, fun k hk => .inl hk⟩
    · have e : ansR R ⟨1, key, st, bs, dead, tt⟩ = { b := b, is := true } := by simp [ansR, HF.out]
      rw [e]
      intro S w'' hS hlow
      have hsz3 : w.heap.size + 3 ≤ (((w.alloc (.cells (stepC 1 key st (.slice A nn cc) dead tt) 29)).alloc (.cells (tellC 0 0 0 false (.slice none 0 0) (.slice none 0 0) (.slice none 0 0)) 33)).alloc (.cells (tellC 0 0 0 false (.slice none 0 0) (.slice none 0 0) (.slice none 0 0)) 33)).heap.size := by simp
      have hlo := fun g hg => (ownsRow_lt HVB.out (g := g) hg).1
      exact ⟨_, _, _, rfl, ((HVB.out.only FO.out (fun g hg e => by have := hlo g hg; omega)).only hS (fun g hg e => by have := hlo g hg; have := hlow g e; omega)).bytesV, listAt_nil _ _ _, listAt_nil _ _ _⟩
    · exact (h0.keep ((HO.out.trans HO4.out).step FO.out (fun k hk e => by omega))).more (by omega)
    · exact ((HO.out.trans HO4.out).step FO.out (fun k hk e => by omega)).mono (fun _ _ h => h.elim)

set_option maxRecDepth 100000 in
set_option maxHeartbeats 4000000 in
theorem call_2 (w : World) (s N : Nat) (T U : Nat → Prop) (R : List KV) (h : StoR w s T U R N) (_ : N < NMAX) (x : Stp) (A : Option Addr) (cc : Nat) (hk : x.kind = 2) (hkey : x.key.size ≤ maxLen) (hby : BytesAt w A x.bs) :
    Calls Try.prog 17 #[.pointer (some ⟨s, 0, none⟩), .agg (stepC x.kind x.key x.st (.slice A x.bs.length cc) x.dead x.tt)] w (CallPost s N T U R x w) := by
  obtain ⟨kind, key, st, bs, dead, tt⟩ := x
  simp only at hk hkey hby ⊢
  subst hk
  obtain ⟨nn, hnn⟩ : ∃ nn, bs.length = nn := ⟨_, rfl⟩
  rw [hnn]
  have hlt := fun k hk => h.lt (k := k) hk
  have hO : Only NoneOf w (((w.alloc (.cells (stepC 2 key st (.slice A nn cc) dead tt) 29)).alloc (.cells (tellC 0 0 0 false (.slice none 0 0) (.slice none 0 0) (.slice none 0 0)) 33)).alloc (.cells (tellC 0 0 0 false (.slice none 0 0) (.slice none 0 0) (.slice none 0 0)) 33)) := (((Only.refl _ _).alloc _).alloc _).alloc _
  have hB3 := ((Blk.new w 29 (stepC 2 key st (.slice A nn cc) dead tt)).alloc (.cells (tellC 0 0 0 false (.slice none 0 0) (.slice none 0 0) (.slice none 0 0)) 33)).alloc (.cells (tellC 0 0 0 false (.slice none 0 0) (.slice none 0 0) (.slice none 0 0)) 33)
  have hB4 := (Blk.new' (w.alloc (.cells (stepC 2 key st (.slice A nn cc) dead tt) 29)) 33 (tellC 0 0 0 false (.slice none 0 0) (.slice none 0 0) (.slice none 0 0)) (n := w.heap.size + 1) (by simp)).alloc (.cells (tellC 0 0 0 false (.slice none 0 0) (.slice none 0 0) (.slice none 0 0)) 33)
  have hB5 := Blk.new' ((w.alloc (.cells (stepC 2 key st (.slice A nn cc) dead tt) 29)).alloc (.cells (tellC 0 0 0 false (.slice none 0 0) (.slice none 0 0) (.slice none 0 0)) 33)) 33 (tellC 0 0 0 false (.slice none 0 0) (.slice none 0 0) (.slice none 0 0)) (n := w.heap.size + 1 + 1) (by simp)
  have HO := Lib.hid hO
  have HS := Lib.hid (h.keep hO)
  have HB4 := Lib.hid hB4
  have HB5 := Lib.hid hB5
  have HBY := Lib.hid (hby.keep hO)
  have c0 := hB3.cellv 0 rfl
  have c1 := hB3.cellv 1 rfl
  have c2 := hB3.cellv 2 rfl
  have c3 := hB3.cellv 3 rfl
  have c4 := hB3.cellv 4 rfl
  have c5 := hB3.cellv 5 rfl
  have h0 := h
  clear hO hB3 hB4 hB5 hby h
  go_enter Try.func17, Try.ntmps17
  go_wp2_with fail
  refine (newestR _ s N T _ R HS.out key hkey).mono ?_; rintro e w4 ⟨hget, hO4⟩
  have HO4 := Lib.hid hO4
  have hsz4 := hO4.size
  have hz4 : w.heap.size + 3 ≤ w4.heap.size := by simpa using hsz4
  have B4 := HB4.out.only hO4 (fun h => h)
  have B5 := HB5.out.only hO4 (fun h => h)
  unfold newestT at hget
  obtain ⟨f, hf⟩ : ∃ f, (verR R key).getLast? = f := ⟨_, rfl⟩
  rw [hf] at hget
  have HF := Lib.hid hf
  clear hf
  cases f with
  | none =>
    obtain rfl := hget
    have f1 := B5.free 1
    have k1 := B5.cellv 1 rfl
    have f3 := B5.free 3
    have k3 := B5.cellv 3 rfl
    have F5 := Lib.hid ((B5.put 1 (.int .i64 0)).put 3 (.bool false))
    have F4 := Lib.hid ((B4.far (p := ⟨w.heap.size + 1 + 1, 1, none⟩) (by simp) (.int .i64 0)).far (p := ⟨w.heap.size + 1 + 1, 3, none⟩) (by simp) (.bool false))
    have FR := Lib.hid (F4.out.row #[.int .i64 0, .int .i64 0, .int .i64 0, .bool false, .slice none 0 0, .slice none 0 0, .slice none 0 0])
    have FO := Lib.hid ((((Only.refl (fun k => k = w.heap.size + 1 ∨ k = w.heap.size + 1 + 1) w4).put (p := ⟨w.heap.size + 1 + 1, 1, none⟩) (.inl (.inr rfl)) (.int .i64 0)).put (p := ⟨w.heap.size + 1 + 1, 3, none⟩) (.inl (.inr rfl)) (.bool false)).row (b := w.heap.size + 1) (.inl (.inl rfl)) #[.int .i64 0, .int .i64 0, .int .i64 0, .bool false, .slice none 0 0, .slice none 0 0, .slice none 0 0])
    clear B4 B5 hO4
    go_wp2_with (first | (refine wpList_load_row rfl 33 (.tmp 5) rfl (w.heap.size + 1 + 1) rfl 33 _ (0, 0) _ F5.out Try.underlying33 rfl info33 ?_) | (refine wpList_store_row rfl 33 (.tmp 4) (.tmp 82) rfl (w.heap.size + 1) #[.int .i64 0, .int .i64 0, .int .i64 0, .bool false, .slice none 0 0, .slice none 0 0, .slice none 0 0] rfl rfl 33 (tellC 0 0 0 false (.slice none 0 0) (.slice none 0 0) (.slice none 0 0)) F4.out info33 rfl (by simp [Value.oneCell']) ?_) | fail)
    refine bodyPost_ret (v := .agg #[.int .i64 0, .int .i64 0, .int .i64 0, .bool false, .slice none 0 0, .slice none 0 0, .slice none 0 0]) (results_cell_row rfl _ _ _ 33 _ (0, 0) _ rfl FR.out Try.underlying33 rfl info33) rfl ⟨_, T, rfl, ?_, ?_, ?_, fun k hk => .inl hk⟩
    · have e : ansR R ⟨2, key, st, bs, dead, tt⟩ = {} := by simp [ansR, HF.out]
      rw [e]
      exact tstay_plain _ _ _ _ _ _
    · exact (h0.keep ((HO.out.trans HO4.out).step FO.out (fun k hk e => by omega))).more (by omega)
    · exact ((HO.out.trans HO4.out).step FO.out (fun k hk e => by omega)).mono (fun _ _ h => h.elim)
  | some y =>
    obtain rfl := hget
    have f1 := B5.free 1
    have k1 := B5.cellv 1 rfl
    have f3 := B5.free 3
    have k3 := B5.cellv 3 rfl
    have F5 := Lib.hid ((B5.put 1 (.int .i64 y.st)).put 3 (.bool true))
    have F4 := Lib.hid ((B4.far (p := ⟨w.heap.size + 1 + 1, 1, none⟩) (by simp) (.int .i64 y.st)).far (p := ⟨w.heap.size + 1 + 1, 3, none⟩) (by simp) (.bool true))
    have FR := Lib.hid (F4.out.row #[.int .i64 0, .int .i64 y.st, .int .i64 0, .bool true, .slice none 0 0, .slice none 0 0, .slice none 0 0])
    have FO := Lib.hid ((((Only.refl (fun k => k = w.heap.size + 1 ∨ k = w.heap.size + 1 + 1) w4).put (p := ⟨w.heap.size + 1 + 1, 1, none⟩) (.inl (.inr rfl)) (.int .i64 y.st)).put (p := ⟨w.heap.size + 1 + 1, 3, none⟩) (.inl (.inr rfl)) (.bool true)).row (b := w.heap.size + 1) (.inl (.inl rfl)) #[.int .i64 0, .int .i64 y.st, .int .i64 0, .bool true, .slice none 0 0, .slice none 0 0, .slice none 0 0])
    clear B4 B5 hO4
    go_wp2_with (first | (refine wpList_load_row rfl 33 (.tmp 5) rfl (w.heap.size + 1 + 1) rfl 33 _ (0, 0) _ F5.out Try.underlying33 rfl info33 ?_) | (refine wpList_store_row rfl 33 (.tmp 4) (.tmp 82) rfl (w.heap.size + 1) #[.int .i64 0, .int .i64 y.st, .int .i64 0, .bool true, .slice none 0 0, .slice none 0 0, .slice none 0 0] rfl rfl 33 (tellC 0 0 0 false (.slice none 0 0) (.slice none 0 0) (.slice none 0 0)) F4.out info33 rfl (by simp [Value.oneCell']) ?_) | fail)
    refine bodyPost_ret (v := .agg #[.int .i64 0, .int .i64 y.st, .int .i64 0, .bool true, .slice none 0 0, .slice none 0 0, .slice none 0 0]) (results_cell_row rfl _ _ _ 33 _ (0, 0) _ rfl FR.out Try.underlying33 rfl info33) rfl ⟨_, T, rfl, ?_, ?_, ?_, fun k hk => .inl hk⟩
    · have e : ansR R ⟨2, key, st, bs, dead, tt⟩ = { n := y.st, is := true } := by simp [ansR, HF.out]
      rw [e]
      exact tstay_plain _ _ _ _ _ _
    · exact (h0.keep ((HO.out.trans HO4.out).step FO.out (fun k hk e => by omega))).more (by omega)
    · exact ((HO.out.trans HO4.out).step FO.out (fun k hk e => by omega)).mono (fun _ _ h => h.elim)

set_option maxRecDepth 100000 in
set_option maxHeartbeats 4000000 in
theorem call_3 (w : World) (s N : Nat) (T U : Nat → Prop) (R : List KV) (h : StoR w s T U R N) (hN : N < NMAX) (x : Stp) (A : Option Addr) (cc : Nat) (hk : x.kind = 3) (hkey : x.key.size ≤ maxLen) (hby : BytesAt w A x.bs) :
    Calls Try.prog 17 #[.pointer (some ⟨s, 0, none⟩), .agg (stepC x.kind x.key x.st (.slice A x.bs.length cc) x.dead x.tt)] w (CallPost s N T U R x w) := by
  obtain ⟨kind, key, st, bs, dead, tt⟩ := x
  simp only at hk hkey hby ⊢
  subst hk
  obtain ⟨nn, hnn⟩ : ∃ nn, bs.length = nn := ⟨_, rfl⟩
  rw [hnn]
  have hlt := fun k hk => h.lt (k := k) hk
  have hO : Only NoneOf w (((w.alloc (.cells (stepC 3 key st (.slice A nn cc) dead tt) 29)).alloc (.cells (tellC 0 0 0 false (.slice none 0 0) (.slice none 0 0) (.slice none 0 0)) 33)).alloc (.cells (tellC 0 0 0 false (.slice none 0 0) (.slice none 0 0) (.slice none 0 0)) 33)) := (((Only.refl _ _).alloc _).alloc _).alloc _
  have hB3 := ((Blk.new w 29 (stepC 3 key st (.slice A nn cc) dead tt)).alloc (.cells (tellC 0 0 0 false (.slice none 0 0) (.slice none 0 0) (.slice none 0 0)) 33)).alloc (.cells (tellC 0 0 0 false (.slice none 0 0) (.slice none 0 0) (.slice none 0 0)) 33)
  have hB4 := (Blk.new' (w.alloc (.cells (stepC 3 key st (.slice A nn cc) dead tt) 29)) 33 (tellC 0 0 0 false (.slice none 0 0) (.slice none 0 0) (.slice none 0 0)) (n := w.heap.size + 1) (by simp)).alloc (.cells (tellC 0 0 0 false (.slice none 0 0) (.slice none 0 0) (.slice none 0 0)) 33)
  have hB5 := Blk.new' ((w.alloc (.cells (stepC 3 key st (.slice A nn cc) dead tt) 29)).alloc (.cells (tellC 0 0 0 false (.slice none 0 0) (.slice none 0 0) (.slice none 0 0)) 33)) 33 (tellC 0 0 0 false (.slice none 0 0) (.slice none 0 0) (.slice none 0 0)) (n := w.heap.size + 1 + 1) (by simp)
  have HO := Lib.hid hO
  have HS := Lib.hid (h.keep hO)
  have HB4 := Lib.hid hB4
  have HB5 := Lib.hid hB5
  have HBY := Lib.hid (hby.keep hO)
  have c0 := hB3.cellv 0 rfl
  have c1 := hB3.cellv 1 rfl
  have c2 := hB3.cellv 2 rfl
  have c3 := hB3.cellv 3 rfl
  have c4 := hB3.cellv 4 rfl
  have c5 := hB3.cellv 5 rfl
  have h0 := h
  clear hO hB3 hB4 hB5 hby h
  go_enter Try.func17, Try.ntmps17
  go_wp2_with fail
  refine (scannedR _ s N T _ R HS.out (by omega) key tt st).mono ?_; rintro e w4 ⟨vp, rs, rfl, hvb, hpl, hO4⟩
  have HO4 := Lib.hid hO4
  have hsz4 := hO4.size
  have hz4 : w.heap.size + 3 ≤ w4.heap.size := by simpa using hsz4
  have B4 := HB4.out.only hO4 (fun h => h)
  have B5 := HB5.out.only hO4 (fun h => h)
  obtain ⟨Ab, cb, rfl⟩ := ownsRow_slice hvb.own
  have HVB := Lib.hid hvb
  have HPL := Lib.hid hpl
  clear hvb hpl
  have f5 := B5.free 5
  have k5 := B5.cellv 5 rfl
  have F5 := Lib.hid (B5.put 5 (.slice Ab rs.length cb))
  have F4 := Lib.hid (B4.far (p := ⟨w.heap.size + 1 + 1, 5, none⟩) (by simp) (.slice Ab rs.length cb))
  have FR := Lib.hid (F4.out.row #[.int .i64 0, .int .i64 0, .int .i64 0, .bool false, .slice none 0 0, .slice Ab rs.length cb, .slice none 0 0])
  have FO := Lib.hid (((Only.refl (fun k => k = w.heap.size + 1 ∨ k = w.heap.size + 1 + 1) w4).put (p := ⟨w.heap.size + 1 + 1, 5, none⟩) (.inl (.inr rfl)) (.slice Ab rs.length cb)).row (b := w.heap.size + 1) (.inl (.inl rfl)) #[.int .i64 0, .int .i64 0, .int .i64 0, .bool false, .slice none 0 0, .slice Ab rs.length cb, .slice none 0 0])
  clear B4 B5 hO4
  go_wp2_with (first | (refine wpList_load_row rfl 33 (.tmp 5) rfl (w.heap.size + 1 + 1) rfl 33 _ (0, 0) _ F5.out Try.underlying33 rfl info33 ?_) | (refine wpList_store_row rfl 33 (.tmp 4) (.tmp 82) rfl (w.heap.size + 1) #[.int .i64 0, .int .i64 0, .int .i64 0, .bool false, .slice none 0 0, .slice Ab rs.length cb, .slice none 0 0] rfl rfl 33 (tellC 0 0 0 false (.slice none 0 0) (.slice none 0 0) (.slice none 0 0)) F4.out info33 rfl (by simp [Value.oneCell']) ?_) | fail)
  refine bodyPost_ret (v := .agg #[.int .i64 0, .int .i64 0, .int .i64 0, .bool false, .slice none 0 0, .slice Ab rs.length cb, .slice none 0 0]) (results_cell_row rfl _ _ _ 33 _ (0, 0) _ rfl FR.out Try.underlying33 rfl info33) rfl ⟨_, T, rfl, ?_, ?_, ?_, fun k hk => .inl hk⟩
  · have e : ansR R ⟨3, key, st, bs, dead, tt⟩ = { pairs := rs.map PRow.plain } := by simp [ansR, HPL.out]
    rw [e]
    intro S w'' hS hlow
    have hsz3 : w.heap.size + 3 ≤ (((w.alloc (.cells (stepC 3 key st (.slice A nn cc) dead tt) 29)).alloc (.cells (tellC 0 0 0 false (.slice none 0 0) (.slice none 0 0) (.slice none 0 0)) 33)).alloc (.cells (tellC 0 0 0 false (.slice none 0 0) (.slice none 0 0) (.slice none 0 0)) 33)).heap.size := by simp
    have hlo := fun g hg => (HVB.out.lt (k := g) hg).1
    exact ⟨_, _, _, rfl, bytesV_nil _, listAt_pairs ((HVB.out.only FO.out (fun g hg e => by have := hlo g hg; omega)).only hS (fun g hg e => by have := hlo g hg; have := hlow g e; omega)), listAt_nil _ _ _⟩
  · exact (h0.keep ((HO.out.trans HO4.out).step FO.out (fun k hk e => by omega))).more (by omega)
  · exact ((HO.out.trans HO4.out).step FO.out (fun k hk e => by omega)).mono (fun _ _ h => h.elim)

set_option maxRecDepth 100000 in
set_option maxHeartbeats 4000000 in
theorem call_7 (w : World) (s N : Nat) (T U : Nat → Prop) (R : List KV) (h : StoR w s T U R N) (hN : N < NMAX) (x : Stp) (A : Option Addr) (cc : Nat) (hk : x.kind = 7) (hkey : x.key.size ≤ maxLen) (hby : BytesAt w A x.bs) :
    Calls Try.prog 17 #[.pointer (some ⟨s, 0, none⟩), .agg (stepC x.kind x.key x.st (.slice A x.bs.length cc) x.dead x.tt)] w (CallPost s N T U R x w) := by
  obtain ⟨kind, key, st, bs, dead, tt⟩ := x
  simp only at hk hkey hby ⊢
  subst hk
  obtain ⟨nn, hnn⟩ : ∃ nn, bs.length = nn := ⟨_, rfl⟩
  rw [hnn]
  have hlt := fun k hk => h.lt (k := k) hk
  have hO : Only NoneOf w (((w.alloc (.cells (stepC 7 key st (.slice A nn cc) dead tt) 29)).alloc (.cells (tellC 0 0 0 false (.slice none 0 0) (.slice none 0 0) (.slice none 0 0)) 33)).alloc (.cells (tellC 0 0 0 false (.slice none 0 0) (.slice none 0 0) (.slice none 0 0)) 33)) := (((Only.refl _ _).alloc _).alloc _).alloc _
  have hB3 := ((Blk.new w 29 (stepC 7 key st (.slice A nn cc) dead tt)).alloc (.cells (tellC 0 0 0 false (.slice none 0 0) (.slice none 0 0) (.slice none 0 0)) 33)).alloc (.cells (tellC 0 0 0 false (.slice none 0 0) (.slice none 0 0) (.slice none 0 0)) 33)
  have hB4 := (Blk.new' (w.alloc (.cells (stepC 7 key st (.slice A nn cc) dead tt) 29)) 33 (tellC 0 0 0 false (.slice none 0 0) (.slice none 0 0) (.slice none 0 0)) (n := w.heap.size + 1) (by simp)).alloc (.cells (tellC 0 0 0 false (.slice none 0 0) (.slice none 0 0) (.slice none 0 0)) 33)
  have hB5 := Blk.new' ((w.alloc (.cells (stepC 7 key st (.slice A nn cc) dead tt) 29)).alloc (.cells (tellC 0 0 0 false (.slice none 0 0) (.slice none 0 0) (.slice none 0 0)) 33)) 33 (tellC 0 0 0 false (.slice none 0 0) (.slice none 0 0) (.slice none 0 0)) (n := w.heap.size + 1 + 1) (by simp)
  have HO := Lib.hid hO
  have HS := Lib.hid (h.keep hO)
  have HB4 := Lib.hid hB4
  have HB5 := Lib.hid hB5
  have HBY := Lib.hid (hby.keep hO)
  have c0 := hB3.cellv 0 rfl
  have c1 := hB3.cellv 1 rfl
  have c2 := hB3.cellv 2 rfl
  have c3 := hB3.cellv 3 rfl
  have c4 := hB3.cellv 4 rfl
  have c5 := hB3.cellv 5 rfl
  have h0 := h
  clear hO hB3 hB4 hB5 hby h
  go_enter Try.func17, Try.ntmps17
  go_wp2_with fail
  refine (versionsR _ s N T _ R HS.out (by omega)).mono ?_; rintro e w4 ⟨vp, rs, rfl, hvb, hpl, hO4⟩
  have HO4 := Lib.hid hO4
  have hsz4 := hO4.size
  have hz4 : w.heap.size + 3 ≤ w4.heap.size := by simpa using hsz4
  have B4 := HB4.out.only hO4 (fun h => h)
  have B5 := HB5.out.only hO4 (fun h => h)
  obtain ⟨Ab, cb, rfl⟩ := ownsRow_slice hvb.own
  have HVB := Lib.hid hvb
  have HPL := Lib.hid hpl
  clear hvb hpl
  have f6 := B5.free 6
  have k6 := B5.cellv 6 rfl
  have F5 := Lib.hid (B5.put 6 (.slice Ab rs.length cb))
  have F4 := Lib.hid (B4.far (p := ⟨w.heap.size + 1 + 1, 6, none⟩) (by simp) (.slice Ab rs.length cb))
  have FR := Lib.hid (F4.out.row #[.int .i64 0, .int .i64 0, .int .i64 0, .bool false, .slice none 0 0, .slice none 0 0, .slice Ab rs.length cb])
  have FO := Lib.hid (((Only.refl (fun k => k = w.heap.size + 1 ∨ k = w.heap.size + 1 + 1) w4).put (p := ⟨w.heap.size + 1 + 1, 6, none⟩) (.inl (.inr rfl)) (.slice Ab rs.length cb)).row (b := w.heap.size + 1) (.inl (.inl rfl)) #[.int .i64 0, .int .i64 0, .int .i64 0, .bool false, .slice none 0 0, .slice none 0 0, .slice Ab rs.length cb])
  clear B4 B5 hO4
  go_wp2_with (first | (refine wpList_load_row rfl 33 (.tmp 5) rfl (w.heap.size + 1 + 1) rfl 33 _ (0, 0) _ F5.out Try.underlying33 rfl info33 ?_) | (refine wpList_store_row rfl 33 (.tmp 4) (.tmp 82) rfl (w.heap.size + 1) #[.int .i64 0, .int .i64 0, .int .i64 0, .bool false, .slice none 0 0, .slice none 0 0, .slice Ab rs.length cb] rfl rfl 33 (tellC 0 0 0 false (.slice none 0 0) (.slice none 0 0) (.slice none 0 0)) F4.out info33 rfl (by simp [Value.oneCell']) ?_) | fail)
  refine bodyPost_ret (v := .agg #[.int .i64 0, .int .i64 0, .int .i64 0, .bool false, .slice none 0 0, .slice none 0 0, .slice Ab rs.length cb]) (results_cell_row rfl _ _ _ 33 _ (0, 0) _ rfl FR.out Try.underlying33 rfl info33) rfl ⟨_, T, rfl, ?_, ?_, ?_, fun k hk => .inl hk⟩
  · have e : ansR R ⟨7, key, st, bs, dead, tt⟩ = { l := rs.map VRow.plain } := by simp [ansR, HPL.out]
    rw [e]
    intro S w'' hS hlow
    have hsz3 : w.heap.size + 3 ≤ (((w.alloc (.cells (stepC 7 key st (.slice A nn cc) dead tt) 29)).alloc (.cells (tellC 0 0 0 false (.slice none 0 0) (.slice none 0 0) (.slice none 0 0)) 33)).alloc (.cells (tellC 0 0 0 false (.slice none 0 0) (.slice none 0 0) (.slice none 0 0)) 33)).heap.size := by simp
    have hlo := fun g hg => (HVB.out.lt (k := g) hg).1
    exact ⟨_, _, _, rfl, bytesV_nil _, listAt_nil _ _ _, listAt_vers ((HVB.out.only FO.out (fun g hg e => by have := hlo g hg; omega)).only hS (fun g hg e => by have := hlo g hg; have := hlow g e; omega))⟩
  · exact (h0.keep ((HO.out.trans HO4.out).step FO.out (fun k hk e => by omega))).more (by omega)
  · exact ((HO.out.trans HO4.out).step FO.out (fun k hk e => by omega)).mono (fun _ _ h => h.elim)

end Go.Proofs.Ytnonnencdhogiaa
