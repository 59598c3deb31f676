/-
  Layer 4: Encode.
-/
import Derived.Test.YtimoenpfnaaehaaO4
import Derived.Test.YtimoenpfnaaehaaO5
import Derived.Test.YtimoenpfnaaehaaO6
import Derived.Laws.BytesArg
namespace Go.Proofs.Ytimoenpfnaaehaa
open Go.RowKit

/-- A clean number's bits, so turned that they keep the order. -/
def turnB (f : Nat) : Nat := if f < 9223372036854775808 then f + 9223372036854775808 else 18446744073709551615 - f
theorem cln_lt {a : Nat} (h : a < 18446744073709551616) : cln a < 18446744073709551616 := by
  unfold cln
  split
  · decide
  · split
    · decide
    · exact h

theorem bits_is (a : Nat) (h : a < 18446744073709551616) (w : World) : Calls Try.prog 58 #[.float .f64 a] w (Same (.int .u64 (turnB a)) w) := by
  have e1 := ext36
  have HA := Lib.hid (top_and a h)
  have HX := Lib.hid (all_xor a h)
  by_cases hl : a < 9223372036854775808
  · have HO := Lib.hid (top_or a hl)
    have h0 : (bits .and .u64 (a : Int) 9223372036854775808 == 0) = true := by rw [HA.out, if_pos hl]; rfl
    have HT := Lib.hid (show turnB a = a + 9223372036854775808 by unfold turnB; rw [if_pos hl])
    clear hl h
    go_enter Try.func58, Try.ntmps58
    go_wp2_with fail
    go_ret
    exact same_ret (by rw [HT.out, ← HO.out]; rfl)
  · have h0 : (bits .and .u64 (a : Int) 9223372036854775808 == 0) = false := by rw [HA.out, if_neg hl]; rfl
    have HT := Lib.hid (show turnB a = 18446744073709551615 - a by unfold turnB; rw [if_neg hl])
    have hs : IntKind.u64.signed = false := rfl
    clear hl h
    go_enter Try.func58, Try.ntmps58
    go_wp2_with fail
    all_goals go_ret
    all_goals exact same_ret (by rw [HT.out, ← HX.out]; rfl)

theorem unbits_is (u : Nat) (h : u < 18446744073709551616) (w : World) : Calls Try.prog 71 #[.int .u64 u] w (Same (.float .f64 (if u < 9223372036854775808 then 18446744073709551615 - u else u - 9223372036854775808)) w) := by
  have e1 := ext45
  have HA := Lib.hid (top_and u h)
  have HX := Lib.hid (all_xor u h)
  have HN := Lib.hid (top_andNot u h)
  by_cases hl : u < 9223372036854775808
  · have h0 : (bits .and .u64 (u : Int) 9223372036854775808 != 0) = false := by rw [HA.out, if_pos hl]; rfl
    have hs : IntKind.u64.signed = false := rfl
    rw [if_pos hl]
    clear hl h
    go_enter Try.func71, Try.ntmps71
    go_wp2_with fail
    all_goals go_ret
    all_goals exact same_ret (by show Value.float .f64 (bits .xor .u64 IntKind.u64.max (u : Int)).toNat = _; rw [HX.out, Int.toNat_natCast])
  · have h0 : (bits .and .u64 (u : Int) 9223372036854775808 != 0) = true := by rw [HA.out, if_neg hl]; rfl
    have hq : u % 9223372036854775808 = u - 9223372036854775808 := by omega
    have HQ := Lib.hid hq
    rw [if_neg hl]
    clear hl h hq
    go_enter Try.func71, Try.ntmps71
    go_wp2_with fail
    all_goals go_ret
    all_goals exact same_ret (by show Value.float .f64 (bits .andNot .u64 (u : Int) 9223372036854775808).toNat = _; rw [HN.out, Int.toNat_natCast, HQ.out])

/-- A clean item's bytes. -/
def It.bytes (x : It) : List UInt8 :=
  UInt8.ofNat x.k.toNat :: (if x.k = 2 then [if x.b then 1 else 0] else if x.k = 3 then put8 (x.n + 9223372036854775808).toNat
    else if x.k = 4 then put8 (turnB x.f) else if x.k = 5 then put8 (turnB x.re) ++ put8 (turnB x.im) else if x.k = 6 then escT x.t.data.toList ++ [0, 1] else [])

theorem strOf (l : List UInt8) : strOfNums (l.map fun c => (c.toNat : Int)) = ⟨l.toArray⟩ := by
  unfold strOfNums
  congr 2
  rw [List.map_map]
  conv => rhs; rw [← List.map_id l]
  apply List.map_congr_left
  intro c _
  simp

theorem row_string {w : World} {B : Nat} {v : Value} {l : List UInt8} (h : RowB w B v l) : (convert 84 9 v).run Try.prog w = .ok (.string ⟨l.toArray⟩) w := by
  rcases h.2 with ⟨rfl, h0⟩ | ⟨g, cap, cur, rfl, _, hb, hle, _, hsz, hcur⟩
  · have : l = [] := List.eq_nil_of_length_eq_zero h0
    subst this
    exact run_convert_bytes_nil w 84 5 Try.underlying84 Try.underlying5 0 0 9 Try.underlying9
  · rw [run_convert_bytes_arg w 84 5 Try.underlying84 Try.underlying5 g 0 l.length cap (l.map fun c => (c.toNat : Int)) (by simp) ?_ 9 Try.underlying9, strOf]
    intro i hi
    rw [Nat.zero_add, Blk.cell (t := 5) (cs := cur) hb]
    have : (l.map byteV)[i]? = some (byteV l[i]) := by simp [hi]
    rw [← hcur, List.getElem?_take_of_lt (by omega), Array.getElem?_toList] at this
    rw [this]
    simp [hi]

/-- A slice of items in memory. -/
def ItemsAt (w : World) (A : Option Addr) (xs : List It) : Prop :=
  ∀ (i : Nat) (x : It), xs[i]? = some x → ∃ g off, A = some ⟨g, off, none⟩ ∧ g < w.heap.size ∧ w.cell? ⟨g, off + i * 6, none⟩ = some (.int .i64 x.k) ∧ w.cell? ⟨g, off + i * 6 + 1, none⟩ = some (.bool x.b) ∧ w.cell? ⟨g, off + i * 6 + 2, none⟩ = some (.int .i64 x.n) ∧
    w.cell? ⟨g, off + i * 6 + 3, none⟩ = some (.float .f64 x.f) ∧ w.cell? ⟨g, off + i * 6 + 4, none⟩ = some (.complex .f64 x.re x.im) ∧ w.cell? ⟨g, off + i * 6 + 5, none⟩ = some (.string x.t)
theorem ItemsAt.keep {w w' : World} {A : Option Addr} {xs : List It} (h : ItemsAt w A xs) (ho : Only NoneOf w w') : ItemsAt w' A xs := by
  intro i x hx
  obtain ⟨g, off, hA, hg, c0, c1, c2, c3, c4, c5⟩ := h i x hx
  have hc := (bcell ho).1
  exact ⟨g, off, hA, Nat.lt_of_lt_of_le hg ho.size, (hc g _ hg).trans c0, (hc g _ hg).trans c1, (hc g _ hg).trans c2, (hc g _ hg).trans c3, (hc g _ hg).trans c4, (hc g _ hg).trans c5⟩

/-- What an item may hold. -/
structure It.Wf (x : It) : Prop where
  k0 : -9223372036854775808 ≤ x.k
  k1 : x.k ≤ 9223372036854775807
  n0 : -9223372036854775808 ≤ x.n
  n1 : x.n ≤ 9223372036854775807
  f : x.f < 18446744073709551616
  re : x.re < 18446744073709551616
  im : x.im < 18446744073709551616
  t : x.t.size ≤ 1073741824

/-- The bytes of all. -/
def bytesOf (xs : List It) : List UInt8 := xs.flatMap fun x => x.clean.bytes
theorem bytesOf_snoc (xs : List It) (x : It) : bytesOf (xs ++ [x]) = bytesOf xs ++ x.clean.bytes := by simp [bytesOf]
/-- What Encode answers. -/
def encL (xs : List It) : ByteArray × Int := if 64 < xs.length then (⟨#[]⟩, 3) else if xs.all It.ok then (⟨(bytesOf xs).toArray⟩, 0) else (⟨#[]⟩, 40)

theorem bytes_len (x : It) (h : x.t.size ≤ 1073741824) : x.bytes.length ≤ 2147483700 := by
  have := escT_len x.t.data.toList
  have ht : x.t.data.toList.length = x.t.size := by simp
  unfold It.bytes
  repeat (split <;> try simp [lastB_len])
  omega

end Go.Proofs.Ytimoenpfnaaehaa
