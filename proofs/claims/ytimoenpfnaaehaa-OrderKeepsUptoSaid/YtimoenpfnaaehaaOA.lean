/-
  Layer 4: a number, a text taken off a text.
-/
import Derived.Test.YtimoenpfnaaehaaO8
import Derived.RegionTactic
import Derived.ChangeAlike
namespace Go.Proofs.Ytimoenpfnaaehaa
open Go.RowKit

/-- The number that bytes say, the highest first. -/
def numB (l : List UInt8) : Nat := l.foldl (fun n c => n * 256 + c.toNat) 0
theorem numB_snoc (l : List UInt8) (c : UInt8) : numB (l ++ [c]) = numB l * 256 + c.toNat := by simp [numB]
theorem numB_fold (l : List UInt8) : ∀ n : Nat, l.foldl (fun n c => n * 256 + c.toNat) n < (n + 1) * 256 ^ l.length := by
  induction l with
  | nil => intro n; simp
  | cons c l ih =>
    intro n
    rw [List.foldl_cons, List.length_cons, Nat.pow_succ]
    refine Nat.lt_of_lt_of_le (ih _) ?_
    rw [show (n + 1) * (256 ^ l.length * 256) = ((n + 1) * 256) * 256 ^ l.length by rw [Nat.mul_comm (256 ^ l.length) 256, Nat.mul_assoc]]
    exact Nat.mul_le_mul_right _ (by have := c.toNat_lt; omega)
theorem numB_lt (l : List UInt8) : numB l < 256 ^ l.length := by
  have := numB_fold l 0
  unfold numB
  omega
theorem num8_lt (l : List UInt8) : numB (l.take 8) < 18446744073709551616 := by
  have h := numB_lt (l.take 8)
  have h2 : (l.take 8).length ≤ 8 := List.length_take_le _ _
  have h3 : 256 ^ (l.take 8).length ≤ 256 ^ 8 := Nat.pow_le_pow_right (by omega) h2
  exact Nat.lt_of_lt_of_le h h3
theorem num7_lt (l : List UInt8) (k : Nat) (hk : k < 8) : numB (l.take k) < 72057594037927936 := by
  have h := numB_lt (l.take k)
  have h2 : (l.take k).length ≤ k := List.length_take_le _ _
  have h3 : 256 ^ (l.take k).length ≤ 256 ^ 7 := Nat.pow_le_pow_right (by omega) (by omega)
  exact Nat.lt_of_lt_of_le h h3
theorem shl_or (m : Nat) (c : UInt8) (h : m < 72057594037927936) : bits .or .u64 (IntKind.u64.wrap ((m : Int) * 256)) (IntKind.u64.wrap (c.toNat : Int)) = ((m * 256 + c.toNat : Nat) : Int) := by
  have hc := c.toNat_lt
  rw [IntKind.wrap_u64, IntKind.wrap_u64, show ((m : Int) * 256) % 18446744073709551616 = ((m * 256 : Nat) : Int) by omega, show ((c.toNat : Int)) % 18446744073709551616 = ((c.toNat : Nat) : Int) by omega, u64_or_nat _ _ (by omega) (by omega), nat_join 8 _ _ (by omega) (by omega)]

def TakeRel (s : ByteArray) (w : World) (u i : Value) (wr : World) : Prop := wr = w ∧ ∃ k : Nat, k ≤ 8 ∧ i = .int .i64 k ∧ u = .int .u64 (numB (s.data.toList.take k) : Int)

set_option maxRecDepth 100000 in
set_option maxHeartbeats 1000000 in
theorem take_is (s : ByteArray) (w : World) (h8 : 8 ≤ s.size) : Calls Try.prog 70 #[.string s] w (Ans (.tuple #[.int .u64 (numB (s.data.toList.take 8) : Int), .string (s.extract 8 s.size), .bool true]) w) := by
  go_enter Try.func70, Try.ntmps70
  go_wp2_with fail
  go_loopw [5, 10] (fun u i wr => TakeRel s w u i wr) (fun _ i _ => 8 - (intOf i).toNat)
  case atStart => exact ⟨rfl, 0, by omega, rfl, rfl⟩
  case round =>
    obtain ⟨rfl, k, hk, rfl, rfl⟩ := hrel
    by_cases hlt : k < 8
    · have hks : k < s.size := by omega
      go_wp2_with fail
      go_roundw
      case rel => exact ⟨rfl, k + 1, by omega, by go_num, by rw [take_snoc s k hks, numB_snoc, shl_or _ _ (num7_lt _ k hlt)]⟩
      case measure => simp [intOf]; omega
    · obtain rfl : k = 8 := by omega
      go_wp2_with fail
      go_region
      go_wp2_with fail
      go_ret3
      exact ⟨rfl, (Only.refl _ _).drew⟩

set_option maxHeartbeats 400000 in
theorem take_short (s : ByteArray) (w : World) (h8 : s.size < 8) : Calls Try.prog 70 #[.string s] w (Ans (.tuple #[.int .u64 0, .string ⟨#[]⟩, .bool false]) w) := by
  go_enter Try.func70, Try.ntmps70
  go_wp2_with fail
  go_ret3
  exact ⟨rfl, Only.refl _ _⟩

/-- The text that stands at a text's beginning, and what stands behind it. -/
def untextL : List UInt8 → Option (List UInt8 × List UInt8)
  | [] => none
  | c :: l => if c ≠ 0 then (untextL l).map fun (t, r) => (c :: t, r) else match l with
    | [] => none
    | d :: l' => if d = 1 then some ([], l') else if d = 255 then (untextL l').map fun (t, r) => (0 :: t, r) else none

theorem extract_end (s : ByteArray) (m : Nat) : s.extract m s.size = ⟨(s.data.toList.drop m).toArray⟩ := by
  apply ByteArray.ext
  rw [ByteArray.data_extract]
  apply Array.ext'
  simp
  rw [List.take_of_length_le (by simp)]

theorem row_form {w : World} {B : Nat} {v : Value} {l : List UInt8} (n : Nat) (h : RowB w B v l) (hl : l ≠ []) (hn : l.length = n) : ∃ g cap, v = .slice (some ⟨g, 0, none⟩) n cap ∧ n ≤ cap ∧ cap ≤ maxLen ∧ ∀ (i : Nat) (c : UInt8), l[i]? = some c → w.cell? ⟨g, i, none⟩ = some (byteV c) := by
  subst hn
  rcases h.2 with ⟨rfl, h0⟩ | ⟨g, cap, cur, rfl, _, hb, hle, hm, hsz, hcur⟩
  · exact absurd (List.eq_nil_of_length_eq_zero h0) hl
  · refine ⟨g, cap, rfl, hle, hm, fun i c hc => ?_⟩
    have hi : i < l.length := (List.getElem?_eq_some_iff.1 hc).1
    have : (l.map byteV)[i]? = some (byteV c) := by rw [List.getElem?_map, hc]; rfl
    rw [← hcur, List.getElem?_take_of_lt (by omega), Array.getElem?_toList] at this
    rw [Blk.cell (t := 5) (cs := cur) hb]
    exact this

theorem cut_string {w : World} {g cap : Nat} {l : List UInt8} {c : UInt8} (h : ∀ (i : Nat) (b : UInt8), (l ++ [c])[i]? = some b → w.cell? ⟨g, i, none⟩ = some (byteV b)) :
    (convert 84 9 (.slice (some ⟨g, 0, none⟩) l.length cap)).run Try.prog w = .ok (.string ⟨l.toArray⟩) w := by
  rw [run_convert_bytes_arg w 84 5 Try.underlying84 Try.underlying5 g 0 l.length cap (l.map fun c => (c.toNat : Int)) (by simp) ?_ 9 Try.underlying9, strOf]
  intro i hi
  rw [Nat.zero_add, h i l[i] (by rw [List.getElem?_append_left hi]; exact List.getElem?_eq_getElem hi)]
  simp [hi]

/-- How takeText ends. -/
def TextPost (r : Option (List UInt8 × List UInt8)) (w : World) (e : Ending) (w' : World) : Prop :=
  (match r with
    | none => e = .returned (.tuple #[.string ⟨#[]⟩, .string ⟨#[]⟩, .bool false])
    | some (t, r) => e = .returned (.tuple #[.string ⟨t.toArray⟩, .string ⟨r.toArray⟩, .bool true])) ∧ Only NoneOf w w'

def TTRel (s : ByteArray) (w : World) (v0 i : Value) (wr : World) : Prop := ∃ k : Nat, k ≤ s.size ∧ i = .int .i64 k ∧ ∃ done : List UInt8, done.length ≤ k ∧ Went w.heap.size nilS w v0 done wr ∧ untextL s.data.toList = (untextL (s.data.toList.drop k)).map fun (t, r) => (done ++ t, r)

end Go.Proofs.Ytimoenpfnaaehaa
