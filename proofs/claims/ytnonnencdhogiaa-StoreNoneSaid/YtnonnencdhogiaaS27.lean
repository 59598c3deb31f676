/-
  Layer 14's law: storeFixed.
-/
import Derived.Test.YtnonnencdhogiaaS26
namespace Go.Proofs.Ytnonnencdhogiaa
open Go.RowKit

abbrev kA : ByteArray := ⟨#[97]⟩
abbrev kB : ByteArray := ⟨#[98]⟩
abbrev RF1 : List KV := [(kB, ⟨2, [20], false⟩)]
abbrev RF2 : List KV := [(kB, ⟨2, [20], false⟩), (kB, ⟨5, [], true⟩)]
abbrev RF3 : List KV := [(kB, ⟨2, [20], false⟩), (kB, ⟨5, [], true⟩), (kA, ⟨3, [], false⟩)]

theorem fx_v0 : verR [] kB = [] := rfl
theorem fx_v1 : verR RF1 kB = [⟨2, [20], false⟩] := by decide
theorem fx_v2 : verR RF2 kA = [] := by decide
theorem fx_v3b : verR RF3 kB = [⟨2, [20], false⟩, ⟨5, [], true⟩] := by decide
theorem fx_v3a : verR RF3 kA = [⟨3, [], false⟩] := by decide
theorem fx_c1 : codeR [] kB ⟨2, [20], false⟩ = 0 := by decide
theorem fx_c2 : codeR RF1 kB ⟨5, [], true⟩ = 0 := by decide
theorem fx_c3 : codeR RF2 kA ⟨3, [], false⟩ = 0 := by decide
theorem fx_a1 : afterR [] kB ⟨2, [20], false⟩ = RF1 := by unfold afterR; rw [if_pos fx_c1]; rfl
theorem fx_a2 : afterR RF1 kB ⟨5, [], true⟩ = RF2 := by unfold afterR; rw [if_pos fx_c2]; rfl
theorem fx_a3 : afterR RF2 kA ⟨3, [], false⟩ = RF3 := by unfold afterR; rw [if_pos fx_c3]; rfl
theorem fx_g4 : found (verR RF3 kB) 4 = some [20] := by decide
theorem fx_g5 : found (verR RF3 kB) 5 = none := by decide
theorem fx_keys : keysR RF3 = [[97], [98]] := sorted_unique _ _ (keysR_sorted _) (by decide) fun k => by
  rw [keysR_mem]
  constructor
  · rintro ⟨x, hx⟩
    simp only [RF3, List.mem_cons, Prod.mk.injEq, List.not_mem_nil, or_false] at hx
    rcases hx with ⟨h, _⟩ | ⟨h, _⟩ | ⟨h, _⟩
    · have := keyB_inj (a := k) (b := [98]) h; simp [this]
    · have := keyB_inj (a := k) (b := [98]) h; simp [this]
    · have := keyB_inj (a := k) (b := [97]) h; simp [this]
  · intro h
    simp only [List.mem_cons, List.not_mem_nil, or_false] at h
    rcases h with rfl | rfl
    · exact ⟨⟨3, [], false⟩, by simp [RF3]⟩
    · exact ⟨⟨5, [], true⟩, by simp [RF3]⟩
theorem fx_live : liveR RF3 = 1 := by
  unfold liveR
  rw [fx_keys]
  decide
theorem fx_vac : vacR RF3 5 = [(kB, ⟨5, [], true⟩), (kA, ⟨3, [], false⟩)] := by decide
theorem fx_vers : (versR (vacR RF3 5)).length = 2 := by rw [versR_length, fx_vac]; rfl

set_option maxRecDepth 100000 in
set_option maxHeartbeats 4000000 in
theorem fixed_is (w : World) : Calls Try.prog 15 #[] w fun e w' => e = .returned (.bool true) ∧ Only NoneOf w w' := by
  have HN := Lib.hid (newR w NoneOf (fun _ h => h.elim))
  go_enter Try.func15, Try.ntmps15
  go_wp2_with fail
  refine HN.out.mono ?_; rintro e w1 ⟨rfl, T1, h1, ho1, ht1⟩
  have hb1 : BytesAt (w1.alloc (.cells #[.int .u8 20] 5)) (some ⟨w1.heap.size, 0, none⟩) [20] := fun i c hc => by
    cases i with
    | zero => simp at hc; subst hc; exact ⟨_, 0, rfl, by simp, (Blk.new w1 5 #[.int .u8 20]).cellv 0 rfl⟩
    | succ i => simp at hc
  have HA1 := applyR _ _ _ _ _ _ (h1.keep ((Only.refl NoneOf w1).alloc (.cells #[.int .u8 20] 5))) (by decide) kB 2 (some ⟨w1.heap.size, 0, none⟩) 1 1 false [20] rfl hb1
  have HO1 := Lib.hid (ho1.alloc (.cells #[.int .u8 20] 5))
  have HT1 := Lib.hid ht1
  rw [fx_c1, fx_a1] at HA1
  clear h1 ho1 ht1 hb1
  go_wp2_with fail
  refine HA1.mono ?_; rintro e w2 ⟨rfl, T2, h2, ho2, ht2⟩
  have HO2 := Lib.hid (HO1.out.step ho2 (fun k hk hh => by have := HT1.out k hh; omega))
  have HT2 := Lib.hid (show ∀ k, T2 k → w.heap.size ≤ k from fun k hk => by
    rcases ht2 k hk with h | h
    · exact HT1.out k h
    · have := HO1.out.size; omega)
  have HA2 := applyR _ _ _ _ _ _ h2 (by decide) kB 5 none 0 0 true [] rfl (fun i c h => by simp at h)
  rw [fx_c2, fx_a2] at HA2
  clear HA1 ho2 ht2 h2
  go_wp2_with fail
  refine HA2.mono ?_; rintro e w3 ⟨rfl, T3, h3, ho3, ht3⟩
  have HO3 := Lib.hid (HO2.out.step ho3 (fun k hk hh => by have := HT2.out k hh; omega))
  have HT3 := Lib.hid (show ∀ k, T3 k → w.heap.size ≤ k from fun k hk => by
    rcases ht3 k hk with h | h
    · exact HT2.out k h
    · have := HO2.out.size; omega)
  have HA3 := applyR _ _ _ _ _ _ h3 (by decide) kA 3 none 0 0 false [] rfl (fun i c h => by simp at h)
  rw [fx_c3, fx_a3] at HA3
  clear HA2 ho3 ht3 h3
  go_wp2_with fail
  refine HA3.mono ?_; rintro e w4 ⟨rfl, T4, h4, ho4, ht4⟩
  have HO4 := Lib.hid (HO3.out.step ho4 (fun k hk hh => by have := HT3.out k hh; omega))
  have HT4 := Lib.hid (show ∀ k, T4 k → w.heap.size ≤ k from fun k hk => by
    rcases ht4 k hk with h | h
    · exact HT3.out k h
    · have := HO3.out.size; omega)
  have H4 := Lib.hid h4
  clear HA3 ho4 ht4 h4
  have HG := getR _ _ _ _ _ _ H4.out kB 4 (by decide)
  rw [fx_g4] at HG
  go_wp2_with fail
  refine HG.mono ?_; rintro e w5 ⟨⟨v5, rfl, hv5⟩, ho5⟩
  obtain ⟨A5, c5, rfl, hb5⟩ := RowB.at hv5
  obtain ⟨g5, o5, rfl, hg5, hc5⟩ := hb5 0 20 rfl
  have H5 := Lib.hid (H4.out.keep ho5)
  have HO5 := Lib.hid (HO4.out.trans ho5)
  rw [Nat.add_zero] at hc5
  clear HG ho5 hb5 hv5
  have HG := getR _ _ _ _ _ _ H5.out kB 5 (by decide)
  rw [fx_g5] at HG
  go_wp2_with fail
  refine HG.mono ?_; rintro e w6 ⟨rfl, ho6⟩
  have H6 := Lib.hid (H5.out.keep ho6)
  have HO6 := Lib.hid (HO5.out.trans ho6)
  have hc6 := (ho6.cell (p := ⟨g5, o5, none⟩) hg5 (fun h => h)).trans hc5
  have hg6 := Nat.lt_of_lt_of_le hg5 ho6.size
  clear HG ho6 hc5 hg5
  have HL := lenR _ _ _ _ _ _ H6.out (by decide)
  rw [fx_keys] at HL
  go_wp2_with fail
  refine HL.mono ?_; rintro e w7 ⟨rfl, ho7⟩
  have H7 := Lib.hid (H6.out.keep ho7)
  have HO7 := Lib.hid (HO6.out.trans ho7)
  have hc7 := (ho7.cell (p := ⟨g5, o5, none⟩) hg6 (fun h => h)).trans hc6
  clear HL ho7 hc6 hg6
  have HV := liveIs2 _ _ _ _ _ _ H7.out
  rw [fx_live] at HV
  go_wp2_with fail
  refine HV.mono ?_; rintro e w8 ⟨rfl, ho8⟩
  have H8 := Lib.hid (H7.out.keep ho8)
  have HO8 := Lib.hid (HO7.out.trans ho8)
  clear HV ho8 hc7
  have HC := vacuumR _ _ _ _ _ _ H8.out (by decide) 5
  have e2 : (RF3.length - (vacR RF3 5).length : Nat) = 1 := by rw [fx_vac]; rfl
  rw [e2] at HC
  go_wp2_with fail
  refine HC.mono ?_; rintro e w9 ⟨rfl, T9, h9, ho9, ht9⟩
  have HO9 := Lib.hid (HO8.out.step ho9 (fun k hk hh => by have := HT4.out k hh; omega))
  have HVS := versionsR _ _ _ _ _ _ h9 (by decide)
  clear HC ho9 ht9
  go_wp2_with fail
  refine HVS.mono ?_; rintro e w10 ⟨v, rs, rfl, hr, hpl, ho10⟩
  have hlen : rs.length = 2 := by rw [← fx_vers, ← hpl, List.length_map]
  obtain ⟨A, c, rfl⟩ := ownsRow_slice hr.own
  rw [hlen]
  have HO10 := Lib.hid (HO9.out.trans ho10)
  clear HVS ho10 hr hpl
  go_wp2_with fail
  go_ret
  exact ⟨rfl, HO10.out⟩

end Go.Proofs.Ytnonnencdhogiaa
