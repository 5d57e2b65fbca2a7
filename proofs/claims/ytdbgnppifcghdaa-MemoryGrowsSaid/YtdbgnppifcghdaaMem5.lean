import Derived.Test.YtdbgnppifcghdaaMem4
import Derived.StillTailTactics
open Go Go.Proofs Go.RowKit Go.Proofs.YtdbgnppifcghdaaW.PrintWords
namespace Go.Proofs.Ytdbgnppifcghdaa.Mem
set_option linter.unusedVariables false
set_option linter.unusedSimpArgs false
attribute [local go_sem] min2_ints min_two_

set_option maxRecDepth 100000 in
set_option maxHeartbeats 1600000 in
theorem grows_pages (w : World) (wide hm : Bool) (mn mx n : Int) (B : Option Addr) (L c : Nat) (a1 : 0 ≤ mn) (a2 : mn < 18446744073709551616) (h : 4 < mn) :
    Calls Try.prog 3 #[.agg #[.bool wide, .int .u64 mn, .int .u64 mx, .bool hm], .int .u64 n, .slice B L c] w fun e w' => e = .returned (.bool true) ∧ Below w.heap.size w w' := by
  go_enter Try.func3, Try.ntmps3
  go_wp2_with (first
    | (go_at_call 6; refine (new_pages _ a1 a2 (.inl h)).mono ?_; rintro e w1 ⟨rfl, hb⟩; have HB := Aside0.mk hb; clear hb)
    | (go_at_call 7; refine awake_calls.mono ?_; rintro e w2 ⟨rfl, hb⟩; have HB1 := Aside0.mk hb; clear hb))
  go_ret
  exact ⟨rfl, ((Below.refl _ _).alloc (Nat.le_refl _) _).trans ((HB.out.mono (by simp)).trans (HB1.out.mono (Nat.le_trans (by simp) HB.out.size)))⟩

set_option maxRecDepth 100000 in
set_option maxHeartbeats 1600000 in
theorem grows_arg (w : World) (wide : Bool) (mn mx n : Int) (B : Option Addr) (L c : Nat) (a1 : 0 ≤ mn) (a2 : mn ≤ 4) (h : mx < mn) :
    Calls Try.prog 3 #[.agg #[.bool wide, .int .u64 mn, .int .u64 mx, .bool true], .int .u64 n, .slice B L c] w fun e w' => e = .returned (.bool true) ∧ Below w.heap.size w w' := by
  go_enter Try.func3, Try.ntmps3
  go_wp2_with (first
    | (go_at_call 6; refine (new_arg _ a2 (by omega) rfl h).mono ?_; rintro e w1 ⟨rfl, hb⟩; have HB := Aside0.mk hb; clear hb)
    | (go_at_call 7; refine awake_calls.mono ?_; rintro e w2 ⟨rfl, hb⟩; have HB1 := Aside0.mk hb; clear hb))
  go_ret
  exact ⟨rfl, ((Below.refl _ _).alloc (Nat.le_refl _) _).trans ((HB.out.mono (by simp)).trans (HB1.out.mono (Nat.le_trans (by simp) HB.out.size)))⟩

/-- Size of rows: where the new pages begin. -/
theorem wrF_high (f : Nat → Int) (x : Nat) (l : List Int) (z : Nat) (h : x + l.length ≤ z) : wrF f x l z = f z := by
  simp only [wrF]; rw [if_neg (by omega)]

set_option maxRecDepth 100000 in
set_option maxHeartbeats 3200000 in
theorem grows_kept (w : World) (wide hm : Bool) (mn mx n : Int) (B : Option Addr) (l : List Int) (c : Nat) (HR : ReadsInt w .u8 B l.length l) (a1 : 0 ≤ mn) (a2 : mn ≤ 4) (a3 : hm = true → mn ≤ mx) (x0 : 0 ≤ mx) (x1 : mx < 18446744073709551616) (n0 : 0 ≤ n) (n1 : n < 18446744073709551616) (h : (l.length : Int) ≤ mn * 65536)
    (hlt : (l.length : Int) < mn * 65536) :
    Calls Try.prog 3 #[.agg #[.bool wide, .int .u64 mn, .int .u64 mx, .bool hm], .int .u64 n, .slice B l.length c] w fun e w' => e = .returned (.bool true) ∧ Below w.heap.size w w' := by
  have HRA := Aside0.mk HR
  clear HR
  go_enter Try.func3, Try.ntmps3
  go_wp2_with (go_at_call 6; refine (new_yes _ a1 (by omega) (by omega) a3).mono ?_; rintro e w1 ⟨g, rfl, hM, hb⟩; have HM := Aside0.mk hM; have HB := Aside0.mk hb; clear hM hb)
  obtain ⟨v, ps, hm1, hl1⟩ := HM.out
  have HM1 := Aside0.mk hm1
  have HL := Aside0.mk hl1
  have n64 := hm1.n64
  have q1 : (ps.length : Int) = mn := by omega
  clear hm1 hl1 HM
  go_wp2_with (go_at_call 8; refine (size_calls HM1.out).mono ?_; rintro e w' ⟨rfl, rfl⟩)
  have HR1 : Aside0 (ReadsInt w1 .u8 B l.length l) := ⟨HRA.out.below (Below.trans ((Below.refl _ _).alloc (Nat.le_refl _) _) (HB.out.mono (by simp)))⟩
  have HN : Aside0 (0 < l.length → ∀ ad, B = some ad → ad.block ∉ ps) := ⟨fun h0 ad hB hm => by
    obtain ⟨ad', e', hcell⟩ := HRA.out.at_ 0 (by omega) (by omega)
    rw [e'] at hB
    injection hB with hB
    subst hB
    have h1 := World.block_lt_of_cell? _ _ hcell
    have h2 := HM1.out.pgb _ hm
    simp [Addr.add] at h1 h2
    omega⟩
  refine (write_yes HM1.out _ (by omega) _ _ _ HR1.out HN.out (by rw [q1]; omega)).mono ?_
  rintro e w2 ⟨rfl, hM, hk⟩
  have HM2 := Aside0.mk hM
  have HK2 := Aside0.mk hk
  clear hM hk
  have HZ : Aside0 (∀ j, 65536 * ps.length ≤ j → wrF (fun _ => 0) (mn * 65536 - (l.length : Int)).toNat l j = 0) := ⟨fun j hj => wrF_high _ _ _ _ (by omega)⟩
  by_cases hg : n ≤ 4 ∧ (hm = true → mn + n ≤ mx)
  · go_wp2_with (go_at_call 10; refine (grow_yes HM2.out _ _ n0 hg.1 (by omega) (by rw [q1]; exact hg.2) x1 (by have := HB.out.size; have := HK2.out.size; omega) HZ.out).mono ?_; rintro e w3 ⟨rfl, hM, hb⟩; have HM := Aside0.mk hM; have HB3 := Aside0.mk hb; clear hM hb)
    obtain ⟨v', ps', hm3, hl3⟩ := HM.out
    have HM3 := Aside0.mk hm3
    have HL3 := Aside0.mk hl3
    have n64' := hm3.n64
    have hg1 := hg.1
    have q2 : (ps'.length : Int) = mn + n := by omega
    have HP := Aside0.mk hm3.pgb
    clear hm3 hl3 HM hg
    have t1 : ((mn + n) * 65536 != mn * 65536 + n * 65536) = false := by rw [bne_eq_false_iff_eq]; omega
    go_wp2_with (first
      | (go_at_call 8; refine (size_calls HM3.out).mono ?_; rintro e w' ⟨rfl, rfl⟩))
    have hw := HB.out.size
    have hw2 := HK2.out.size
    simp only [World.size_alloc] at hw
    have HW3 : Aside0 (Below w.heap.size w w3) := ⟨(((Below.refl _ _).alloc (Nat.le_refl _) _).trans (HB.out.mono (by simp))).trans ((KP.below (Below.refl _ _) HK2.out (by omega) (fun p hp => by have := HM1.out.pgb p hp; simp at this; omega)).trans (HB3.out.mono (by simp)))⟩
    have hw3 := HW3.out.size
    refine (read_yes HM3.out _ _ (by omega) (by omega) (by rw [q2]; omega)).mono ?_
    rintro e w4 ⟨v4, rfl, ho, hb⟩
    rw [Int.toNat_natCast, rdL_wr _ _ _ _ (Nat.le_refl _), List.take_length] at ho
    have HM4 := Aside0.mk (HM3.out.below hb)
    have HW4 : Aside0 (Below w.heap.size w w4) := ⟨HW3.out.trans (hb.mono (by omega))⟩
    obtain ⟨A4, c4, e4⟩ := own_slice ho
    subst e4
    have cv1 := convert_row ho
    have cv2 : Sem.run Try.prog (convert 25 9 (.slice B l.length c)) w4 = _ := string_of_reads Try.underlying25 Try.underlying5 Try.underlying9 (HRA.out.below HW4.out)
    clear ho hb HM3 HW3
    go_wp2_with fail
    obtain ⟨D, hD⟩ : ∃ D : Nat, (mn + n) * 65536 - mn * 65536 = (D : Int) := ⟨(n * 65536).toNat, by omega⟩
    have hDn : D ≤ 262144 := by omega
    rw [hD]
    refine (read_yes HM4.out _ _ (by omega) (by omega) (by rw [q2]; omega)).mono ?_
    rintro e w5 ⟨v5, rfl, ho, hb⟩
    rw [Int.toNat_natCast] at ho
    have hw4 := HW4.out.size
    have HW5 : Aside0 (Below w.heap.size w w5) := ⟨HW4.out.trans (hb.mono (by omega))⟩
    have hz : ∀ k : Nat, k < D → rd (rdL (wrF (fun _ => 0) (mn * 65536 - (l.length : Int)).toNat l) (mn * 65536).toNat D) (k : Int) = 0 := by
      intro k hk
      have := HZ.out ((mn * 65536).toNat + k) (by omega)
      simp only [rd, rdL, Int.toNat_natCast, List.getD_eq_getElem?_getD, List.getElem?_map, List.getElem?_range hk, Option.map_some, Option.getD_some]
      exact this
    obtain ⟨A5, c5, e5⟩ := own_slice ho
    subst e5
    have HR5 := Aside0.mk (own_reads' ho)
    have HZ5 := Aside0.mk hz
    clear ho hb HM4 cv1 cv2 hz
    go_wp2_with fail
    go_loop [19] (fun i => ∃ k : Nat, k ≤ D ∧ i = .int .i64 k) (fun i => D - (intOf i).toNat)
    case atStart => exact ⟨0, by omega, rfl⟩
    case round =>
      obtain ⟨k, hk, rfl⟩ := hrel
      by_cases hlt : k < D
      · obtain ⟨ad, hA5, hcell⟩ := HR5.out.at_ (k : Int) (by omega) (by omega)
        rw [HZ5.out k hlt] at hcell
        subst hA5
        simp only [Int.toNat_natCast] at hcell
        go_wp2_with fail
        go_round
        case rel => exact ⟨k + 1, by omega, by go_num⟩
        case measure => simp [intOf]; omega
      · obtain rfl : k = D := by omega
        go_wp2_with (go_at_call 7; refine awake_calls.mono ?_; rintro e w6 ⟨rfl, hb⟩; have HB6 := Aside0.mk hb; clear hb)
        go_ret
        exact ⟨rfl, HW5.out.trans (HB6.out.mono HW5.out.size)⟩
  · have hg' : 4 < n ∨ 64 < (ps.length : Int) + n ∨ (hm = true ∧ mx < ps.length + n) := by
      by_cases k1 : n ≤ 4
      · refine .inr (.inr ?_)
        cases hm with
        | false => exact absurd ⟨k1, by simp⟩ hg
        | true => exact ⟨rfl, by by_cases h1 : mx < (ps.length : Int) + n; exact h1; exact absurd ⟨k1, fun _ => by omega⟩ hg⟩
      · exact .inl (by omega)
    have HG := Aside0.mk hg'
    clear hg hg'
    go_wp2_with (first
      | (go_at_call 10; refine (grow_no HM2.out _ _ n0 x0 x1 HG.out).mono ?_; rintro e w3 ⟨rfl, rfl⟩)
      | (go_at_call 8; refine (size_calls HM2.out).mono ?_; rintro e w' ⟨rfl, rfl⟩)
      | (go_at_call 7; refine awake_calls.mono ?_; rintro e w4 ⟨rfl, hb⟩; have HB1 := Aside0.mk hb; clear hb))
    go_ret
    have hw := HB.out.size
    have hw2 := HK2.out.size
    simp only [World.size_alloc] at hw
    exact ⟨rfl, (((Below.refl _ _).alloc (Nat.le_refl _) _).trans (HB.out.mono (by simp))).trans ((KP.below (Below.refl _ _) HK2.out (by omega) (fun p hp => by have := HM1.out.pgb p hp; simp at this; omega)).trans (HB1.out.mono (by omega)))⟩
set_option maxRecDepth 100000 in
set_option maxHeartbeats 3200000 in
theorem grows_even (w : World) (wide hm : Bool) (mn mx n : Int) (B : Option Addr) (l : List Int) (c : Nat) (HR : ReadsInt w .u8 B l.length l) (a1 : 0 ≤ mn) (a2 : mn ≤ 4) (a3 : hm = true → mn ≤ mx) (x0 : 0 ≤ mx) (x1 : mx < 18446744073709551616) (n0 : 0 ≤ n) (n1 : n < 18446744073709551616) (h : (l.length : Int) ≤ mn * 65536)
    (hge : mn * 65536 ≤ (l.length : Int)) :
    Calls Try.prog 3 #[.agg #[.bool wide, .int .u64 mn, .int .u64 mx, .bool hm], .int .u64 n, .slice B l.length c] w fun e w' => e = .returned (.bool true) ∧ Below w.heap.size w w' := by
  have HRA := Aside0.mk HR
  clear HR
  go_enter Try.func3, Try.ntmps3
  go_wp2_with (go_at_call 6; refine (new_yes _ a1 (by omega) (by omega) a3).mono ?_; rintro e w1 ⟨g, rfl, hM, hb⟩; have HM := Aside0.mk hM; have HB := Aside0.mk hb; clear hM hb)
  obtain ⟨v, ps, hm1, hl1⟩ := HM.out
  have HM1 := Aside0.mk hm1
  have HL := Aside0.mk hl1
  have n64 := hm1.n64
  have q1 : (ps.length : Int) = mn := by omega
  clear hm1 hl1 HM
  go_wp2_with (go_at_call 8; refine (size_calls HM1.out).mono ?_; rintro e w' ⟨rfl, rfl⟩)
  have HR1 : Aside0 (ReadsInt w1 .u8 B l.length l) := ⟨HRA.out.below (Below.trans ((Below.refl _ _).alloc (Nat.le_refl _) _) (HB.out.mono (by simp)))⟩
  have HN : Aside0 (0 < l.length → ∀ ad, B = some ad → ad.block ∉ ps) := ⟨fun h0 ad hB hm => by
    obtain ⟨ad', e', hcell⟩ := HRA.out.at_ 0 (by omega) (by omega)
    rw [e'] at hB
    injection hB with hB
    subst hB
    have h1 := World.block_lt_of_cell? _ _ hcell
    have h2 := HM1.out.pgb _ hm
    simp [Addr.add] at h1 h2
    omega⟩
  refine (write_yes HM1.out _ (by omega) _ _ _ HR1.out HN.out (by rw [q1]; omega)).mono ?_
  rintro e w2 ⟨rfl, hM, hk⟩
  have HM2 := Aside0.mk hM
  have HK2 := Aside0.mk hk
  clear hM hk
  have HZ : Aside0 (∀ j, 65536 * ps.length ≤ j → wrF (fun _ => 0) (Int.toNat 0) l j = 0) := ⟨fun j hj => wrF_high _ _ _ _ (by omega)⟩
  by_cases hg : n ≤ 4 ∧ (hm = true → mn + n ≤ mx)
  · go_wp2_with (go_at_call 10; refine (grow_yes HM2.out _ _ n0 hg.1 (by omega) (by rw [q1]; exact hg.2) x1 (by have := HB.out.size; have := HK2.out.size; omega) HZ.out).mono ?_; rintro e w3 ⟨rfl, hM, hb⟩; have HM := Aside0.mk hM; have HB3 := Aside0.mk hb; clear hM hb)
    obtain ⟨v', ps', hm3, hl3⟩ := HM.out
    have HM3 := Aside0.mk hm3
    have HL3 := Aside0.mk hl3
    have n64' := hm3.n64
    have hg1 := hg.1
    have q2 : (ps'.length : Int) = mn + n := by omega
    have HP := Aside0.mk hm3.pgb
    clear hm3 hl3 HM hg
    have t1 : ((mn + n) * 65536 != mn * 65536 + n * 65536) = false := by rw [bne_eq_false_iff_eq]; omega
    go_wp2_with (first
      | (go_at_call 8; refine (size_calls HM3.out).mono ?_; rintro e w' ⟨rfl, rfl⟩))
    have hw := HB.out.size
    have hw2 := HK2.out.size
    simp only [World.size_alloc] at hw
    have HW3 : Aside0 (Below w.heap.size w w3) := ⟨(((Below.refl _ _).alloc (Nat.le_refl _) _).trans (HB.out.mono (by simp))).trans ((KP.below (Below.refl _ _) HK2.out (by omega) (fun p hp => by have := HM1.out.pgb p hp; simp at this; omega)).trans (HB3.out.mono (by simp)))⟩
    have hw3 := HW3.out.size
    refine (read_yes HM3.out _ _ (by omega) (by omega) (by rw [q2]; omega)).mono ?_
    rintro e w4 ⟨v4, rfl, ho, hb⟩
    rw [Int.toNat_natCast, rdL_wr _ _ _ _ (Nat.le_refl _), List.take_length] at ho
    have HM4 := Aside0.mk (HM3.out.below hb)
    have HW4 : Aside0 (Below w.heap.size w w4) := ⟨HW3.out.trans (hb.mono (by omega))⟩
    obtain ⟨A4, c4, e4⟩ := own_slice ho
    subst e4
    have cv1 := convert_row ho
    have cv2 : Sem.run Try.prog (convert 25 9 (.slice B l.length c)) w4 = _ := string_of_reads Try.underlying25 Try.underlying5 Try.underlying9 (HRA.out.below HW4.out)
    clear ho hb HM3 HW3
    go_wp2_with fail
    obtain ⟨D, hD⟩ : ∃ D : Nat, (mn + n) * 65536 - mn * 65536 = (D : Int) := ⟨(n * 65536).toNat, by omega⟩
    have hDn : D ≤ 262144 := by omega
    rw [hD]
    refine (read_yes HM4.out _ _ (by omega) (by omega) (by rw [q2]; omega)).mono ?_
    rintro e w5 ⟨v5, rfl, ho, hb⟩
    rw [Int.toNat_natCast] at ho
    have hw4 := HW4.out.size
    have HW5 : Aside0 (Below w.heap.size w w5) := ⟨HW4.out.trans (hb.mono (by omega))⟩
    have hz : ∀ k : Nat, k < D → rd (rdL (wrF (fun _ => 0) (Int.toNat 0) l) (mn * 65536).toNat D) (k : Int) = 0 := by
      intro k hk
      have := HZ.out ((mn * 65536).toNat + k) (by omega)
      simp only [rd, rdL, Int.toNat_natCast, List.getD_eq_getElem?_getD, List.getElem?_map, List.getElem?_range hk, Option.map_some, Option.getD_some]
      exact this
    obtain ⟨A5, c5, e5⟩ := own_slice ho
    subst e5
    have HR5 := Aside0.mk (own_reads' ho)
    have HZ5 := Aside0.mk hz
    clear ho hb HM4 cv1 cv2 hz
    go_wp2_with fail
    go_loop [19] (fun i => ∃ k : Nat, k ≤ D ∧ i = .int .i64 k) (fun i => D - (intOf i).toNat)
    case atStart => exact ⟨0, by omega, rfl⟩
    case round =>
      obtain ⟨k, hk, rfl⟩ := hrel
      by_cases hlt : k < D
      · obtain ⟨ad, hA5, hcell⟩ := HR5.out.at_ (k : Int) (by omega) (by omega)
        rw [HZ5.out k hlt] at hcell
        subst hA5
        simp only [Int.toNat_natCast] at hcell
        go_wp2_with fail
        go_round
        case rel => exact ⟨k + 1, by omega, by go_num⟩
        case measure => simp [intOf]; omega
      · obtain rfl : k = D := by omega
        go_wp2_with (go_at_call 7; refine awake_calls.mono ?_; rintro e w6 ⟨rfl, hb⟩; have HB6 := Aside0.mk hb; clear hb)
        go_ret
        exact ⟨rfl, HW5.out.trans (HB6.out.mono HW5.out.size)⟩
  · have hg' : 4 < n ∨ 64 < (ps.length : Int) + n ∨ (hm = true ∧ mx < ps.length + n) := by
      by_cases k1 : n ≤ 4
      · refine .inr (.inr ?_)
        cases hm with
        | false => exact absurd ⟨k1, by simp⟩ hg
        | true => exact ⟨rfl, by by_cases h1 : mx < (ps.length : Int) + n; exact h1; exact absurd ⟨k1, fun _ => by omega⟩ hg⟩
      · exact .inl (by omega)
    have HG := Aside0.mk hg'
    clear hg hg'
    go_wp2_with (first
      | (go_at_call 10; refine (grow_no HM2.out _ _ n0 x0 x1 HG.out).mono ?_; rintro e w3 ⟨rfl, rfl⟩)
      | (go_at_call 8; refine (size_calls HM2.out).mono ?_; rintro e w' ⟨rfl, rfl⟩)
      | (go_at_call 7; refine awake_calls.mono ?_; rintro e w4 ⟨rfl, hb⟩; have HB1 := Aside0.mk hb; clear hb))
    go_ret
    have hw := HB.out.size
    have hw2 := HK2.out.size
    simp only [World.size_alloc] at hw
    exact ⟨rfl, (((Below.refl _ _).alloc (Nat.le_refl _) _).trans (HB.out.mono (by simp))).trans ((KP.below (Below.refl _ _) HK2.out (by omega) (fun p hp => by have := HM1.out.pgb p hp; simp at this; omega)).trans (HB1.out.mono (by omega)))⟩
set_option maxRecDepth 100000 in
set_option maxHeartbeats 3200000 in
theorem grows_long (w : World) (wide hm : Bool) (mn mx n : Int) (B : Option Addr) (l : List Int) (c : Nat) (HR : ReadsInt w .u8 B l.length l) (a1 : 0 ≤ mn) (a2 : mn ≤ 4) (a3 : hm = true → mn ≤ mx) (x0 : 0 ≤ mx) (x1 : mx < 18446744073709551616) (n0 : 0 ≤ n) (n1 : n < 18446744073709551616)
    (h : mn * 65536 < (l.length : Int)) (hL : l.length ≤ 140737488351232) :
    Calls Try.prog 3 #[.agg #[.bool wide, .int .u64 mn, .int .u64 mx, .bool hm], .int .u64 n, .slice B l.length c] w fun e w' => e = .returned (.bool true) ∧ Below w.heap.size w w' := by
  have HRA := Aside0.mk HR
  clear HR
  go_enter Try.func3, Try.ntmps3
  go_wp2_with (go_at_call 6; refine (new_yes _ a1 (by omega) (by omega) a3).mono ?_; rintro e w1 ⟨g, rfl, hM, hb⟩; have HM := Aside0.mk hM; have HB := Aside0.mk hb; clear hM hb)
  obtain ⟨v, ps, hm1, hl1⟩ := HM.out
  have HM1 := Aside0.mk hm1
  have HL := Aside0.mk hl1
  have n64 := hm1.n64
  have q1 : (ps.length : Int) = mn := by omega
  clear hm1 hl1 HM
  go_wp2_with (go_at_call 8; refine (size_calls HM1.out).mono ?_; rintro e w' ⟨rfl, rfl⟩)
  refine (write_no HM1.out _ (by omega) (by omega) _ _ _ (by omega) (by rw [q1]; omega)).mono ?_
  rintro e w2 ⟨rfl, rfl⟩
  by_cases hg : n ≤ 4 ∧ (hm = true → mn + n ≤ mx)
  · go_wp2_with (go_at_call 10; refine (grow_yes HM1.out _ _ n0 hg.1 (by omega) (by rw [q1]; exact hg.2) x1 (by have := HB.out.size; omega) (fun _ _ => rfl)).mono ?_; rintro e w3 ⟨rfl, hM, hb⟩; have HM := Aside0.mk hM; have HB3 := Aside0.mk hb; clear hM hb)
    obtain ⟨v', ps', hm3, hl3⟩ := HM.out
    have HM3 := Aside0.mk hm3
    have HL3 := Aside0.mk hl3
    have n64' := hm3.n64
    have hg1 := hg.1
    have q2 : (ps'.length : Int) = mn + n := by omega
    have HP := Aside0.mk hm3.pgb
    clear hm3 hl3 HM hg
    have t1 : ((mn + n) * 65536 != mn * 65536 + n * 65536) = false := by rw [bne_eq_false_iff_eq]; omega
    go_wp2_with (first
      | (go_at_call 8; refine (size_calls HM3.out).mono ?_; rintro e w' ⟨rfl, rfl⟩))
    have hw := HB.out.size
    simp only [World.size_alloc] at hw
    have HW3 : Aside0 (Below w.heap.size w w3) := ⟨(((Below.refl _ _).alloc (Nat.le_refl _) _).trans (HB.out.mono (by simp))).trans (HB3.out.mono (by simp))⟩
    have hw3 := HW3.out.size
    by_cases hrd : (l.length : Int) ≤ (mn + n) * 65536
    · refine (read_yes HM3.out _ _ (by omega) (by omega) (by rw [q2]; omega)).mono ?_
      rintro e w4 ⟨v4, rfl, ho, hb⟩
      have HM4 := Aside0.mk (HM3.out.below hb)
      have HW4 : Aside0 (Below w.heap.size w w4) := ⟨HW3.out.trans (hb.mono (by omega))⟩
      obtain ⟨A4, c4, e4⟩ := own_slice ho
      subst e4
      clear ho hb HM3 HW3
      go_wp2_with fail
      obtain ⟨D, hD⟩ : ∃ D : Nat, (mn + n) * 65536 - mn * 65536 = (D : Int) := ⟨(n * 65536).toNat, by omega⟩
      have hDn : D ≤ 262144 := by omega
      rw [hD]
      refine (read_yes HM4.out _ _ (by omega) (by omega) (by rw [q2]; omega)).mono ?_
      rintro e w5 ⟨v5, rfl, ho, hb⟩
      rw [Int.toNat_natCast] at ho
      have hw4 := HW4.out.size
      have HW5 : Aside0 (Below w.heap.size w w5) := ⟨HW4.out.trans (hb.mono (by omega))⟩
      have hz : ∀ k : Nat, k < D → rd (rdL (fun _ => 0) (mn * 65536).toNat D) (k : Int) = 0 := by
        intro k hk
        simp only [rd, rdL, Int.toNat_natCast, List.getD_eq_getElem?_getD, List.getElem?_map, List.getElem?_range hk, Option.map_some, Option.getD_some]
      obtain ⟨A5, c5, e5⟩ := own_slice ho
      subst e5
      have HR5 := Aside0.mk (own_reads' ho)
      have HZ5 := Aside0.mk hz
      clear ho hb HM4 hz
      go_wp2_with fail
      go_loop [19] (fun i => ∃ k : Nat, k ≤ D ∧ i = .int .i64 k) (fun i => D - (intOf i).toNat)
      case atStart => exact ⟨0, by omega, rfl⟩
      case round =>
        obtain ⟨k, hk, rfl⟩ := hrel
        by_cases hlt : k < D
        · obtain ⟨ad, hA5, hcell⟩ := HR5.out.at_ (k : Int) (by omega) (by omega)
          rw [HZ5.out k hlt] at hcell
          subst hA5
          simp only [Int.toNat_natCast] at hcell
          go_wp2_with fail
          go_round
          case rel => exact ⟨k + 1, by omega, by go_num⟩
          case measure => simp [intOf]; omega
        · obtain rfl : k = D := by omega
          go_wp2_with (go_at_call 7; refine awake_calls.mono ?_; rintro e w6 ⟨rfl, hb⟩; have HB6 := Aside0.mk hb; clear hb)
          go_ret
          exact ⟨rfl, HW5.out.trans (HB6.out.mono HW5.out.size)⟩
    · refine (read_no HM3.out _ _ (by omega) (by omega) (by omega) (by omega) (by rw [q2]; omega)).mono ?_
      rintro e w4 ⟨rfl, rfl⟩
      have HM4 := HM3
      have HW4 := HW3
      clear HM3 HW3
      go_wp2_with fail
      obtain ⟨D, hD⟩ : ∃ D : Nat, (mn + n) * 65536 - mn * 65536 = (D : Int) := ⟨(n * 65536).toNat, by omega⟩
      have hDn : D ≤ 262144 := by omega
      rw [hD]
      refine (read_yes HM4.out _ _ (by omega) (by omega) (by rw [q2]; omega)).mono ?_
      rintro e w5 ⟨v5, rfl, ho, hb⟩
      rw [Int.toNat_natCast] at ho
      have hw4 := HW4.out.size
      have HW5 : Aside0 (Below w.heap.size w w5) := ⟨HW4.out.trans (hb.mono (by omega))⟩
      have hz : ∀ k : Nat, k < D → rd (rdL (fun _ => 0) (mn * 65536).toNat D) (k : Int) = 0 := by
        intro k hk
        simp only [rd, rdL, Int.toNat_natCast, List.getD_eq_getElem?_getD, List.getElem?_map, List.getElem?_range hk, Option.map_some, Option.getD_some]
      obtain ⟨A5, c5, e5⟩ := own_slice ho
      subst e5
      have HR5 := Aside0.mk (own_reads' ho)
      have HZ5 := Aside0.mk hz
      clear ho hb HM4 hz
      go_wp2_with fail
      go_loop [19] (fun i => ∃ k : Nat, k ≤ D ∧ i = .int .i64 k) (fun i => D - (intOf i).toNat)
      case atStart => exact ⟨0, by omega, rfl⟩
      case round =>
        obtain ⟨k, hk, rfl⟩ := hrel
        by_cases hlt : k < D
        · obtain ⟨ad, hA5, hcell⟩ := HR5.out.at_ (k : Int) (by omega) (by omega)
          rw [HZ5.out k hlt] at hcell
          subst hA5
          simp only [Int.toNat_natCast] at hcell
          go_wp2_with fail
          go_round
          case rel => exact ⟨k + 1, by omega, by go_num⟩
          case measure => simp [intOf]; omega
        · obtain rfl : k = D := by omega
          go_wp2_with (go_at_call 7; refine awake_calls.mono ?_; rintro e w6 ⟨rfl, hb⟩; have HB6 := Aside0.mk hb; clear hb)
          go_ret
          exact ⟨rfl, HW5.out.trans (HB6.out.mono HW5.out.size)⟩
  · have hg' : 4 < n ∨ 64 < (ps.length : Int) + n ∨ (hm = true ∧ mx < ps.length + n) := by
      by_cases k1 : n ≤ 4
      · refine .inr (.inr ?_)
        cases hm with
        | false => exact absurd ⟨k1, by simp⟩ hg
        | true => exact ⟨rfl, by by_cases h1 : mx < (ps.length : Int) + n; exact h1; exact absurd ⟨k1, fun _ => by omega⟩ hg⟩
      · exact .inl (by omega)
    have HG := Aside0.mk hg'
    clear hg hg'
    go_wp2_with (first
      | (go_at_call 10; refine (grow_no HM1.out _ _ n0 x0 x1 HG.out).mono ?_; rintro e w3 ⟨rfl, rfl⟩)
      | (go_at_call 8; refine (size_calls HM1.out).mono ?_; rintro e w' ⟨rfl, rfl⟩)
      | (go_at_call 7; refine awake_calls.mono ?_; rintro e w4 ⟨rfl, hb⟩; have HB1 := Aside0.mk hb; clear hb))
    go_ret
    have hw := HB.out.size
    simp only [World.size_alloc] at hw
    exact ⟨rfl, (((Below.refl _ _).alloc (Nat.le_refl _) _).trans (HB.out.mono (by simp))).trans (HB1.out.mono (by omega))⟩
end Go.Proofs.Ytdbgnppifcghdaa.Mem
