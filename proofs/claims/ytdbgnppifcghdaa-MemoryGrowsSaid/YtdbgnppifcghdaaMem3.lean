import Derived.Test.YtdbgnppifcghdaaMem2
open Go Go.Proofs Go.RowKit Go.Proofs.YtdbgnppifcghdaaW.PrintWords
namespace Go.Proofs.Ytdbgnppifcghdaa.Mem
set_option linter.unusedVariables false
set_option linter.unusedSimpArgs false
section
variable {w : World} {base g : Nat} {wide : Bool} {mn mx : Int} {hm : Bool} {v : Value} {ps : List Nat} {f : Nat → Int}

set_option maxHeartbeats 400000 in
theorem write_no (M : Mm w base g wide mn mx hm v ps f) (x : Int) (h0 : 0 ≤ x) (k0 : x < 18446744073709551616) (B : Option Addr) (n c : Nat) (hn : n ≤ 9223372036854775807) (h2 : 65536 * ps.length < x + n) :
    Calls Try.prog 9 #[.pointer (some ⟨g, 0, none⟩), .int .u64 x, .slice B n c] w fun e w' => e = .returned (.int .i64 210) ∧ w = w' := by
  have n64 := M.n64
  have HM := Aside0.mk M
  have hd : decide (x + (n : Int) ≤ 65536 * (ps.length : Int)) = false := by rw [decide_eq_false_iff_not]; omega
  clear M
  go_enter Try.func9, Try.ntmps9
  go_wp2_with (first
    | (go_at_call 29; refine (none_calls HM.out).mono ?_; rintro e w' ⟨rfl, rfl⟩)
    | (go_at_call 30; refine (has_calls HM.out _ _ (by omega) (by omega) (by omega) (by omega)).mono ?_; rintro e w' ⟨rfl, rfl⟩))
  go_ret
  exact ⟨rfl, rfl⟩

def flF (f : Nat → Int) (x n : Nat) (y : Int) : Nat → Int := fun z => if x ≤ z ∧ z < x + n then y else f z
theorem flF_zero (f : Nat → Int) (x : Nat) (y : Int) : flF f x 0 y = f := by
  funext z; simp only [flF]; rw [if_neg (by omega)]
theorem flF_succ (f : Nat → Int) (x n : Nat) (y : Int) : (fun z => if z = x + n then y else flF f x n y z) = flF f x (n+1) y := by
  funext z
  simp only [flF]
  by_cases h : z = x + n
  · rw [if_pos h, if_pos (by omega)]
  · rw [if_neg h]
    by_cases h2 : x ≤ z ∧ z < x + n
    · rw [if_pos h2, if_pos (by omega)]
    · rw [if_neg h2, if_neg (by omega)]

set_option maxHeartbeats 800000 in
theorem fill_yes (M : Mm w base g wide mn mx hm v ps f) (x n y : Int) (h0 : 0 ≤ x) (h1 : 0 ≤ n) (h2 : x + n ≤ 65536 * ps.length) :
    Calls Try.prog 13 #[.pointer (some ⟨g, 0, none⟩), .int .u64 x, .int .u8 y, .int .u64 n] w fun e w' => e = .returned (.int .i64 0) ∧ Mm w' base g wide mn mx hm v ps (flF f x.toNat n.toNat y) ∧ KP ps w w' := by
  have n64 := M.n64
  have HM := Aside0.mk M
  obtain ⟨N, rfl⟩ := Int.eq_ofNat_of_zero_le h1
  have hd : decide (x + (N : Int) ≤ 65536 * (ps.length : Int)) = true := by simpa using h2
  clear M
  go_enter Try.func13, Try.ntmps13
  go_wp2_with (first
    | (go_at_call 29; refine (none_calls HM.out).mono ?_; rintro e w' ⟨rfl, rfl⟩)
    | (go_at_call 30; refine (has_calls HM.out _ _ (by omega) (by omega) (by omega) (by omega)).mono ?_; rintro e w' ⟨rfl, rfl⟩))
  go_loopw [20] (fun i wr => ∃ k : Nat, k ≤ N ∧ i = .int .u64 k ∧ Aside0 (Mm wr base g wide mn mx hm v ps (flF f x.toNat k y)) ∧ Aside0 (KP ps w wr)) (fun i _ => N - (intOf i).toNat)
  case atStart => exact ⟨0, by omega, rfl, ⟨by simpa [flF_zero] using HM.out⟩, ⟨KP.refl _ _⟩⟩
  case round =>
    obtain ⟨k, hk, rfl, HM1, HK⟩ := hrel
    by_cases hlt : k < N
    · have hx1 : 0 ≤ x + (k : Int) := by omega
      have hx2 : x + (k : Int) < 65536 * (ps.length : Int) := by omega
      have hc2 := (HM1.out.cellAt _ hx1 hx2).2
      have hc3 := (HM1.out.cellAt _ hx1 hx2).1
      go_wp2_with (first
        | (go_at_call 31; refine (at_calls HM1.out _ (by omega) (by omega)).mono ?_; rintro e w' ⟨rfl, rfl⟩))
      go_roundw
      case rel =>
        refine ⟨k + 1, by omega, by go_num, ⟨?_⟩, ⟨HK.out.trans (KP.setCell (pgOf_mem _ hx1 hx2) _ _)⟩⟩
        have h := HM1.out.set_ _ hx1 hx2 y
        have ex : (x + (k : Int)).toNat = x.toNat + k := by omega
        rw [ex, flF_succ] at h
        exact h
      case measure => simp [intOf]; omega
    · obtain rfl : k = N := by omega
      go_wp2
      go_ret
      exact ⟨rfl, by simpa using HM1.out, HK.out⟩

theorem write_yes' (M : Mm w base g wide mn mx hm v ps f) (x : Int) (h0 : 0 ≤ x) (B : Option Addr) (l : List Int) (m c : Nat) (hl : l.length = m) (HR : ReadsInt w .u8 B m l) (hB : 0 < m → ∀ ad, B = some ad → ad.block ∉ ps) (h2 : x + m ≤ 65536 * ps.length) :
    Calls Try.prog 9 #[.pointer (some ⟨g, 0, none⟩), .int .u64 x, .slice B m c] w fun e w' => e = .returned (.int .i64 0) ∧ Mm w' base g wide mn mx hm v ps (wrF f x.toNat l) ∧ KP ps w w' := by
  subst hl
  exact write_yes M x h0 B l c HR hB h2

/-- A row of bytes is no page. -/
theorem Mm.not_page {b0 n c : Nat} {A : Option Addr} {xs : List Value} (M : Mm w base g wide mn mx hm v ps f) (ho : w.ownsRow b0 5 1 (.slice A n c) n xs) : ∀ ad, A = some ad → ad.block ∉ ps := by
  rintro ad rfl hm
  obtain ⟨i, hi, he⟩ := List.getElem_of_mem hm
  obtain ⟨cs, h1, _⟩ := M.pgs i hi
  exact own_ne ho h1 (by decide) (by rw [he]; rfl)

/-- copy within one memory, both ranges in it. -/
theorem copy_yes (M : Mm w base g wide mn mx hm v ps f) (tt x n : Int) (h0 : 0 ≤ x) (h1 : 0 ≤ n) (h3 : 0 ≤ tt) (h2 : x + n ≤ 65536 * ps.length) (h4 : tt + n ≤ 65536 * ps.length) :
    Calls Try.prog 12 #[.pointer (some ⟨g, 0, none⟩), .int .u64 tt, .pointer (some ⟨g, 0, none⟩), .int .u64 x, .int .u64 n] w fun e w' =>
      e = .returned (.int .i64 0) ∧ Mm w' base g wide mn mx hm v ps (wrF f tt.toNat (rdL f x.toNat n.toNat)) ∧ KP ps w w' := by
  have HM := Aside0.mk M
  clear M
  go_enter Try.func12, Try.ntmps12
  go_wp2_with (first
    | (go_at_call 29; refine (none_calls HM.out).mono ?_; rintro e w' ⟨rfl, rfl⟩)
    | (go_at_call 11; refine (read_yes HM.out _ _ h0 h1 h2).mono ?_; rintro e w1 ⟨v1, rfl, ho, hb1⟩; have HO := Aside0.mk ho; have HB := Aside0.mk hb1; obtain ⟨A1, c1, e1⟩ := own_slice ho; subst e1; clear ho hb1))
  have HM1 := HM.out.below HB.out
  refine (write_yes' HM1 _ h3 _ (rdL f x.toNat n.toNat) _ _ (rdL_length _ _ _) ?_ (fun _ => HM1.not_page HO.out) (by omega)).mono ?_
  · obtain ⟨A2, c2, e2, hr⟩ := own_reads HO.out
    injection e2 with e2
    rw [e2]
    exact hr
  rintro e w2 ⟨rfl, HM2, hk⟩
  have HM2' := Aside0.mk HM2
  have HB2 : Aside0 (KP ps w w2) := ⟨(KP.of_below HB.out).trans hk⟩
  clear HM2 hk HM1
  go_wp2
  go_ret
  exact ⟨rfl, HM2'.out, HB2.out⟩

set_option maxHeartbeats 400000 in
theorem new_pages (most : Int) (a1 : 0 ≤ mn) (a2 : mn < 18446744073709551616) (h : most < mn ∨ 64 < mn) :
    Calls Try.prog 6 #[.agg #[.bool wide, .int .u64 mn, .int .u64 mx, .bool hm], .int .u64 most] w fun e w' => e = .returned (.tuple #[.pointer none, .int .i64 211]) ∧ Below w.heap.size w w' := by
  by_cases h1 : most < mn
  · go_enter Try.func6, Try.ntmps6
    go_wp2
    go_ret2
    exact ⟨rfl, (Below.refl _ _).alloc (Nat.le_refl _) _⟩
  · have h2 : 64 < mn := by omega
    go_enter Try.func6, Try.ntmps6
    go_wp2
    go_ret2
    exact ⟨rfl, (Below.refl _ _).alloc (Nat.le_refl _) _⟩

set_option maxHeartbeats 400000 in
theorem new_arg (most : Int) (h1 : mn ≤ most) (h2 : mn ≤ 64) (h3 : hm = true) (h4 : mx < mn) :
    Calls Try.prog 6 #[.agg #[.bool wide, .int .u64 mn, .int .u64 mx, .bool hm], .int .u64 most] w fun e w' => e = .returned (.tuple #[.pointer none, .int .i64 1]) ∧ Below w.heap.size w w' := by
  subst h3
  have h1' : ¬ most < mn := by omega
  have h2' : ¬ 64 < mn := by omega
  go_enter Try.func6, Try.ntmps6
  go_wp2
  go_ret2
  exact ⟨rfl, (Below.refl _ _).alloc (Nat.le_refl _) _⟩

theorem mm_new (W : World) : Mm (W.alloc (.cells #[.bool true, .bool wide, .int .u64 mn, .int .u64 mx, .bool hm, .slice none 0 0] 64)) W.heap.size W.heap.size wide mn mx hm (.slice none 0 0) [] (fun _ => 0) :=
  ⟨blk_new _ _, Nat.le_refl _, by simp, own_nil _ _ _ _, by simp, by simp, by simp⟩

theorem Mm.lower {base' : Nat} (M : Mm w base g wide mn mx hm v ps f) (h : base' ≤ base) : Mm w base' g wide mn mx hm v ps f := by
  refine ⟨M.blk, Nat.le_trans h M.gb, M.n64, ?_, fun p hp => Nat.le_trans h (M.pgb p hp), M.pgs, M.nd⟩
  refine ⟨M.own.1, ?_⟩
  rcases M.own.2 with h1 | ⟨g', cap, cur, e, hb, r⟩
  · exact .inl h1
  · exact .inr ⟨g', cap, cur, e, Nat.le_trans h hb, r⟩

set_option maxHeartbeats 800000 in
theorem new_yes (most : Int) (a1 : 0 ≤ mn) (h1 : mn ≤ most) (h2 : mn ≤ 64) (h3 : hm = true → mn ≤ mx) :
    Calls Try.prog 6 #[.agg #[.bool wide, .int .u64 mn, .int .u64 mx, .bool hm], .int .u64 most] w fun e w' =>
      ∃ g, e = .returned (.tuple #[.pointer (some ⟨g, 0, none⟩), .int .i64 0]) ∧ (∃ v ps, Mm w' w.heap.size g wide mn mx hm v ps (fun _ => 0) ∧ ps.length = mn.toNat) ∧ Below w.heap.size w w' := by
  have h1' : ¬ most < mn := by omega
  have h2' : ¬ 64 < mn := by omega
  have M0 := Aside0.mk ((mm_new (wide := wide) (mn := mn) (mx := mx) (hm := hm) (w.alloc (.cells #[.bool wide, .int .u64 mn, .int .u64 mx, .bool hm] 24))).lower (base' := w.heap.size) (by simp))
  simp only [World.size_alloc] at M0
  have b0 : Aside0 (Below w.heap.size w ((w.alloc (.cells #[.bool wide, .int .u64 mn, .int .u64 mx, .bool hm] 24)).alloc (.cells #[.bool true, .bool wide, .int .u64 mn, .int .u64 mx, .bool hm, .slice none 0 0] 64))) := ⟨((Below.refl _ _).alloc (Nat.le_refl _) _).alloc (by simp) _⟩
  cases hm with
  | false =>
    go_enter Try.func6, Try.ntmps6
    go_wp2_with (go_at_call 28; refine (add_calls M0.out _ a1 (by simpa using h2) (by simp; omega) (fun _ _ => rfl)).mono ?_; rintro e w' ⟨rfl, hM, hb⟩; have HM := Aside0.mk hM; have HB := Aside0.mk hb; clear hM hb)
    go_ret2
    obtain ⟨v, ps, hm1, hl⟩ := HM.out
    exact ⟨_, rfl, ⟨v, ps, hm1, by simpa using hl⟩, b0.out.trans HB.out⟩
  | true =>
    have h3' : ¬ mx < mn := by have := h3 rfl; omega
    clear h3
    go_enter Try.func6, Try.ntmps6
    go_wp2_with (go_at_call 28; refine (add_calls M0.out _ a1 (by simpa using h2) (by simp; omega) (fun _ _ => rfl)).mono ?_; rintro e w' ⟨rfl, hM, hb⟩; have HM := Aside0.mk hM; have HB := Aside0.mk hb; clear hM hb)
    go_ret2
    obtain ⟨v, ps, hm1, hl⟩ := HM.out
    exact ⟨_, rfl, ⟨v, ps, hm1, by simpa using hl⟩, b0.out.trans HB.out⟩

theorem awake_calls :
    Calls Try.prog 7 #[] w fun e w' => e = .returned (.bool true) ∧ Below w.heap.size w w' := by
  go_enter Try.func7, Try.ntmps7
  go_wp2_with (go_at_call 6; refine (new_yes _ (by omega) (by omega) (by omega) (by simp)).mono ?_; rintro e w' ⟨g, rfl, hM, hb⟩; have HM := Aside0.mk hM; have HB := Aside0.mk hb; clear hM hb)
  obtain ⟨v, ps, hm1, hl⟩ := HM.out
  have HM1 := Aside0.mk hm1
  have HL : ps.length = 1 := by simpa using hl
  clear hm1 hl HM
  go_wp2_with (go_at_call 8; refine (size_calls HM1.out).mono ?_; rintro e w' ⟨rfl, rfl⟩)
  go_ret
  exact ⟨by simp, HB.out⟩

set_option maxHeartbeats 800000 in
theorem grow_yes (M : Mm w base g wide mn mx hm v ps f) (n most : Int) (h0 : 0 ≤ n) (h1 : n ≤ most) (h2 : ps.length + n ≤ 64) (h3 : hm = true → ps.length + n ≤ mx) (h4 : mx < 18446744073709551616) (hb : base ≤ w.heap.size) (hz : ∀ j, 65536 * ps.length ≤ j → f j = 0) :
    Calls Try.prog 10 #[.pointer (some ⟨g, 0, none⟩), .int .u64 n, .int .u64 most] w fun e w' =>
      e = .returned (.tuple #[.int .u64 ps.length, .bool true]) ∧ (∃ v' ps', Mm w' base g wide mn mx hm v' ps' f ∧ ps'.length = ps.length + n.toNat) ∧ Below base w w' := by
  have n64 := M.n64
  have c4 := blk_cell M.blk 4
  have c3 := blk_cell M.blk 3
  simp at c4 c3
  have HM := Aside0.mk M
  have HZ := Aside0.mk hz
  clear M hz
  have h1' : ¬ most < n := by omega
  cases hm with
  | false =>
    go_enter Try.func10, Try.ntmps10
    go_wp2_with (first
      | (go_at_call 8; refine (size_calls HM.out).mono ?_; rintro e w' ⟨rfl, rfl⟩)
      | (go_at_call 29; refine (none_calls HM.out).mono ?_; rintro e w' ⟨rfl, rfl⟩)
      | (go_at_call 28; refine (add_calls HM.out _ h0 (by omega) hb HZ.out).mono ?_; rintro e w' ⟨rfl, hM, hb⟩; have HM1 := Aside0.mk hM; have HB := Aside0.mk hb; clear hM hb))
    go_ret2
    exact ⟨rfl, HM1.out, HB.out⟩
  | true =>
    have h5 : (ps.length : Int) + n ≤ mx := h3 rfl
    clear h3
    have h6 : ¬ mx < (ps.length : Int) := by omega
    go_enter Try.func10, Try.ntmps10
    go_wp2_with (first
      | (go_at_call 8; refine (size_calls HM.out).mono ?_; rintro e w' ⟨rfl, rfl⟩)
      | (go_at_call 29; refine (none_calls HM.out).mono ?_; rintro e w' ⟨rfl, rfl⟩)
      | (go_at_call 28; refine (add_calls HM.out _ h0 (by omega) hb HZ.out).mono ?_; rintro e w' ⟨rfl, hM, hb⟩; have HM1 := Aside0.mk hM; have HB := Aside0.mk hb; clear hM hb))
    go_ret2
    exact ⟨rfl, HM1.out, HB.out⟩

set_option maxHeartbeats 800000 in
theorem grow_no (M : Mm w base g wide mn mx hm v ps f) (n most : Int) (h0 : 0 ≤ n) (h5 : 0 ≤ mx) (h4 : mx < 18446744073709551616) (h : most < n ∨ 64 < ps.length + n ∨ (hm = true ∧ mx < ps.length + n)) :
    Calls Try.prog 10 #[.pointer (some ⟨g, 0, none⟩), .int .u64 n, .int .u64 most] w fun e w' =>
      e = .returned (.tuple #[.int .u64 0, .bool false]) ∧ w = w' := by
  have n64 := M.n64
  have c4 := blk_cell M.blk 4
  have c3 := blk_cell M.blk 3
  simp at c4 c3
  have HM := Aside0.mk M
  clear M
  by_cases k1 : most < n
  · clear h
    go_enter Try.func10, Try.ntmps10
    go_wp2_with (first
      | (go_at_call 8; refine (size_calls HM.out).mono ?_; rintro e w' ⟨rfl, rfl⟩)
      | (go_at_call 29; refine (none_calls HM.out).mono ?_; rintro e w' ⟨rfl, rfl⟩))
    go_ret2
    exact ⟨rfl, rfl⟩
  · by_cases k2 : 64 < ps.length + n
    · clear h
      have k3 : 64 - (ps.length : Int) < n := by omega
      go_enter Try.func10, Try.ntmps10
      go_wp2_with (first
        | (go_at_call 8; refine (size_calls HM.out).mono ?_; rintro e w' ⟨rfl, rfl⟩)
        | (go_at_call 29; refine (none_calls HM.out).mono ?_; rintro e w' ⟨rfl, rfl⟩))
      go_ret2
      exact ⟨rfl, rfl⟩
    · have k3 : ¬ 64 - (ps.length : Int) < n := by omega
      obtain ⟨rfl, k4⟩ : hm = true ∧ mx < ps.length + n := by
        rcases h with h | h | h
        · exact absurd h k1
        · exact absurd h k2
        · exact h
      clear h
      by_cases k5 : mx < (ps.length : Int)
      · go_enter Try.func10, Try.ntmps10
        go_wp2_with (first
          | (go_at_call 8; refine (size_calls HM.out).mono ?_; rintro e w' ⟨rfl, rfl⟩)
          | (go_at_call 29; refine (none_calls HM.out).mono ?_; rintro e w' ⟨rfl, rfl⟩))
        go_ret2
        exact ⟨rfl, rfl⟩
      · have k6 : mx - (ps.length : Int) < n := by omega
        go_enter Try.func10, Try.ntmps10
        go_wp2_with (first
          | (go_at_call 8; refine (size_calls HM.out).mono ?_; rintro e w' ⟨rfl, rfl⟩)
          | (go_at_call 29; refine (none_calls HM.out).mono ?_; rintro e w' ⟨rfl, rfl⟩))
        go_ret2
        exact ⟨rfl, rfl⟩
end
end Go.Proofs.Ytdbgnppifcghdaa.Mem
