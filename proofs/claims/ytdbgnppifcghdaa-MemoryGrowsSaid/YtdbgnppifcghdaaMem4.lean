import Derived.Test.YtdbgnppifcghdaaMem3
import Derived.StillTailTactics
open Go Go.Proofs Go.RowKit Go.Proofs.YtdbgnppifcghdaaW.PrintWords
namespace Go.Proofs.Ytdbgnppifcghdaa.Mem
set_option linter.unusedVariables false
set_option linter.unusedSimpArgs false
theorem min2_ints (k k' : IntKind) (x y : Int) : Builtin.min2 (.int k x) (.int k' y) = pure (.int k (if y < x then y else x)) := by simp only [Builtin.min2]
theorem min_two_ (ats : Array TypeId) (ty : TypeId) (a b : Value) : Builtin.min_ ats ty #[a, b] = (Builtin.min2 a b >>= fun s => pure s) := by simp only [Builtin.min_, List.foldlM_cons, List.foldlM_nil]
attribute [local go_sem] min2_ints min_two_

theorem convert_row {w : World} {base n c : Nat} {A : Option Addr} {xs : List Int} (h : w.ownsRow base 5 1 (.slice A n c) n (nums .u8 xs)) : (convert 25 9 (.slice A n c)).run Try.prog w = .ok (.string (strOfNums xs)) w :=
  own_string Try.underlying25 Try.underlying5 Try.underlying9 h

theorem KP.own {ps : List Nat} {w w1 : World} {b n c : Nat} {e : TypeId} {size : Nat} {A : Option Addr} {xs : List Value} (k : KP ps w w1) (h : w.ownsRow b e size (.slice A n c) n xs) (hn : ∀ ad, A = some ad → ad.block ∉ ps) : w1.ownsRow b e size (.slice A n c) n xs :=
  own_move h (fun q hq => by
    cases A with
    | none => cases hq
    | some ad =>
      have : ad.block = q := by simpa [Value.ownBlock] using hq
      subst this
      exact k.block _ (own_lt h _ rfl) (hn ad rfl))

theorem wrF_same (f : Nat → Int) (x k : Nat) : wrF f x (rdL f x k) = f := by
  funext z
  simp only [wrF, rdL_length]
  by_cases h : x ≤ z ∧ z < x + k
  · rw [if_pos h]
    have h2 : z - x < k := by omega
    have h3 : x + (z - x) = z := by omega
    simp [rdL, h2, h3]
  · rw [if_neg h]

theorem KP.reads {ps : List Nat} {w w1 : World} {B : Option Addr} {l : List Int} (k : KP ps w w1) (h : ReadsInt w .u8 B l.length l) (hn : 0 < l.length → ∀ ad, B = some ad → ad.block ∉ ps) : ReadsInt w1 .u8 B l.length l := by
  refine ⟨rfl, h.2.1, fun hp => ?_⟩
  obtain ⟨ad, rfl, hc⟩ := h.2.2 hp
  exact ⟨ad, rfl, fun j hj => k.cell (hc j hj) (by have := hn hp ad rfl; unfold Addr.add; split <;> exact this)⟩

theorem take_run (B : Option Addr) (c : Nat) (l : List Int) (k : Int) (k0 : 0 ≤ k) (k1 : k ≤ l.length) (hc : l.length ≤ c) :
    ∀ W : World, (Instr.slice 25 (.slice B l.length c) none (some (.int .u64 k)) none).run Try.prog W = .ok (.slice B k.toNat c) W := by
  obtain ⟨i0, hi, hz0, hz1, hz2⟩ := info_parts info5
  have h := (print_take_of (P := Try.prog) (Value.int .u8) (0 : Int) 25 5 .u64 Try.underlying25 hi hz1 B c l k k0 k1 hc).1
  have e : (l.take k.toNat).length = k.toNat := by rw [List.length_take]; omega
  rw [e] at h
  exact h

/-- There and back: what stands at x in the end. -/
theorem back_same (f : Nat → Int) (x y k : Nat) (h : x + k ≤ y ∨ y + k ≤ x) :
    rdL (wrF (flF (wrF f y (rdL f x k)) x k 0) x (rdL (flF (wrF f y (rdL f x k)) x k 0) y k)) x k = rdL f x k := by
  apply List.ext_getElem
  · simp [rdL_length]
  · intro i h1 h2
    have hi : i < k := by simpa [rdL_length] using h1
    simp only [rdL, List.getElem_map, List.getElem_range]
    simp only [wrF, List.length_map, List.length_range]
    rw [if_pos (by omega)]
    have e1 : x + i - x = i := by omega
    rw [e1]
    simp only [List.getD_eq_getElem?_getD, List.getElem?_map, List.getElem?_range hi, Option.map_some, Option.getD_some]
    simp only [flF]
    rw [if_neg (by omega)]
    simp only [wrF, List.length_map, List.length_range]
    rw [if_pos (by omega)]
    have e2 : y + i - y = i := by omega
    rw [e2]
    simp [hi]

theorem rdL_wr (x : Nat) (f : Nat → Int) (l : List Int) (k : Nat) (hk : k ≤ l.length) : rdL (wrF f x l) x k = l.take k := by
  apply List.ext_getElem
  · simp [rdL_length]; omega
  · intro i h1 h2
    have hi : i < k := by simpa [rdL_length] using h1
    simp only [rdL, List.getElem_map, List.getElem_range]
    simp only [wrF]
    rw [if_pos (by omega)]
    have e1 : x + i - x = i := by omega
    rw [e1]
    simp [List.getElem?_eq_getElem (show i < l.length by omega)]

set_option maxRecDepth 100000 in
set_option maxHeartbeats 1600000 in
theorem copies_far (w : World) (B : Option Addr) (l : List Int) (c : Nat) (a t n : Int) (a0 : 0 ≤ a) (a1 : a ≤ 65535) (t0 : 0 ≤ t) (t1 : t ≤ 65535) (n0 : 0 ≤ n) (n1 : n ≤ 65535) (hl : l.length ≤ 140737488351232) (h : 65536 < a + l.length) :
    Calls Try.prog 4 #[.slice B l.length c, .int .u16 a, .int .u16 t, .int .u16 n] w fun e w' => e = .returned (.bool true) ∧ Below w.heap.size w w' := by
  go_enter Try.func4, Try.ntmps4
  go_wp2_with (go_at_call 6; refine (new_yes _ (by omega) (by omega) (by omega) (by simp)).mono ?_; rintro e w' ⟨g, rfl, hM, hb⟩; have HM := Aside0.mk hM; have HB := Aside0.mk hb; clear hM hb)
  obtain ⟨v, ps, hm1, hl1⟩ := HM.out
  have HM1 := Aside0.mk hm1
  have HL : ps.length = 1 := by simpa using hl1
  clear hm1 hl1 HM
  go_wp2_with (go_at_call 9; refine (write_no HM1.out _ (by omega) (by omega) _ _ _ (by omega) (by omega)).mono ?_; rintro e w' ⟨rfl, rfl⟩)
  go_wp2_with (go_at_call 7; refine awake_calls.mono ?_; rintro e w' ⟨rfl, hb⟩; have HB1 := Aside0.mk hb; clear hb)
  go_ret
  exact ⟨rfl, HB.out.trans (HB1.out.mono HB.out.size)⟩

set_option maxRecDepth 100000 in
set_option maxHeartbeats 1600000 in
theorem copies_near (w : World) (B : Option Addr) (l : List Int) (c : Nat) (HR : ReadsInt w .u8 B l.length l) (hc : l.length ≤ c) (a t n : Int) (a0 : 0 ≤ a) (a1 : a ≤ 65535) (t0 : 0 ≤ t) (t1 : t ≤ 65535) (n0 : 0 ≤ n) (n1 : n ≤ 65535) (h : a + l.length ≤ 65536)
    (k : Int) (hk : (if (l.length : Int) < n then (l.length : Int) else n) = k) :
    Calls Try.prog 4 #[.slice B l.length c, .int .u16 a, .int .u16 t, .int .u16 n] w fun e w' => e = .returned (.bool true) ∧ Below w.heap.size w w' := by
  have k0 : 0 ≤ k := by rw [← hk]; split <;> omega
  have k1 : k ≤ l.length := by rw [← hk]; split <;> omega
  have HRA := Aside0.mk HR
  have HC := Aside0.mk hc
  clear HR hc
  go_enter Try.func4, Try.ntmps4
  go_wp2_with (go_at_call 6; refine (new_yes _ (by omega) (by omega) (by omega) (by simp)).mono ?_; rintro e w' ⟨g, rfl, hM, hb⟩; have HM := Aside0.mk hM; have HB := Aside0.mk hb; clear hM hb)
  obtain ⟨v, ps, hm1, hl1⟩ := HM.out
  have HM1 := Aside0.mk hm1
  have HL : Aside0 (ps.length = 1) := ⟨by simpa using hl1⟩
  clear hm1 hl1 HM
  have HR1 : Aside0 (ReadsInt _ .u8 B l.length l) := ⟨HRA.out.below HB.out⟩
  have HN : Aside0 (0 < l.length → ∀ ad, B = some ad → ad.block ∉ ps) := ⟨fun h0 ad hB hm => by
    obtain ⟨ad', e', hcell⟩ := HRA.out.at_ 0 (by omega) (by omega)
    rw [e'] at hB
    injection hB with hB
    subst hB
    have h1 := World.block_lt_of_cell? _ _ hcell
    have h2 := HM1.out.pgb _ hm
    simp [Addr.add] at h1
    omega⟩
  go_wp2_with (go_at_call 9; refine (write_yes HM1.out _ (by omega) _ _ _ HR1.out HN.out (by rw [HL.out]; omega)).mono ?_; rintro e w2 ⟨rfl, hM, hk⟩; have HM2 := Aside0.mk hM; have HK2 := Aside0.mk hk; clear hM hk)
  have hr1 : (0 : Int) + 65536 ≤ 65536 * (ps.length : Int) := by rw [HL.out]; decide
  refine (read_yes HM2.out _ _ (by omega) (by omega) hr1).mono ?_
  rintro e w3 ⟨v3, rfl, ho, hb⟩
  rw [show Int.toNat 65536 = 65536 from rfl] at ho
  have HM3 := Aside0.mk (HM2.out.below hb)
  have HK3 := Aside0.mk (HK2.out.trans (KP.of_below hb))
  obtain ⟨A3, c3, e3⟩ := own_slice ho
  subst e3
  have HO3 := Aside0.mk ho
  clear ho hb HM2 HK2
  have hx1 : a + k ≤ 65536 * (ps.length : Int) := by rw [HL.out]; omega
  go_wp2_with (go_at_call 12; refine (copy_yes HM3.out _ _ _ (by omega) (by omega) (by omega) (by omega) (by omega)).mono ?_; rintro e w4 ⟨rfl, hM, hk4⟩; rw [wrF_same] at hM; have HM4 := Aside0.mk hM; have HK4 := Aside0.mk (HK3.out.trans hk4); have HO4 := Aside0.mk (KP.own hk4 HO3.out (HM3.out.not_page HO3.out)); clear hM hk4 HM3 HK3 HO3)
  refine (read_yes HM4.out _ _ (by omega) (by omega) hr1).mono ?_
  rintro e w5 ⟨v5, rfl, ho, hb⟩
  rw [show Int.toNat 65536 = 65536 from rfl] at ho
  have HM5 := Aside0.mk (HM4.out.below hb)
  have HK5 := Aside0.mk (HK4.out.trans (KP.of_below hb))
  have HO4' := Aside0.mk (pw_own_below HO4.out hb)
  obtain ⟨A5, c5, e5⟩ := own_slice ho
  subst e5
  have cv1 := convert_row HO4'.out
  have cv2 := convert_row ho
  clear ho hb HM4 HK4 HO4
  by_cases hfar : 65536 < t + k
  · go_wp2_with (go_at_call 7; refine awake_calls.mono ?_; rintro e w6 ⟨rfl, hb⟩; have HB6 := Aside0.mk hb; clear hb)
    go_ret
    exact ⟨rfl, (HB.out.trans ((KP.below (Below.refl _ _) HK5.out HB.out.size HM5.out.pgb).trans (HB6.out.mono (Nat.le_trans HB.out.size HK5.out.size))))⟩
  · by_cases hm1 : a < t + k
    · by_cases hm2 : t < a + k
      · go_wp2_with (go_at_call 7; refine awake_calls.mono ?_; rintro e w6 ⟨rfl, hb⟩; have HB6 := Aside0.mk hb; clear hb)
        go_ret
        exact ⟨rfl, (HB.out.trans ((KP.below (Below.refl _ _) HK5.out HB.out.size HM5.out.pgb).trans (HB6.out.mono (Nat.le_trans HB.out.size HK5.out.size))))⟩
      · skip
        have hdis : a.toNat + k.toNat ≤ t.toNat ∨ t.toNat + k.toNat ≤ a.toNat := by omega
        have HD := Aside0.mk hdis
        clear hdis
        go_wp2_with fail
        clear cv1 cv2
        refine (copy_yes HM5.out _ _ _ (by omega) (by omega) (by omega) (by omega) (by rw [HL.out]; omega)).mono ?_
        rintro e w6 ⟨rfl, hM, hk6⟩
        have HM6 := Aside0.mk hM
        have HK6 := Aside0.mk (HK5.out.trans hk6)
        clear hM hk6 HM5 HK5
        go_wp2_with fail
        refine (fill_yes HM6.out _ _ _ (by omega) (by omega) (by omega)).mono ?_
        rintro e w7 ⟨rfl, hM, hk7⟩
        have HM7 := Aside0.mk hM
        have HK7 := Aside0.mk (HK6.out.trans hk7)
        clear hM hk7 HM6 HK6
        go_wp2_with fail
        refine (copy_yes HM7.out _ _ _ (by omega) (by omega) (by omega) (by rw [HL.out]; omega) (by omega)).mono ?_
        rintro e w8 ⟨rfl, hM, hk8⟩
        have HM8 := Aside0.mk hM
        have HK8 := Aside0.mk (HK7.out.trans hk8)
        clear hM hk8 HM7 HK7
        go_wp2_with fail
        refine (read_yes HM8.out _ _ (by omega) (by omega) (by omega)).mono ?_
        rintro e w9 ⟨v9, rfl, ho, hb⟩
        rw [back_same _ _ _ _ HD.out, rdL_wr _ _ _ _ (by omega)] at ho
        have HK9 := Aside0.mk (HK8.out.trans (KP.of_below hb))
        have HP := Aside0.mk HM8.out.pgb
        obtain ⟨A9, c9, e9⟩ := own_slice ho
        subst e9
        have HO9 := Aside0.mk ho
        clear ho hb HM8 HK8
        go_wp2_with fail
        have hRA := HRA.out
        have cvA : Sem.run Try.prog (convert 25 9 (.slice A9 k.toNat c9)) w9.drew = _ := convert_row (w := w9.drew) HO9.out
        have hsl := take_run B c l k k0 k1 HC.out
        have hRk : ReadsInt w9.drew .u8 B k.toNat (l.take k.toNat) := ReadsInt.take_ (KP.reads HK9.out HR1.out HN.out) _ (by omega)
        have cvB : Sem.run Try.prog (convert 25 9 (.slice B k.toNat c)) w9.drew = _ := string_of_reads Try.underlying25 Try.underlying5 Try.underlying9 hRk
        clear hRk hRA
        go_still_tail 12, (by kernel_rfl)
        change wpList _ _ _ _ _ w9.drew
        go_wp2_with (go_at_call 7; refine awake_calls.mono ?_; rintro e w10 ⟨rfl, hb⟩; have HB10 := Aside0.mk hb; clear hb)
        go_ret
        exact ⟨rfl, (HB.out.trans ((KP.below (Below.refl _ _) HK9.out HB.out.size HP.out).trans (Below.trans (Below.drew (Below.refl _ _)) (HB10.out.mono (Nat.le_trans HB.out.size HK9.out.size)))))⟩
    · skip
      have hdis : a.toNat + k.toNat ≤ t.toNat ∨ t.toNat + k.toNat ≤ a.toNat := by omega
      have HD := Aside0.mk hdis
      clear hdis
      go_wp2_with fail
      clear cv1 cv2
      refine (copy_yes HM5.out _ _ _ (by omega) (by omega) (by omega) (by omega) (by rw [HL.out]; omega)).mono ?_
      rintro e w6 ⟨rfl, hM, hk6⟩
      have HM6 := Aside0.mk hM
      have HK6 := Aside0.mk (HK5.out.trans hk6)
      clear hM hk6 HM5 HK5
      go_wp2_with fail
      refine (fill_yes HM6.out _ _ _ (by omega) (by omega) (by omega)).mono ?_
      rintro e w7 ⟨rfl, hM, hk7⟩
      have HM7 := Aside0.mk hM
      have HK7 := Aside0.mk (HK6.out.trans hk7)
      clear hM hk7 HM6 HK6
      go_wp2_with fail
      refine (copy_yes HM7.out _ _ _ (by omega) (by omega) (by omega) (by rw [HL.out]; omega) (by omega)).mono ?_
      rintro e w8 ⟨rfl, hM, hk8⟩
      have HM8 := Aside0.mk hM
      have HK8 := Aside0.mk (HK7.out.trans hk8)
      clear hM hk8 HM7 HK7
      go_wp2_with fail
      refine (read_yes HM8.out _ _ (by omega) (by omega) (by omega)).mono ?_
      rintro e w9 ⟨v9, rfl, ho, hb⟩
      rw [back_same _ _ _ _ HD.out, rdL_wr _ _ _ _ (by omega)] at ho
      have HK9 := Aside0.mk (HK8.out.trans (KP.of_below hb))
      have HP := Aside0.mk HM8.out.pgb
      obtain ⟨A9, c9, e9⟩ := own_slice ho
      subst e9
      have HO9 := Aside0.mk ho
      clear ho hb HM8 HK8
      go_wp2_with fail
      have hRA := HRA.out
      have cvA : Sem.run Try.prog (convert 25 9 (.slice A9 k.toNat c9)) w9.drew = _ := convert_row (w := w9.drew) HO9.out
      have hsl := take_run B c l k k0 k1 HC.out
      have hRk : ReadsInt w9.drew .u8 B k.toNat (l.take k.toNat) := ReadsInt.take_ (KP.reads HK9.out HR1.out HN.out) _ (by omega)
      have cvB : Sem.run Try.prog (convert 25 9 (.slice B k.toNat c)) w9.drew = _ := string_of_reads Try.underlying25 Try.underlying5 Try.underlying9 hRk
      clear hRk hRA
      go_still_tail 12, (by kernel_rfl)
      change wpList _ _ _ _ _ w9.drew
      go_wp2_with (go_at_call 7; refine awake_calls.mono ?_; rintro e w10 ⟨rfl, hb⟩; have HB10 := Aside0.mk hb; clear hb)
      go_ret
      exact ⟨rfl, (HB.out.trans ((KP.below (Below.refl _ _) HK9.out HB.out.size HP.out).trans (Below.trans (Below.drew (Below.refl _ _)) (HB10.out.mono (Nat.le_trans HB.out.size HK9.out.size)))))⟩
end Go.Proofs.Ytdbgnppifcghdaa.Mem
