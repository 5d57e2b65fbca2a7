import Derived.Test.YtdbgnppifcghdaaProg
import Derived.WalkKit
import Derived.KernelRfl
import Derived.Deep.LoopGhost
import Derived.Deep.QuietTactic
import Derived.BigQuiet
import Derived.Deep.DeepCutAuto
import Derived.Outline
import Derived.WalkSpells
import Derived.WalkLawsBesides
import Derived.Test.YtdbgnppifcghdaaWWords
open Go Go.Proofs Go.RowKit Go.Proofs.YtdbgnppifcghdaaW.PrintWords
namespace Go.Proofs.Ytdbgnppifcghdaa.Mem
set_option linter.unusedVariables false
set_option linter.unusedSimpArgs false

def Pg (w : World) (p : Nat) (h : Nat → Int) : Prop := ∃ cs, w.heap[p]? = some (.cells cs 86 (0,0)) ∧ cs.size = 65536 ∧ ∀ j, j < 65536 → cs[j]? = some (.int .u8 (h j))

structure Mm (w : World) (base g : Nat) (wide : Bool) (mn mx : Int) (hm : Bool) (v : Value) (ps : List Nat) (f : Nat → Int) : Prop where
  blk : w.heap[g]? = some (.cells #[.bool true, .bool wide, .int .u64 mn, .int .u64 mx, .bool hm, v] 64 (0,0))
  gb : base ≤ g
  n64 : ps.length ≤ 64
  own : w.ownsRow base 84 1 v ps.length (ps.map fun p => .pointer (some ⟨p, 0, none⟩))
  pgb : ∀ p, p ∈ ps → base ≤ p
  pgs : ∀ i (h : i < ps.length), Pg w ps[i] (fun j => f (65536*i+j))
  nd : ps.Nodup

def pgOf (ps : List Nat) (x : Int) : Nat := ps.getD (x / 65536).toNat 0

section
variable {w : World} {base g : Nat} {wide : Bool} {mn mx : Int} {hm : Bool} {v : Value} {ps : List Nat} {f : Nat → Int}

theorem none_calls (M : Mm w base g wide mn mx hm v ps f) :
    Calls Try.prog 29 #[.pointer (some ⟨g, 0, none⟩)] w fun e w' => e = .returned (.bool false) ∧ w = w' := by
  have c0 := blk_cell M.blk 0
  simp at c0
  clear M
  go_enter Try.func29, Try.ntmps29
  go_wp2
  go_ret
  exact ⟨rfl, rfl⟩

theorem size_calls (M : Mm w base g wide mn mx hm v ps f) :
    Calls Try.prog 8 #[.pointer (some ⟨g, 0, none⟩)] w fun e w' => e = .returned (.int .u64 ps.length) ∧ w = w' := by
  have c5 := blk_cell M.blk 5
  simp at c5
  have n64 := M.n64
  obtain ⟨A, c, rfl⟩ := own_slice M.own
  have MH := Aside0.mk M
  clear M
  go_enter Try.func8, Try.ntmps8
  go_wp2_with (go_at_call 29; refine (none_calls MH.out).mono ?_; rintro e w' ⟨rfl, rfl⟩)
  go_ret
  exact ⟨rfl, rfl⟩

theorem in_calls (at_ n b : Int) (h1 : 0 ≤ at_) (h2 : 0 ≤ n) (h3 : 0 ≤ b) (k1 : at_ < 18446744073709551616) (k2 : n < 18446744073709551616) (k3 : b < 18446744073709551616) :
    Calls Try.prog 49 #[.int .u64 at_, .int .u64 n, .int .u64 b] w fun e w' => e = .returned (.bool (decide (at_ + n ≤ b))) ∧ w = w' := by
  by_cases h : at_ ≤ b
  · have e : decide (at_ + n ≤ b) = decide (n ≤ b - at_) := by rw [decide_eq_decide]; omega
    rw [e]
    clear e
    go_enter Try.func49, Try.ntmps49
    go_wp2
    go_ret
    exact ⟨rfl, rfl⟩
  · have e : decide (at_ + n ≤ b) = false := by rw [decide_eq_false_iff_not]; omega
    rw [e]
    clear e
    go_enter Try.func49, Try.ntmps49
    go_wp2
    go_ret
    exact ⟨rfl, rfl⟩

theorem has_calls (M : Mm w base g wide mn mx hm v ps f) (at_ n : Int) (h1 : 0 ≤ at_) (h2 : 0 ≤ n) (k1 : at_ < 18446744073709551616) (k2 : n < 18446744073709551616) :
    Calls Try.prog 30 #[.pointer (some ⟨g, 0, none⟩), .int .u64 at_, .int .u64 n] w fun e w' => e = .returned (.bool (decide (at_ + n ≤ 65536 * ps.length))) ∧ w = w' := by
  have n64 := M.n64
  have e : (65536 * ps.length : Int) = ps.length * 65536 := by omega
  rw [e]
  clear e
  go_enter Try.func30, Try.ntmps30
  go_wp2_with fail
  refine (size_calls M).mono ?_
  rintro e w' ⟨rfl, rfl⟩
  go_wp2_with fail
  refine (in_calls _ _ _ h1 h2 (by omega) k1 k2 (by omega)).mono ?_
  rintro e w' ⟨rfl, rfl⟩
  go_wp2
  go_ret
  exact ⟨rfl, rfl⟩

theorem at_calls (M : Mm w base g wide mn mx hm v ps f) (x : Int) (h0 : 0 ≤ x) (h1 : x < 65536 * ps.length) :
    Calls Try.prog 31 #[.pointer (some ⟨g, 0, none⟩), .int .u64 x] w fun e w' => e = .returned (.pointer (some ⟨pgOf ps x, (x % 65536).toNat, none⟩)) ∧ w = w' := by
  have c5 := blk_cell M.blk 5
  simp at c5
  have n64 := M.n64
  have hq : (x / 65536).toNat < ps.length := by omega
  obtain ⟨A, c, rfl⟩ := own_slice M.own
  obtain ⟨gr, cap, hf, _, _⟩ := M.own.form (by omega)
  cases hf
  have cq := M.own.cells (g := gr) rfl (x / 65536).toNat (.pointer (some ⟨pgOf ps x, 0, none⟩)) (by simp [pgOf, List.getElem?_map, List.getElem?_eq_getElem hq, List.getD_eq_getElem?_getD])
  obtain ⟨cs, hcs, hsz, hc⟩ := M.pgs _ hq
  rw [add_plain] at cq
  have hb1 : 0 ≤ x / 65536 := by omega
  have hb2 : x / 65536 < ps.length := by omega
  have hb3 : 0 ≤ x % 65536 := by omega
  have hb4 : x % 65536 < 65536 := by omega
  clear hc hsz hcs M
  go_enter Try.func31, Try.ntmps31
  go_wp2
  go_ret
  exact ⟨rfl, rfl⟩

theorem Pg.below {w1 : World} {p : Nat} {h : Nat → Int} (H : Pg w p h) (hb : Below w.heap.size w w1) : Pg w1 p h := by
  obtain ⟨cs, h1, h2, h3⟩ := H
  exact ⟨cs, (hb.block p (blk_lt h1)).trans h1, h2, h3⟩

theorem Mm.below {w1 : World} (M : Mm w base g wide mn mx hm v ps f) (hb : Below w.heap.size w w1) : Mm w1 base g wide mn mx hm v ps f :=
  ⟨(hb.block g (blk_lt M.blk)).trans M.blk, M.gb, M.n64, pw_own_below M.own hb, M.pgb, fun i h => (M.pgs i h).below hb, M.nd⟩

def rdL (f : Nat → Int) (x n : Nat) : List Int := (List.range n).map fun j => f (x + j)
theorem rdL_length (f : Nat → Int) (x n : Nat) : (rdL f x n).length = n := by simp [rdL]
theorem rdL_succ (f : Nat → Int) (x n : Nat) : rdL f x (n+1) = rdL f x n ++ [f (x+n)] := by simp [rdL, List.range_succ]

theorem Mm.cellAt (M : Mm w base g wide mn mx hm v ps f) (x : Int) (h0 : 0 ≤ x) (h1 : x < 65536 * ps.length) :
    w.cell? ⟨pgOf ps x, (x % 65536).toNat, none⟩ = some (.int .u8 (f x.toNat)) ∧ w.frozen? ⟨pgOf ps x, (x % 65536).toNat, none⟩ = false := by
  have hq : (x / 65536).toNat < ps.length := by omega
  obtain ⟨cs, hcs, hsz, hc⟩ := M.pgs _ hq
  have e : pgOf ps x = ps[(x / 65536).toNat] := by simp [pgOf, List.getElem?_eq_getElem hq, List.getD_eq_getElem?_getD]
  rw [e]
  refine ⟨?_, blk_frozen hcs _⟩
  have ex : 65536 * (x / 65536).toNat + (x % 65536).toNat = x.toNat := by omega
  have hj := hc (x % 65536).toNat (by omega)
  simp only [ex] at hj
  rw [blk_cell hcs, hj]

theorem info5 : (Try.prog.info? 5).map (fun i => (i.zero, i.size, i.bytes)) = some (some (.int .u8 0), 1, 1) := by kernel_rfl

set_option maxHeartbeats 400000 in
theorem read_yes (M : Mm w base g wide mn mx hm v ps f) (x n : Int) (h0 : 0 ≤ x) (h1 : 0 ≤ n) (h2 : x + n ≤ 65536 * ps.length) :
    Calls Try.prog 11 #[.pointer (some ⟨g, 0, none⟩), .int .u64 x, .int .u64 n] w fun e w' => ∃ v' : Value, e = .returned (.tuple #[v', .int .i64 0]) ∧ w'.ownsRow w.heap.size 5 1 v' n.toNat (nums .u8 (rdL f x.toNat n.toNat)) ∧ Below w.heap.size w w' := by
  have n64 := M.n64
  obtain ⟨N, rfl⟩ := Int.eq_ofNat_of_zero_le h1
  obtain ⟨i0, hi, hz0, hz1, hz2⟩ := info_parts info5
  have HM := Aside0.mk M
  have hd : decide (x + (N : Int) ≤ 65536 * (ps.length : Int)) = true := by simpa using h2
  clear M
  go_enter Try.func11, Try.ntmps11
  go_wp2_with (first
    | (go_at_call 29; refine (none_calls HM.out).mono ?_; rintro e w' ⟨rfl, rfl⟩)
    | (go_at_call 30; refine (has_calls HM.out _ _ (by omega) (by omega) (by omega) (by omega)).mono ?_; rintro e w' ⟨rfl, rfl⟩)
    | (at_make; refine wpList_make_own _ rfl _ _ 25 rfl w.heap.size 5 i0 (.int .u8 0) 1 Try.underlying25 hi hz0 hz1 .i64 .u64 _ N rfl rfl rfl (by rw [hz2]; omega) (by unfold maxLen; omega) (Nat.le_refl _) ?_; intro w1 hown1 hgrow1))
  have HB : Aside0 (Below w.heap.size w w1) := ⟨(Below.refl _ _).grown hgrow1 (Nat.le_refl _) (fun k hk => by cases hk)⟩
  have HO := Aside0.mk hown1
  clear hown1 hgrow1
  go_loopw [8, 22] (fun v8 i wr => ∃ k : Nat, k ≤ N ∧ i = .int .u64 k ∧ Aside0 (wr.ownsRow w.heap.size 5 1 v8 (rdL f x.toNat k).length (nums .u8 (rdL f x.toNat k))) ∧ Aside0 (Below w.heap.size w wr)) (fun _ i _ => N - (intOf i).toNat)
  case atStart => exact ⟨0, by omega, rfl, ⟨by simpa [rdL, nums] using HO.out⟩, HB⟩
  case round =>
    clear HO HB
    obtain ⟨k, hk, rfl, HO, HB⟩ := hrel
    have HM1 := Aside0.mk (HM.out.below HB.out)
    by_cases hlt : k < N
    · have hx1 : 0 ≤ x + (k : Int) := by omega
      have hx2 : x + (k : Int) < 65536 * (ps.length : Int) := by omega
      have hc := HM1.out.cellAt _ hx1 hx2
      obtain ⟨hc1, hc2⟩ := hc
      go_wp2_with (first
        | (go_at_call 31; refine (at_calls HM1.out _ (by omega) (by omega)).mono ?_; rintro e w' ⟨rfl, rfl⟩)
        | (at_builtin; go_loud (refine print_append_num (w0 := w) w.heap.size rfl (.tmp 25) (.tmp 33) 25 5 .u8 1 rfl Try.underlying25 info5 (by decide) u8 (rdL f x.toNat k) (f (x + k).toNat) rfl rfl HO.out HB.out HB.out.size (by rw [rdL_length]; omega) ?_); intro v1 w1 ho hb _ _))
      have e1 : (x + (k : Int)).toNat = x.toNat + k := by omega
      rw [e1, ← rdL_succ] at ho
      go_roundw
      case rel => exact ⟨k + 1, by omega, by go_num, ⟨ho⟩, ⟨hb⟩⟩
      case measure => simp [intOf]; omega
    · obtain rfl : k = N := by omega
      go_wp2
      go_ret2
      exact ⟨_, rfl, by have := HO.out; rw [rdL_length] at this; simpa using this, HB.out⟩

set_option maxHeartbeats 400000 in
theorem read_no (M : Mm w base g wide mn mx hm v ps f) (x n : Int) (h0 : 0 ≤ x) (h1 : 0 ≤ n) (k0 : x < 18446744073709551616) (k1 : n < 18446744073709551616) (h2 : 65536 * ps.length < x + n) :
    Calls Try.prog 11 #[.pointer (some ⟨g, 0, none⟩), .int .u64 x, .int .u64 n] w fun e w' => e = .returned (.tuple #[.slice none 0 0, .int .i64 210]) ∧ w = w' := by
  have n64 := M.n64
  have HM := Aside0.mk M
  have hd : decide (x + n ≤ 65536 * (ps.length : Int)) = false := by rw [decide_eq_false_iff_not]; omega
  clear M
  go_enter Try.func11, Try.ntmps11
  go_wp2_with (first
    | (go_at_call 29; refine (none_calls HM.out).mono ?_; rintro e w' ⟨rfl, rfl⟩)
    | (go_at_call 30; refine (has_calls HM.out _ _ (by omega) (by omega) (by omega) (by omega)).mono ?_; rintro e w' ⟨rfl, rfl⟩))
  go_ret2
  exact ⟨rfl, rfl⟩

/-- What is written: pages alone. -/
structure KP (ps : List Nat) (w w' : World) : Prop where
  os : w'.os = w.os
  tape : w'.tape = w.tape
  output : w'.output = w.output
  size : w.heap.size ≤ w'.heap.size
  block : ∀ k, k < w.heap.size → k ∉ ps → w'.heap[k]? = w.heap[k]?

theorem KP.refl (ps : List Nat) (w : World) : KP ps w w := ⟨rfl, rfl, rfl, Nat.le_refl _, fun _ _ _ => rfl⟩
theorem KP.trans {a b c : World} (h : KP ps a b) (k : KP ps b c) : KP ps a c :=
  ⟨k.os.trans h.os, k.tape.trans h.tape, k.output.trans h.output, Nat.le_trans h.size k.size, fun i hi hn => (k.block i (Nat.lt_of_lt_of_le hi h.size) hn).trans (h.block i hi hn)⟩
theorem KP.of_below {a b : World} (h : Below a.heap.size a b) : KP ps a b := ⟨h.os, h.tape, h.output, h.size, fun i hi _ => h.block i hi⟩
theorem KP.below {a b c : World} {B : Nat} (h : Below B a b) (k : KP ps b c) (hB : B ≤ b.heap.size) (hp : ∀ p, p ∈ ps → B ≤ p) : Below B a c :=
  ⟨k.os.trans h.os, k.tape.trans h.tape, k.output.trans h.output, Nat.le_trans h.size k.size, fun i hi => (k.block i (by omega) (fun hm => by have := hp i hm; omega)).trans (h.block i hi)⟩
theorem KP.cell {a b : World} {ad : Addr} {u : Value} (k : KP ps a b) (h : a.cell? ad = some u) (hn : ad.block ∉ ps) : b.cell? ad = some u :=
  (World.cell?_of_block (k.block ad.block (World.block_lt_of_cell? a ad h) hn)).trans h
theorem KP.setCell {p : Nat} (hp : p ∈ ps) (j : Nat) (u : Value) : KP ps w (w.setCell ⟨p, j, none⟩ u) :=
  ⟨rfl, rfl, rfl, by simp [World.setCell], fun k _ hn => Below.heap_setCell w _ u k (fun e => hn (by rw [show k = p from e]; exact hp))⟩

theorem pgOf_mem (x : Int) (h0 : 0 ≤ x) (h1 : x < 65536 * ps.length) : pgOf ps x ∈ ps := by
  have hq : (x / 65536).toNat < ps.length := by omega
  have e : pgOf ps x = ps[(x / 65536).toNat] := by simp [pgOf, List.getElem?_eq_getElem hq, List.getD_eq_getElem?_getD]
  rw [e]
  exact List.getElem_mem hq

theorem Mm.set_ (M : Mm w base g wide mn mx hm v ps f) (x : Int) (h0 : 0 ≤ x) (h1 : x < 65536 * ps.length) (y : Int) :
    Mm (w.setCell ⟨pgOf ps x, (x % 65536).toNat, none⟩ (.int .u8 y)) base g wide mn mx hm v ps (fun z => if z = x.toNat then y else f z) := by
  have hq : (x / 65536).toNat < ps.length := by omega
  obtain ⟨cs, hcs, hsz, hc⟩ := M.pgs _ hq
  have e : pgOf ps x = ps[(x / 65536).toNat] := by simp [pgOf, List.getElem?_eq_getElem hq, List.getD_eq_getElem?_getD]
  have hcs' : w.heap[pgOf ps x]? = some (.cells cs 86 (0,0)) := by rw [e]; exact hcs
  refine ⟨?_, M.gb, M.n64, ?_, M.pgb, ?_, M.nd⟩
  · exact blk_far M.blk (blk_ne M.blk hcs' (by decide)) _
  · exact own_setCell M.own (own_ne M.own hcs' (by decide)) _
  · intro i hi
    by_cases hip : i = (x / 65536).toNat
    · subst hip
      refine ⟨cs.setIfInBounds (x % 65536).toNat (.int .u8 y), ?_, by simpa using hsz, ?_⟩
      · rw [← e]; exact blk_set hcs' _ _
      · intro j hj
        rw [Array.getElem?_setIfInBounds]
        by_cases hj2 : (x % 65536).toNat = j
        · rw [if_pos hj2, if_pos (by omega)]
          have : 65536 * (x / 65536).toNat + j = x.toNat := by omega
          simp [this]
        · rw [if_neg hj2, hc j hj]
          have : ¬ 65536 * (x / 65536).toNat + j = x.toNat := by omega
          simp [this]
    · obtain ⟨cs2, h2, s2, c2⟩ := M.pgs i hi
      refine ⟨cs2, blk_far h2 ?_ _, s2, ?_⟩
      · show ps[i] ≠ pgOf ps x
        rw [e]
        intro he
        have hpw := List.pairwise_iff_getElem.1 M.nd
        rcases Nat.lt_trichotomy i (x / 65536).toNat with hl | hl | hl
        · exact hpw _ _ hi hq hl he
        · exact hip hl
        · exact hpw _ _ hq hi hl he.symm
      · intro j hj
        rw [c2 j hj]
        have : ¬ 65536 * i + j = x.toNat := by omega
        simp [this]

def wrF (f : Nat → Int) (x : Nat) (l : List Int) : Nat → Int := fun z => if x ≤ z ∧ z < x + l.length then l.getD (z - x) 0 else f z

theorem wrF_nil (f : Nat → Int) (x : Nat) : wrF f x [] = f := by
  funext z
  simp only [wrF, List.length_nil]
  rw [if_neg (by omega)]

theorem wrF_take (f : Nat → Int) (x : Nat) (l : List Int) (k : Nat) (hk : k < l.length) :
    (fun z => if z = x + k then l.getD k 0 else wrF f x (l.take k) z) = wrF f x (l.take (k+1)) := by
  funext z
  have e1 : (l.take k).length = k := by simp; omega
  have e2 : (l.take (k+1)).length = k + 1 := by simp; omega
  simp only [wrF, e1, e2]
  by_cases h : z = x + k
  · subst h
    rw [if_pos rfl, if_pos (by omega)]
    have : x + k - x = k := by omega
    rw [this]
    simp [hk]
  · rw [if_neg h]
    by_cases h2 : x ≤ z ∧ z < x + k
    · rw [if_pos h2, if_pos (by omega)]
      have : z - x < k := by omega
      have h3 : z - x < k + 1 := by omega
      simp [this, h3]
    · rw [if_neg h2, if_neg (by omega)]

set_option maxHeartbeats 800000 in
theorem write_yes (M : Mm w base g wide mn mx hm v ps f) (x : Int) (h0 : 0 ≤ x) (B : Option Addr) (l : List Int) (c : Nat) (HR : ReadsInt w .u8 B l.length l) (hB : 0 < l.length → ∀ ad, B = some ad → ad.block ∉ ps) (h2 : x + l.length ≤ 65536 * ps.length) :
    Calls Try.prog 9 #[.pointer (some ⟨g, 0, none⟩), .int .u64 x, .slice B l.length c] w fun e w' => e = .returned (.int .i64 0) ∧ Mm w' base g wide mn mx hm v ps (wrF f x.toNat l) ∧ KP ps w w' := by
  have n64 := M.n64
  have HM := Aside0.mk M
  have HRA := Aside0.mk HR
  have HBA := Aside0.mk hB
  have hd : decide (x + (l.length : Int) ≤ 65536 * (ps.length : Int)) = true := by simpa using h2
  clear M HR hB
  go_enter Try.func9, Try.ntmps9
  go_wp2_with (first
    | (go_at_call 29; refine (none_calls HM.out).mono ?_; rintro e w' ⟨rfl, rfl⟩)
    | (go_at_call 30; refine (has_calls HM.out _ _ (by omega) (by omega) (by omega) (by omega)).mono ?_; rintro e w' ⟨rfl, rfl⟩))
  go_loopw [22] (fun i wr => ∃ k : Nat, k ≤ l.length ∧ i = .int .i64 k ∧ Aside0 (Mm wr base g wide mn mx hm v ps (wrF f x.toNat (l.take k))) ∧ Aside0 (KP ps w wr)) (fun i _ => l.length - (intOf i).toNat)
  case atStart => exact ⟨0, by omega, rfl, ⟨by simpa [wrF_nil] using HM.out⟩, ⟨KP.refl _ _⟩⟩
  case round =>
    obtain ⟨k, hk, rfl, HM1, HK⟩ := hrel
    by_cases hlt : k < l.length
    · have hx1 : 0 ≤ x + (k : Int) := by omega
      have hx2 : x + (k : Int) < 65536 * (ps.length : Int) := by omega
      have hc2 := (HM1.out.cellAt _ hx1 hx2).2
      have hc3 := (HM1.out.cellAt _ hx1 hx2).1
      obtain ⟨ad, hB0, hcell⟩ := HRA.out.at_ (k : Int) (by omega) (by omega)
      subst hB0
      have hcell2 := HK.out.cell hcell (by have := HBA.out (by omega) ad rfl; unfold Addr.add; split <;> exact this)
      simp only [Int.toNat_natCast] at hcell2
      clear hcell
      go_wp2_with (first
        | (go_at_call 31; refine (at_calls HM1.out _ (by omega) (by omega)).mono ?_; rintro e w' ⟨rfl, rfl⟩))
      go_roundw
      case rel =>
        refine ⟨k + 1, by omega, by go_num, ⟨?_⟩, ⟨HK.out.trans (KP.setCell (pgOf_mem _ hx1 hx2) _ _)⟩⟩
        have h := HM1.out.set_ _ hx1 hx2 (rd l k)
        have ex : (x + (k : Int)).toNat = x.toNat + k := by omega
        rw [ex] at h
        have hw := wrF_take f x.toNat l k hlt
        have er : rd l (k : Int) = l.getD k 0 := by simp [rd]
        rw [er, hw] at h
        rw [← er] at h
        exact h
      case measure => simp [intOf]; omega
    · obtain rfl : k = l.length := by omega
      go_wp2
      go_ret
      exact ⟨rfl, by have := HM1.out; rwa [List.take_length] at this, HK.out⟩
end
end Go.Proofs.Ytdbgnppifcghdaa.Mem
