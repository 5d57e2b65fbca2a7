import Derived.Test.YtdbgnppifcghdaaMem1
open Go Go.Proofs Go.RowKit Go.Proofs.YtdbgnppifcghdaaW.PrintWords
namespace Go.Proofs.Ytdbgnppifcghdaa.Mem
set_option linter.unusedVariables false
set_option linter.unusedSimpArgs false
def pgZero : Array Value := Array.replicate 65536 (.int .u8 0)
theorem pgZero_size : pgZero.size = 65536 := by simp [pgZero]
theorem pgZero_at (j : Nat) (h : j < 65536) : pgZero[j]? = some (.int .u8 0) := by simp [pgZero, h]
set_option maxRecDepth 1000000 in
theorem info86 : (Try.prog.info? 86).map (fun i => (i.zero, i.size, i.bytes)) = some (some (.agg pgZero), 65536, 65536) := by kernel_rfl
theorem info84 : (Try.prog.info? 84).map (fun i => (i.zero, i.size, i.bytes)) = some (some (.pointer none), 1, 8) := by kernel_rfl
attribute [irreducible] pgZero
theorem zero86 (w : World) : (zeroValue 86).run Try.prog w = .ok (.agg pgZero) w := by
  obtain ⟨i0, hi, hz0, hz1, hz2⟩ := info_parts info86
  simp [zeroValue, typeInfo, hi, hz0]

section
variable {w : World} {base g : Nat} {wide : Bool} {mn mx : Int} {hm : Bool} {v : Value} {ps : List Nat} {f : Nat → Int}


theorem Mm.alloc (M : Mm w base g wide mn mx hm v ps f) (o : Obj) : Mm (w.alloc o) base g wide mn mx hm v ps f :=
  M.below ((Below.refl _ _).alloc (Nat.le_refl _) o)

theorem Mm.congr {f' : Nat → Int} (M : Mm w base g wide mn mx hm v ps f) (h : ∀ z, z < 65536 * ps.length → f z = f' z) : Mm w base g wide mn mx hm v ps f' := by
  refine ⟨M.blk, M.gb, M.n64, M.own, M.pgb, ?_, M.nd⟩
  intro i hi
  obtain ⟨cs, h1, h2, h3⟩ := M.pgs i hi
  exact ⟨cs, h1, h2, fun j hj => by rw [h3 j hj]; show some (Value.int .u8 (f _)) = some (Value.int .u8 (f' _)); rw [h _ (by omega)]⟩

theorem Mm.pg_lt (M : Mm w base g wide mn mx hm v ps f) (p : Nat) (hp : p ∈ ps) : p < w.heap.size := by
  obtain ⟨i, hi, rfl⟩ := List.getElem_of_mem hp
  obtain ⟨cs, h1, _⟩ := M.pgs i hi
  exact blk_lt h1

/-- Behind one round of add: the world before it W; the page is W's new block; then the append has run, and the field is stored. -/
theorem Mm.added {W w1 : World} {v1 : Value} (M : Mm W base g wide mn mx hm v ps f) (hn : ps.length < 64) (hbw : base ≤ W.heap.size) (hz : ∀ j, 65536 * ps.length ≤ j → f j = 0)
    (ho : w1.ownsRow base 84 1 v1 (ps.length + 1) (ps.map (fun p => Value.pointer (some ⟨p, 0, none⟩)) ++ [Value.pointer (some ⟨W.heap.size, 0, none⟩)]))
    (hg : (W.alloc (.cells pgZero 86)).grownBy w1 v.ownBlock) :
    Mm (w1.setCell ⟨g, 5, none⟩ v1) base g wide mn mx hm v1 (ps ++ [W.heap.size]) f := by
  have hgne : some g ≠ v.ownBlock := own_ne M.own M.blk (by decide)
  have M1 := M.alloc (.cells pgZero 86)
  have hb1 : w1.heap[g]? = some (.cells #[.bool true, .bool wide, .int .u64 mn, .int .u64 mx, .bool hm, v] 64 (0,0)) := blk_grown M1.blk hg hgne
  have hpage : ∀ (p : Nat) (h : Nat → Int), Pg (W.alloc (.cells pgZero 86)) p h → Pg (w1.setCell ⟨g, 5, none⟩ v1) p h := by
    rintro p h ⟨cs, h1, h2, h3⟩
    refine ⟨cs, ?_, h2, h3⟩
    have e1 : w1.heap[p]? = some (.cells cs 86 (0,0)) := blk_grown h1 hg (own_ne M1.own h1 (by decide))
    exact blk_far e1 (blk_ne e1 hb1 (by decide)) _
  have hps : ∀ p, p ∈ ps → p < W.heap.size := M.pg_lt
  refine ⟨?_, M.gb, by simp; omega, ?_, ?_, ?_, ?_⟩
  · have := blk_set hb1 5 v1
    simpa using this
  · have := own_setCell (p := ⟨g, 5, none⟩) ho (own_ne ho hb1 (by decide)) v1
    simpa using this
  · intro p hp
    rcases List.mem_append.1 hp with hp | hp
    · exact M.pgb p hp
    · rw [List.mem_singleton.1 hp]; exact hbw
  · intro i hi
    by_cases hl : i < ps.length
    · rw [List.getElem_append_left hl]
      exact hpage _ _ (M1.pgs i hl)
    · have : i = ps.length := by simp at hi; omega
      subst this
      rw [List.getElem_append_right (Nat.le_refl _)]
      simp only [Nat.sub_self, List.getElem_cons_zero]
      refine hpage _ _ ⟨pgZero, blk_new _ _, pgZero_size, fun j hj => ?_⟩
      rw [pgZero_at j hj]
      show _ = some (Value.int .u8 (f _))
      rw [hz _ (by omega)]
  · rw [List.nodup_append]
    refine ⟨M.nd, by simp, ?_⟩
    intro a ha b hb
    rw [List.mem_singleton.1 hb]
    have := hps a ha
    omega

def zeroF (f : Nat → Int) (n : Nat) : Nat → Int := fun z => if z < n then f z else 0

set_option maxRecDepth 100000 in
set_option maxHeartbeats 400000 in
theorem add_calls (M : Mm w base g wide mn mx hm v ps f) (n : Int) (h0 : 0 ≤ n) (h1 : ps.length + n ≤ 64) (hb : base ≤ w.heap.size) (hz : ∀ j, 65536 * ps.length ≤ j → f j = 0) :
    Calls Try.prog 28 #[.pointer (some ⟨g, 0, none⟩), .int .u64 n] w fun e w' => e = .returned (.tuple #[]) ∧ (∃ v' ps', Mm w' base g wide mn mx hm v' ps' f ∧ ps'.length = ps.length + n.toNat) ∧ Below base w w' := by
  have n64 := M.n64
  have HM := Aside0.mk M
  have HZ := Aside0.mk hz
  clear M hz
  obtain ⟨N, rfl⟩ := Int.eq_ofNat_of_zero_le h0
  go_enter Try.func28, Try.ntmps28
  go_wp2_with fail
  go_loopw [5] (fun i wr => ∃ k : Nat, k ≤ N ∧ i = .int .u64 k ∧ ∃ v' ps', Aside0 (Mm wr base g wide mn mx hm v' ps' f) ∧ Aside0 (ps'.length = ps.length + k) ∧ Aside0 (Below base w wr)) (fun i _ => N - (intOf i).toNat)
  case atStart => exact ⟨0, by omega, rfl, v, ps, HM, ⟨rfl⟩, ⟨Below.refl _ _⟩⟩
  case round =>
    obtain ⟨k, hk, rfl, v', ps', HM1, HL, HB⟩ := hrel
    by_cases hlt : k < N
    · have z86 := zero86
      have c5 := blk_cell HM1.out.blk 5
      have f5 := blk_frozen HM1.out.blk 5
      simp at c5
      have hpl : ps'.length < 64 := by have := HL.out; omega
      have hps : base ≤ wr.heap.size := by have := HB.out.size; omega
      obtain ⟨A, c, rfl⟩ := own_slice HM1.out.own
      have hgne : ∀ {w1 : World}, (wr.alloc (.cells pgZero 86)).grownBy w1 (Value.slice A ps'.length c).ownBlock → w1.heap[g]? = some (.cells #[.bool true, .bool wide, .int .u64 mn, .int .u64 mx, .bool hm, .slice A ps'.length c] 64 (0,0)) :=
        fun hg => blk_grown (HM1.out.alloc (.cells pgZero 86)).blk hg (own_ne HM1.out.own HM1.out.blk (by decide))
      have HG := Aside0.mk @hgne
      clear hgne
      go_wp2_with (at_builtin; refine print_append (w0 := w) (W := wr.alloc (.cells pgZero 86)) base rfl (.tmp 11) (.tmp 13) 62 84 (.pointer none) 8 rfl Try.underlying62 info84 rfl (by decide) (.slice A ps'.length c) (ps'.map fun p => .pointer (some ⟨p, 0, none⟩)) (.pointer (some ⟨wr.heap.size, 0, none⟩)) rfl (by simp; rfl) rfl (by simpa using (HM1.out.alloc (.cells pgZero 86)).own) (HB.out.alloc hps _) (by simp; omega) (by simp; omega) ?_; intro v1 w1 ho hb hg _; obtain ⟨A1, c1, e1⟩ := own_slice ho; subst e1; have HG1 := Aside0.mk hg; have HO1 := Aside0.mk ho; have HB1 := Aside0.mk hb; have c51 := blk_cell (HG.out hg) 5; have f51 := blk_frozen (HG.out hg) 5; simp at c51; clear hg ho hb c5 f5)
      go_roundw
      case rel =>
        refine ⟨k + 1, by omega, by go_num, _, ps' ++ [wr.heap.size], ⟨HM1.out.added hpl hps ?_ (by simpa using HO1.out) HG1.out⟩, ⟨by have := HL.out; simp; omega⟩, ⟨HB1.out.setCell HM1.out.gb _⟩⟩
        intro j hj
        exact HZ.out j (by have := HL.out; omega)
      case measure => simp [intOf]; omega
    · obtain rfl : k = N := by omega
      go_wp2
      go_end0
      exact ⟨rfl, ⟨v', ps', HM1.out, by simpa using HL.out⟩, HB.out⟩
end
end Go.Proofs.Ytdbgnppifcghdaa.Mem
