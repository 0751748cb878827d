/- The chapter's examples: awake. -/
import Derived.Test.YtecbheeffmhlnaaTellsA
namespace Go.Proofs.Ytecbheeffmhlnaa.Tells
open Go.RowKit Go.Proofs.Ytecbheeffmhlnaa Go.Proofs.Ytecbheeffmhlnaa.Pl Go.Proofs.Ytecbheeffmhlnaa.HalfI Go.Proofs.Ytecbheeffmhlnaa.Ref22 Go.Proofs.Ytecbheeffmhlnaa.TrI Go.Proofs.Ytecbheeffmhlnaa.Law22

/-- the half behind some operations; block g0 is not its own -/
def Hv (w0 w : World) (h c bm : Nat) (L : List (Int × Nat)) (alive : List Bool) (j g0 : Nat) : Prop :=
  ∃ (C : Nat → Nat) (bv av tv lvv : Value) (work : Nat) (lv : List Nat) (ts : List TV) (m : List (Int × Int)),
    HM w C w C h c bm bv av tv lvv L work alive lv ts m (tlOf L alive) ∧ WF L alive m ∧ LvOK L alive lv ∧ ts.length ≤ 20 ∧ work ≤ j ∧ C g0 = 0 ∧ g0 < w.heap.size ∧ (∀ b, b < w0.heap.size → C b = 0) ∧ Below w0.heap.size w0 w

theorem hv_below {w0 w w' : World} {h c bm j g0 : Nat} {L : List (Int × Nat)} {alive : List Bool} (N : Hv w0 w h c bm L alive j g0) (hb : Below w.heap.size w w') : Hv w0 w' h c bm L alive j g0 := by
  obtain ⟨C, bv, av, tv, lvv, work, lv, ts, m, H, W, V, ht, hw, hc, hg, hc0, hb0⟩ := N
  exact ⟨tint C w.heap.size 0, bv, av, tv, lvv, work, lv, ts, m, outside H (Mod.of_below _ hb), W, V, ht, hw, (tint_old hg).trans hc, Nat.lt_of_lt_of_le hg hb.size, fun b hb' => (tint_old (Nat.lt_of_lt_of_le hb' hb0.size)).trans (hc0 b hb'), then_below hb0 hb hb0.size⟩

theorem hv_add {w0 w : World} {h c bm j g0 : Nat} {L : List (Int × Nat)} {alive : List Bool} (N : Hv w0 w h c bm L alive j g0) {x : Int} (hx : x ∉ lvs alive L) (hL : L.length ≤ 20) (hA : alive.length ≤ 20) (hj : j ≤ 10000) {P0 : Nat} (hP : P0 = 2 ^ t1 L.length) :
    Calls Try.prog 9 #[.pointer (some ⟨h, 0, none⟩), .int .i64 x] w fun e w' => e = .returned (.tuple #[.int .i64 P0, .bool true]) ∧ Hv w0 w' h c bm (L ++ [(x, alive.length)]) (alive ++ [true]) (j + 100) g0 ∧ w'.heap[g0]? = w.heap[g0]? := by
  obtain ⟨C, bv, av, tv, lvv, work, lv, ts, m, H, W, V, ht, hw, hc, hg, hc0, hb0⟩ := N
  refine (HalfI.add_yes H W V hx ht (by omega) (by omega) (by omega)).mono ?_
  rintro e w' ⟨rfl, C', bv', av', tv', lvv', lv', ts', m', H', W', V', ht'⟩
  have hP2 : 2 ^ t1 L.length ≤ 21 := by have := Ref20.t1_pow_le L.length; omega
  refine ⟨by rw [hP], ⟨C', bv', av', tv', lvv', _, lv', ts', m', H'.rebase, W', V', ht', by omega, (H'.ext g0 hg).trans hc, Nat.lt_of_lt_of_le hg H'.mod.size, fun b hb => (H'.ext b (Nat.lt_of_lt_of_le hb hb0.size)).trans (hc0 b hb), hb0.trans (H'.mod.below hb0.size fun b hb e => e (hc0 b hb))⟩, H'.mod.block g0 hg (fun e => e hc)⟩

theorem hv_add_no {w0 w : World} {h c bm j g0 : Nat} {L : List (Int × Nat)} {alive : List Bool} (N : Hv w0 w h c bm L alive j g0) {x : Int} (hx : x ∈ lvs alive L) :
    Calls Try.prog 9 #[.pointer (some ⟨h, 0, none⟩), .int .i64 x] w fun e w' => e = .returned (.tuple #[.int .i64 0, .bool false]) ∧ w = w' := by
  obtain ⟨C, bv, av, tv, lvv, work, lv, ts, m, H, W, V, ht, hw, hc, hg, hc0, hb0⟩ := N
  exact HalfI.add_no H W hx

theorem hv_drop {w0 w : World} {h c bm j g0 : Nat} {L : List (Int × Nat)} {alive : List Bool} (N : Hv w0 w h c bm L alive j g0) {x : Int} {k : Nat} (hx : (x, k) ∈ keep alive L) (hL : L.length ≤ 20) (hA : alive.length ≤ 20) (hj : j ≤ 10000) {n : Nat} (hn : n = dropN L (alive.set k false)) (hn2 : n ≤ 20) {L' : List (Int × Nat)} (hL' : L' = dropL L (alive.set k false)) {alive' : List Bool} (ha : alive' = alive.set k false) :
    Calls Try.prog 7 #[.pointer (some ⟨h, 0, none⟩), .int .i64 x] w fun e w' => e = .returned (.tuple #[.int .i64 n, .bool true]) ∧ Hv w0 w' h c bm L' alive' (j + 100) g0 ∧ w'.heap[g0]? = w.heap[g0]? := by
  obtain ⟨C, bv, av, tv, lvv, work, lv, ts, m, H, W, V, ht, hw, hc, hg, hc0, hb0⟩ := N
  subst ha hL'
  refine (HalfI.drop_yes H W V hx ht (by omega) (by omega) (by omega)).mono ?_
  rintro e w' ⟨rfl, C', bv', tv', lv', ts', m', H', W', V', ht'⟩
  refine ⟨by rw [hn], ⟨C', bv', av, tv', lvv, _, lv', ts', m', H'.rebase, W', V', ht', by rw [← hn]; omega, (H'.ext g0 hg).trans hc, Nat.lt_of_lt_of_le hg H'.mod.size, fun b hb => (H'.ext b (Nat.lt_of_lt_of_le hb hb0.size)).trans (hc0 b hb), hb0.trans (H'.mod.below hb0.size fun b hb e => e (hc0 b hb))⟩, H'.mod.block g0 hg (fun e => e hc)⟩

theorem hv_stored {w0 w : World} {h c bm j g0 : Nat} {L : List (Int × Nat)} {alive : List Bool} (N : Hv w0 w h c bm L alive j g0) {n : Nat} (hn : n = L.length) :
    Calls Try.prog 13 #[.pointer (some ⟨h, 0, none⟩)] w fun e w' => e = .returned (.int .i64 n) ∧ w = w' := by
  obtain ⟨C, bv, av, tv, lvv, work, lv, ts, m, H, W, V, ht, hw, hc, hg, hc0, hb0⟩ := N
  subst hn
  exact HalfI.stored_any H

theorem own_lit {w : World} {b E n k : Nat} {cs : Array Value} (h : w.heap[b]? = some (.cells cs E (0, 0))) (hn : cs.size = n * k) (hl : n ≤ 1000) : Own w E k (.slice (some ⟨b, 0, none⟩) n n) n cs.toList :=
  ⟨by simpa using hn, .inr ⟨b, n, cs, rfl, Nat.zero_le _, h, Nat.le_refl _, by unfold maxLen; omega, hn, by rw [List.take_of_length_le (by simp [hn])]⟩⟩

/-- 'trees' beside a literal of two lists -/
theorem hv_trees2 {w0 w : World} {h c bm j g0 : Nat} {L : List (Int × Nat)} {alive : List Bool} (N : Hv w0 w h c bm L alive j g0) (hL : L.length ≤ 20) {a b : List Int} (ha : a.length ≤ 1000) (hb : b.length ≤ 1000) (ha0 : a ≠ []) (hb0 : b ≠ []) (hpr : mTrees (toP L alive) = [a, b]) :
    Calls Try.prog 17 #[.pointer (some ⟨h, 0, none⟩), .slice (some ⟨w.heap.size + 1 + 1, 0, none⟩) 2 2]
      (((w.alloc (.cells (a.map (Value.int .i64)).toArray tI)).alloc (.cells (b.map (Value.int .i64)).toArray tI)).alloc (.cells #[.slice (some ⟨w.heap.size, 0, none⟩) a.length a.length, .slice (some ⟨w.heap.size + 1, 0, none⟩) b.length b.length] tIs))
      fun e w' => e = .returned (.bool true) ∧ Hv w0 w' h c bm L alive j g0 ∧ w'.heap[g0]? = w.heap[g0]? := by
  have hg0 : g0 < w.heap.size := by
    obtain ⟨C, bv, av, tv, lvv, work, lv, ts, m, H, W, V, ht, hw, hc, hg, hc0, hb0⟩ := N
    exact hg
  have hb3 : Below w.heap.size w (((w.alloc (.cells (a.map (Value.int .i64)).toArray tI)).alloc (.cells (b.map (Value.int .i64)).toArray tI)).alloc (.cells #[.slice (some ⟨w.heap.size, 0, none⟩) a.length a.length, .slice (some ⟨w.heap.size + 1, 0, none⟩) b.length b.length] tIs)) :=
    (((Below.refl _ w).alloc (Nat.le_refl _) _).alloc (by simp) _).alloc (by simp; omega) _
  have e0 : (((w.alloc (.cells (a.map (Value.int .i64)).toArray tI)).alloc (.cells (b.map (Value.int .i64)).toArray tI)).alloc (.cells #[.slice (some ⟨w.heap.size, 0, none⟩) a.length a.length, .slice (some ⟨w.heap.size + 1, 0, none⟩) b.length b.length] tIs)).heap[w.heap.size]? = some (.cells (a.map (Value.int .i64)).toArray tI (0, 0)) :=
    ((Below.heap_alloc _ _ _ (by simp; omega)).trans (Below.heap_alloc _ _ _ (by simp))).trans (heap_alloc_new w _)
  have e1 : (((w.alloc (.cells (a.map (Value.int .i64)).toArray tI)).alloc (.cells (b.map (Value.int .i64)).toArray tI)).alloc (.cells #[.slice (some ⟨w.heap.size, 0, none⟩) a.length a.length, .slice (some ⟨w.heap.size + 1, 0, none⟩) b.length b.length] tIs)).heap[w.heap.size + 1]? = some (.cells (b.map (Value.int .i64)).toArray tI (0, 0)) := by
    refine (Below.heap_alloc _ _ _ (by simp)).trans ?_
    have := heap_alloc_new (w.alloc (.cells (a.map (Value.int .i64)).toArray tI)) (.cells (b.map (Value.int .i64)).toArray tI)
    simpa using this
  have e2 : (((w.alloc (.cells (a.map (Value.int .i64)).toArray tI)).alloc (.cells (b.map (Value.int .i64)).toArray tI)).alloc (.cells #[.slice (some ⟨w.heap.size, 0, none⟩) a.length a.length, .slice (some ⟨w.heap.size + 1, 0, none⟩) b.length b.length] tIs)).heap[w.heap.size + 1 + 1]? = some (.cells #[.slice (some ⟨w.heap.size, 0, none⟩) a.length a.length, .slice (some ⟨w.heap.size + 1, 0, none⟩) b.length b.length] tIs (0, 0)) := by
    have := heap_alloc_new ((w.alloc (.cells (a.map (Value.int .i64)).toArray tI)).alloc (.cells (b.map (Value.int .i64)).toArray tI)) (.cells #[.slice (some ⟨w.heap.size, 0, none⟩) a.length a.length, .slice (some ⟨w.heap.size + 1, 0, none⟩) b.length b.length] tIs)
    simpa using this
  have N3 := hv_below N hb3
  generalize World.alloc (World.alloc (World.alloc w _) _) _ = W3 at *
  have hR : Ref20.Rows 0 W3 (.slice (some ⟨w.heap.size + 1 + 1, 0, none⟩) 2 2) [.slice (some ⟨w.heap.size, 0, none⟩) a.length a.length, .slice (some ⟨w.heap.size + 1, 0, none⟩) b.length b.length] (fun i => [a, b].getD i []) := by
    refine ⟨own_lit e2 rfl (by decide), fun _ _ => Nat.zero_le _, fun i hi => ?_⟩
    have h2 : i = 0 ∨ i = 1 := by simp at hi; omega
    rcases h2 with rfl | rfl
    · refine ⟨?_, fun _ _ => Nat.zero_le _, fun h => absurd h ha0⟩
      have := own_lit (k := 1) e0 (by simp) ha
      simpa using this
    · refine ⟨?_, fun _ _ => Nat.zero_le _, fun h => absurd h hb0⟩
      have := own_lit (k := 1) e1 (by simp) hb
      simpa using this
  have N4 := N3
  obtain ⟨C, bv, av, tv, lvv, work, lv, ts, m, H, W, V, ht, hw, hc, hg, hc0, hb0'⟩ := N3
  have hpr' := hpr
  rw [mTrees_toP L alive ts] at hpr'
  have hl2 : (prs L alive ts).length = 2 := by have := congrArg List.length hpr'; simpa using this
  refine (Law22T.trees_true H (by omega) hR (by rw [hl2]; rfl) (fun i hi => ?_)).mono ?_
  · rw [← hpr']; simp [hi]
  · rintro e w' ⟨rfl, hbw⟩
    exact ⟨rfl, hv_below N4 hbw, (hbw.block g0 (Nat.lt_of_lt_of_le hg0 hb3.size)).trans (hb3.block g0 hg0)⟩

/-- .. of one list -/
theorem hv_trees1 {w0 w : World} {h c bm j g0 : Nat} {L : List (Int × Nat)} {alive : List Bool} (N : Hv w0 w h c bm L alive j g0) (hL : L.length ≤ 20) {a : List Int} (ha : a.length ≤ 1000) (ha0 : a ≠ []) (hpr : mTrees (toP L alive) = [a]) :
    Calls Try.prog 17 #[.pointer (some ⟨h, 0, none⟩), .slice (some ⟨w.heap.size + 1, 0, none⟩) 1 1]
      ((w.alloc (.cells (a.map (Value.int .i64)).toArray tI)).alloc (.cells #[.slice (some ⟨w.heap.size, 0, none⟩) a.length a.length] tIs))
      fun e w' => e = .returned (.bool true) ∧ Hv w0 w' h c bm L alive j g0 ∧ w'.heap[g0]? = w.heap[g0]? := by
  have hg0 : g0 < w.heap.size := by
    obtain ⟨C, bv, av, tv, lvv, work, lv, ts, m, H, W, V, ht, hw, hc, hg, hc0, hb0⟩ := N
    exact hg
  have hb3 : Below w.heap.size w ((w.alloc (.cells (a.map (Value.int .i64)).toArray tI)).alloc (.cells #[.slice (some ⟨w.heap.size, 0, none⟩) a.length a.length] tIs)) := ((Below.refl _ w).alloc (Nat.le_refl _) _).alloc (by simp) _
  have e0 : ((w.alloc (.cells (a.map (Value.int .i64)).toArray tI)).alloc (.cells #[.slice (some ⟨w.heap.size, 0, none⟩) a.length a.length] tIs)).heap[w.heap.size]? = some (.cells (a.map (Value.int .i64)).toArray tI (0, 0)) := (Below.heap_alloc _ _ _ (by simp)).trans (heap_alloc_new w _)
  have e2 : ((w.alloc (.cells (a.map (Value.int .i64)).toArray tI)).alloc (.cells #[.slice (some ⟨w.heap.size, 0, none⟩) a.length a.length] tIs)).heap[w.heap.size + 1]? = some (.cells #[.slice (some ⟨w.heap.size, 0, none⟩) a.length a.length] tIs (0, 0)) := by
    have := heap_alloc_new (w.alloc (.cells (a.map (Value.int .i64)).toArray tI)) (.cells #[.slice (some ⟨w.heap.size, 0, none⟩) a.length a.length] tIs)
    simpa using this
  have N3 := hv_below N hb3
  generalize World.alloc (World.alloc w _) _ = W3 at *
  have hR : Ref20.Rows 0 W3 (.slice (some ⟨w.heap.size + 1, 0, none⟩) 1 1) [.slice (some ⟨w.heap.size, 0, none⟩) a.length a.length] (fun i => [a].getD i []) := by
    refine ⟨own_lit e2 rfl (by decide), fun _ _ => Nat.zero_le _, fun i hi => ?_⟩
    have h2 : i = 0 := by simp at hi; omega
    subst h2
    refine ⟨?_, fun _ _ => Nat.zero_le _, fun h => absurd h ha0⟩
    have := own_lit (k := 1) e0 (by simp) ha
    simpa using this
  have N4 := N3
  obtain ⟨C, bv, av, tv, lvv, work, lv, ts, m, H, W, V, ht, hw, hc, hg, hc0, hb0'⟩ := N3
  have hpr' := hpr
  rw [mTrees_toP L alive ts] at hpr'
  have hl2 : (prs L alive ts).length = 1 := by have := congrArg List.length hpr'; simpa using this
  refine (Law22T.trees_true H (by omega) hR (by rw [hl2]; rfl) (fun i hi => ?_)).mono ?_
  · rw [← hpr']; simp [hi]
  · rintro e w' ⟨rfl, hbw⟩
    exact ⟨rfl, hv_below N4 hbw, (hbw.block g0 (Nat.lt_of_lt_of_le hg0 hb3.size)).trans (hb3.block g0 hg0)⟩

theorem bl_1 : bl 1 = 1 := by rw [bl_pos (by decide), show 1 / 2 = 0 from rfl, bl_zero]
theorem bl_3 : bl 3 = 2 := by rw [bl_pos (by decide), show 3 / 2 = 1 from rfl, bl_1]
theorem ex_a : mTrees (toP [(5, 0), (3, 1), (9, 2)] [true, true, true]) = [[3, 5], [9]] := by
  unfold mTrees
  rw [show (toP [(5, 0), (3, 1), (9, 2)] [true, true, true]).length = 3 from rfl, bl_3]; rfl
theorem ex_b : mTrees (toP [(5, 0), (3, 1), (9, 2)] [false, true, true]) = [[3], [9]] := by
  unfold mTrees
  rw [show (toP [(5, 0), (3, 1), (9, 2)] [false, true, true]).length = 3 from rfl, bl_3]; rfl
theorem ex_c : mTrees (toP [(3, 1)] [false, true, false]) = [[3]] := by
  unfold mTrees
  rw [show (toP [(3, 1)] [false, true, false]).length = 1 from rfl, bl_1]; rfl
theorem t1_0 : t1 0 = 0 := t1_even rfl
theorem t1_1 : t1 1 = 1 := by rw [t1_odd rfl, show 1 / 2 = 0 from rfl, t1_0]
theorem t1_2 : t1 2 = 0 := t1_even rfl
end Go.Proofs.Ytecbheeffmhlnaa.Tells
