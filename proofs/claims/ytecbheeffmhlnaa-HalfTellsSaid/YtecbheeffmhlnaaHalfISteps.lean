/- half: what single steps do to its blocks. -/
import Derived.Test.YtecbheeffmhlnaaHalfIAll
namespace Go.Proofs.Ytecbheeffmhlnaa.HalfI
open Go.RowKit Go.Proofs.Ytecbheeffmhlnaa Go.Proofs.Ytecbheeffmhlnaa.Pl Go.Proofs.Ytecbheeffmhlnaa.TrI

theorem flat_set1 {t : TV} {u : Value} (hu : encT t = [u]) : ∀ (ts : List TV) (i : Nat), (flat encT ts).set i u = flat encT (ts.set i t) := by
  have hk : ∀ x : TV, ∃ v, encT x = [v] := fun x => by
    have := encT_len x
    match h : encT x, this with
    | [v], _ => exact ⟨v, rfl⟩
  intro ts
  induction ts with
  | nil => intro i; rfl
  | cons x xs ih =>
    intro i
    obtain ⟨v, hv⟩ := hk x
    cases i with
    | zero => simp [flat, hv, hu]
    | succ i =>
      have := ih i
      simp only [flat, List.flatMap_cons, hv, List.singleton_append, List.set_cons_succ] at this ⊢
      rw [this]

section
variable {w0 w : World} {C0 C : Nat → Nat} {h c bm : Nat} {bv av tv lvv : Value} {L : List (X × Nat)} {work : Nat} {alive : List Bool} {lv : List Nat} {ts : List TV} {m : List (X × Int)} {tl : Nat → Option (Nat × List X)}

/-- a block of another kind turns, a block of its own colour; new ones come -/
theorem HM.foreign (H : HM w0 C0 w C h c bm bv av tv lvv L work alive lv ts m tl) {T : Nat → Prop} {w' : World} (hm : Mod T w w') {E : TypeId} (hT : ∀ b o, w.heap[b]? = some o → T b → C b = 1 ∧ kind o = some E) (hT0 : ∀ b, T b → C b ≠ 0)
    (hE : E ≠ tH ∧ E ≠ CarryI.tC ∧ E ≠ CarryI.tS ∧ E ≠ CarryI.tE ∧ E ≠ tBool ∧ E ≠ tInt ∧ E ≠ tTr) (k : Nat) : HM w0 C0 w' (tint C w.heap.size k) h c bm bv av tv lvv L work alive lv ts m tl := by
  obtain ⟨h1, h2, h3, h4, h5, h6, h7, h8, h9, h10, h11⟩ := H.step hm k (fun o => o = some E) (fun b o hb ht => .inl (hT b o hb ht)) hT0
  obtain ⟨e1, e2, e3, e4, e5, e6, e7⟩ := hE
  have n : ∀ {F : TypeId}, E ≠ F → ¬ (some F = some E) := fun hne e => hne (Option.some.inj e).symm
  exact ⟨h1, h2, (h5 (n e1)).trans H.blk, h3, h4, h6 (n e2) (n e3) (n e4), (h7 (n e5)).1, (h7 (n e5)).2, (h8 (n e6)).1, (h8 (n e6)).2, (h9 (n e7)).1, (h9 (n e7)).2, h10 (by simp), h11⟩

theorem HM.drewN (H : HM w0 C0 w C h c bm bv av tv lvv L work alive lv ts m tl) (n : Nat) : HM w0 C0 (w.drewN n) C h c bm bv av tv lvv L work alive lv ts m tl :=
  ⟨H.mod.drewN n, H.ext, H.blk, H.ch, H.cb, H.car.keep (w' := w.drewN n) (fun _ _ _ _ _ _ _ => rfl), H.ra, H.ca, H.rl, H.cl, H.rt, H.ct, H.rm, fun i q hq => by
    obtain ⟨h1, h2⟩ := H.tr i q hq
    exact ⟨h1, h2.keep fun _ _ _ => rfl⟩⟩

theorem own1 {E : TypeId} {K n : Nat} {v : Value} {xs : List Value} (ho : Own w E K v n xs) (hc : OB v fun b => C b = 1) {T : Nat → Prop} (hT : ∀ b, T b → v.ownBlock = some b) :
    (∀ b o, w.heap[b]? = some o → T b → C b = 1 ∧ kind o = some E) ∧ (∀ b, T b → C b ≠ 0) := by
  refine ⟨fun b o hb ht => ?_, fun b ht => by have := hc b (hT b ht); simp only at this; omega⟩
  obtain ⟨cs, hcs⟩ := ho.blk (hT b ht)
  rw [hcs] at hb
  cases hb
  exact ⟨hc b (hT b ht), rfl⟩

/-- a level is stored -/
theorem HM.set_level {g cap N : Nat} (H : HM w0 C0 w C h c bm bv av tv (.slice (some ⟨g, 0, none⟩) N cap) L work alive lv ts m tl) (n i : Nat) :
    HM w0 C0 (w.setCell ⟨g, n, none⟩ (.int .i64 i)) C h c bm bv av tv (.slice (some ⟨g, 0, none⟩) N cap) L work alive (lv.set n i) ts m tl := by
  obtain ⟨_, _, e⟩ := H.rl.slice
  injection e with _ e _
  subst e
  obtain ⟨ht, ht0⟩ := own1 H.rl H.cl (T := fun b => b = g) (fun b e => by subst e; rfl)
  have hm : Mod (fun b => b = g) w (w.setCell ⟨g, n, none⟩ (.int .i64 i)) := (Mod.refl (fun b => b = g) w).setCell (p := ⟨g, n, none⟩) (fun _ => rfl) _
  obtain ⟨h1, h2, h3, h4, h5, h6, h7, h8, h9, h10, h11⟩ := H.step hm 0 (fun o => o = some tInt) (fun b o hb h => .inl (ht b o hb h)) ht0
  have hsz : (w.setCell ⟨g, n, none⟩ (.int .i64 i)).heap.size = w.heap.size := by simp [World.setCell]
  have n1 : ∀ {F : TypeId}, tInt ≠ F → ¬ (some F = some tInt) := fun hne e => hne (Option.some.inj e).symm
  have hrl := (World.ownsRow.stored H.rl n (.int .i64 i)).1
  refine ⟨h1, H.ext, (h5 (n1 (by decide))).trans H.blk, H.ch, H.cb, (h6 (n1 (by decide)) (n1 (by decide)) (n1 (by decide))).foot' fun b hb hc => ?_, (h7 (n1 (by decide))).1, H.ca, ?_, H.cl, (h9 (n1 (by decide))).1, H.ct, h10 (by simp), fun j q hq => ?_⟩
  · rw [hsz] at hb
    exact (tint_old hb).symm.trans hc
  · rw [List.length_set, List.map_set]; exact hrl
  · obtain ⟨a1, a2⟩ := h11 j q hq
    exact ⟨a1, a2.mono fun b hb hc => by rw [hsz] at hb; exact (tint_old hb).symm.trans hc⟩

/-- a thing's life is stored -/
theorem HM.set_alive {g cap N : Nat} (H : HM w0 C0 w C h c bm bv (.slice (some ⟨g, 0, none⟩) N cap) tv lvv L work alive lv ts m tl) (n : Nat) (b0 : Bool) :
    HM w0 C0 (w.setCell ⟨g, n, none⟩ (.bool b0)) C h c bm bv (.slice (some ⟨g, 0, none⟩) N cap) tv lvv L work (alive.set n b0) lv ts m tl := by
  obtain ⟨_, _, e⟩ := H.ra.slice
  injection e with _ e _
  subst e
  obtain ⟨ht, ht0⟩ := own1 H.ra H.ca (T := fun b => b = g) (fun b e => by subst e; rfl)
  have hm : Mod (fun b => b = g) w (w.setCell ⟨g, n, none⟩ (.bool b0)) := (Mod.refl (fun b => b = g) w).setCell (p := ⟨g, n, none⟩) (fun _ => rfl) _
  obtain ⟨h1, h2, h3, h4, h5, h6, h7, h8, h9, h10, h11⟩ := H.step hm 0 (fun o => o = some tBool) (fun b o hb h => .inl (ht b o hb h)) ht0
  have hsz : (w.setCell ⟨g, n, none⟩ (.bool b0)).heap.size = w.heap.size := by simp [World.setCell]
  have n1 : ∀ {F : TypeId}, tBool ≠ F → ¬ (some F = some tBool) := fun hne e => hne (Option.some.inj e).symm
  have hrl := (World.ownsRow.stored H.ra n (.bool b0)).1
  refine ⟨h1, H.ext, (h5 (n1 (by decide))).trans H.blk, H.ch, H.cb, (h6 (n1 (by decide)) (n1 (by decide)) (n1 (by decide))).foot' fun b hb hc => ?_, ?_, H.ca, (h8 (n1 (by decide))).1, H.cl, (h9 (n1 (by decide))).1, H.ct, h10 (by simp), fun j q hq => ?_⟩
  · rw [hsz] at hb
    exact (tint_old hb).symm.trans hc
  · rw [List.length_set, List.map_set]; exact hrl
  · obtain ⟨a1, a2⟩ := h11 j q hq
    exact ⟨a1, a2.mono fun b hb hc => by rw [hsz] at hb; exact (tint_old hb).symm.trans hc⟩

theorem setCell_cells {w : World} {b j : Nat} {cs : Array Value} {E : TypeId} {fr : Nat × Nat} {u : Value} (h : w.heap[b]? = some (.cells cs E fr)) : (w.setCell ⟨b, j, none⟩ u).heap[b]? = some (.cells (cs.setIfInBounds j u) E fr) := by
  simp [World.setCell, Array.getElem?_modify, h]

/-- a field of the half's own block is stored: its slice of trees, of lives, or of levels -/
theorem HM.set_field (H : HM w0 C0 w C h c bm bv av tv lvv L work alive lv ts m tl) (j : Nat) (u : Value) {av' tv' lvv' : Value} {alive' : List Bool} {lv' : List Nat} {ts' : List TV}
    (hcs : (#[BV, DV, .pointer (some ⟨c, 0, none⟩), tv, av, lvv, .map (some bm)] : Array Value).setIfInBounds j u = #[BV, DV, .pointer (some ⟨c, 0, none⟩), tv', av', lvv', .map (some bm)])
    (ha : Own w tBool 1 av' alive'.length (alive'.map Value.bool)) (hca : OB av' (fun b => C b = 1)) (hl : Own w tInt 1 lvv' lv'.length (lv'.map fun n : Nat => Value.int .i64 (n : Int))) (hcl : OB lvv' (fun b => C b = 1))
    (ht : Own w tTr KT tv' ts'.length (flat encT ts')) (hct : OB tv' (fun b => C b = 1)) (htr : ∀ i q, tl i = some q → ∃ h : i < ts'.length, Tr (fun b => C b = i + 2) w ts'[i] q.1 q.2) :
    HM w0 C0 (w.setCell ⟨h, j, none⟩ u) C h c bm bv av' tv' lvv' L work alive' lv' ts' m tl := by
  have hm : Mod (fun b => b = h) w (w.setCell ⟨h, j, none⟩ u) := (Mod.refl (fun b => b = h) w).setCell (p := ⟨h, j, none⟩) (fun _ => rfl) _
  have hch := H.ch
  obtain ⟨h1, h2, h3, h4, h5, h6, h7, h8, h9, h10, h11⟩ := H.step hm 0 (fun o => o = some tH) (fun b o hb e => .inl ⟨by rw [e]; exact hch, by rw [e, H.blk] at hb; cases hb; rfl⟩) (fun b e => by rw [e]; omega)
  have n1 : ∀ {F : TypeId}, tH ≠ F → ¬ (some F = some tH) := fun hne e => hne (Option.some.inj e).symm
  have hk : ∀ {E : TypeId} {K n : Nat} {v : Value} {xs : List Value}, Own w E K v n xs → tH ≠ E → Own (w.setCell ⟨h, j, none⟩ u) E K v n xs := fun ho hne => ho.keep fun g hg => Below.heap_setCell _ _ _ _ (own_ne ho H.blk hne g hg)
  have hsz : (w.setCell ⟨h, j, none⟩ u).heap.size = w.heap.size := by simp [World.setCell]
  refine ⟨h1, H.ext, ?_, H.ch, H.cb, (h6 (n1 (by decide)) (n1 (by decide)) (n1 (by decide))).foot' fun b hb hc => ?_, hk ha (by decide), hca, hk hl (by decide), hcl, hk ht (by decide), hct, h10 (by simp), fun i q hq => ?_⟩
  · rw [setCell_cells H.blk, hcs]
  · rw [hsz] at hb
    exact (tint_old hb).symm.trans hc
  · obtain ⟨a1, a2⟩ := htr i q hq
    refine ⟨a1, a2.keep fun b hb hc => hm.block b hb fun e => ?_⟩
    subst e
    omega

/-- a tree is stored -/
theorem HM.set_tree {g cap : Nat} (H : HM w0 C0 w C h c bm bv av (.slice (some ⟨g, 0, none⟩) ts.length cap) lvv L work alive lv ts m tl) (i : Nat) (hi : i < ts.length) (u : Value) (t : TV) (hu : encT t = [u])
    {tl' : Nat → Option (Nat × List X)} (htl : ∀ j q, tl' j = some q → j ≠ i → tl j = some q) (hti : ∀ q, tl' i = some q → Tr (fun b => C b = i + 2) w t q.1 q.2) :
    HM w0 C0 (w.setCell ⟨g, i, none⟩ u) C h c bm bv av (.slice (some ⟨g, 0, none⟩) ts.length cap) lvv L work alive lv (ts.set i t) m tl' := by
  obtain ⟨ht, ht0⟩ := own1 H.rt H.ct (T := fun b => b = g) (fun b e => by subst e; rfl)
  have hm : Mod (fun b => b = g) w (w.setCell ⟨g, i, none⟩ u) := (Mod.refl (fun b => b = g) w).setCell (p := ⟨g, i, none⟩) (fun _ => rfl) _
  have hgc : C g = 1 := H.ct g rfl
  obtain ⟨h1, h2, h3, h4, h5, h6, h7, h8, h9, h10, h11⟩ := H.step hm 0 (fun o => o = some tTr) (fun b o hb h => .inl (ht b o hb h)) ht0
  have hsz : (w.setCell ⟨g, i, none⟩ u).heap.size = w.heap.size := by simp [World.setCell]
  have n1 : ∀ {F : TypeId}, tTr ≠ F → ¬ (some F = some tTr) := fun hne e => hne (Option.some.inj e).symm
  have hrl := (World.ownsRow.stored H.rt i u).1
  have hfl : (flat encT ts).set i u = flat encT (ts.set i t) := flat_set1 hu ts i
  refine ⟨h1, H.ext, (h5 (n1 (by decide))).trans H.blk, H.ch, H.cb, (h6 (n1 (by decide)) (n1 (by decide)) (n1 (by decide))).foot' fun b hb hc => ?_, (h7 (n1 (by decide))).1, H.ca, (h8 (n1 (by decide))).1, H.cl, ?_, H.ct, h10 (by simp), fun j q hq => ?_⟩
  · rw [hsz] at hb
    exact (tint_old hb).symm.trans hc
  · rw [List.length_set, ← hfl]; exact hrl
  · by_cases hji : j = i
    · subst hji
      refine ⟨by rw [List.length_set]; exact hi, ?_⟩
      rw [List.getElem_set_self]
      exact (hti q hq).keep fun b hb hc => hm.block b hb fun e => by subst e; omega
    · obtain ⟨a1, a2⟩ := H.tr j q (htl j q hq hji)
      refine ⟨by rw [List.length_set]; exact a1, ?_⟩
      rw [List.getElem_set_ne (fun e => hji e.symm)]
      exact a2.keep fun b hb hc => hm.block b hb fun e => by subst e; omega

/-- a tree more -/
theorem HM.push_tree (H : HM w0 C0 w C h c bm bv av tv lvv L work alive lv ts m tl) {w1 : World} {g c' : Nat} {z : TV} (hg : w.grownBy w1 tv.ownBlock) (ho : Own w1 tTr KT (.slice (some ⟨g, 0, none⟩) (ts.length + 1) c') (ts.length + 1) (flat encT ts ++ encT z))
    (hob : tv.ownBlock = some g ∨ w.heap.size ≤ g) : w1.heap[h]? = w.heap[h]? ∧ Mod (fun b => tv.ownBlock = some b ∨ b = h) w (w1.setCell ⟨h, 3, none⟩ (.slice (some ⟨g, 0, none⟩) (ts.length + 1) c')) ∧
      HM w0 C0 (w1.setCell ⟨h, 3, none⟩ (.slice (some ⟨g, 0, none⟩) (ts.length + 1) c')) (tint C w.heap.size 1) h c bm bv av (.slice (some ⟨g, 0, none⟩) (ts.length + 1) c') lvv L work alive lv (ts ++ [z]) m tl := by
  have hh : h < w.heap.size := (Array.getElem?_eq_some_iff.1 H.blk).1
  have hh1 : w1.heap[h]? = w.heap[h]? := hg.block h hh (fun e => own_ne H.rt H.blk (by decide) h e.symm rfl)
  have hm : Mod (fun b => tv.ownBlock = some b ∨ b = h) w (w1.setCell ⟨h, 3, none⟩ (.slice (some ⟨g, 0, none⟩) (ts.length + 1) c')) := ((Mod.refl _ w).grown hg (fun k hk _ => .inl hk)).setCell (p := ⟨h, 3, none⟩) (fun _ => .inr rfl) _
  have hch := H.ch
  obtain ⟨ht, ht0⟩ := own1 H.rt H.ct (T := fun b => tv.ownBlock = some b) (fun b e => e)
  obtain ⟨h1, h2, h3, h4, h5, h6, h7, h8, h9, h10, h11⟩ := H.step hm 1 (fun o => o = some tTr ∨ o = some tH) (fun b o hb e => .inl (e.elim (fun e => ⟨(ht b o hb e).1, .inl (ht b o hb e).2⟩) (fun e => ⟨by rw [e]; exact hch, .inr (by rw [e, H.blk] at hb; cases hb; rfl)⟩))) (fun b e => e.elim (ht0 b) (fun e => by rw [e]; omega))
  have n1 : ∀ {F : TypeId}, tTr ≠ F → tH ≠ F → ¬ (some F = some tTr ∨ some F = some tH) := fun hne hne2 e => e.elim (fun e => hne (Option.some.inj e).symm) (fun e => hne2 (Option.some.inj e).symm)
  refine ⟨hh1, hm, h1, h2, ?_, h3, h4, h6 (n1 (by decide) (by decide)) (n1 (by decide) (by decide)) (n1 (by decide) (by decide)), (h7 (n1 (by decide) (by decide))).1, (h7 (n1 (by decide) (by decide))).2, (h8 (n1 (by decide) (by decide))).1, (h8 (n1 (by decide) (by decide))).2, ?_, ?_, h10 (by simp), fun i q hq => ?_⟩
  · rw [setCell_cells (hh1.trans H.blk)]; simp
  · have ho' : Own w1 tTr KT (.slice (some ⟨g, 0, none⟩) (ts.length + 1) c') (ts ++ [z]).length (flat encT (ts ++ [z])) := by
      rw [List.length_append, List.length_singleton, flat_append]; simpa [flat] using ho
    exact ho'.keep fun g hg => Below.heap_setCell _ _ _ _ (own_ne ho' (hh1.trans H.blk) (by decide) g hg)
  · refine OB.some_iff.2 ?_
    rcases hob with e | e
    · rw [tint_old (H.rt.lt g e)]; exact H.ct g e
    · exact tint_new e
  · obtain ⟨a1, a2⟩ := h11 i q hq
    refine ⟨by rw [List.length_append]; omega, ?_⟩
    rw [List.getElem_append_left a1]
    exact a2
end
end Go.Proofs.Ytecbheeffmhlnaa.HalfI
