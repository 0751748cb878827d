/- half: what the steps of an addition do to its blocks. -/
import Derived.Test.YtecbheeffmhlnaaHalfIFill
namespace Go.Proofs.Ytecbheeffmhlnaa.HalfI
open Go.RowKit Go.Proofs.Ytecbheeffmhlnaa Go.Proofs.Ytecbheeffmhlnaa.Pl Go.Proofs.Ytecbheeffmhlnaa.TrI

section
variable {w0 w : World} {C0 C : Nat → Nat} {h c bm : Nat} {bv av tv lvv : Value} {L : List (X × Nat)} {work : Nat} {alive : List Bool} {lv : List Nat} {ts : List TV} {m : List (X × Int)} {tl : Nat → Option (Nat × List X)}

/-- the map turns -/
theorem HM.set_map (H : HM w0 C0 w C h c bm bv av tv lvv L work alive lv ts m tl) {w1 : World} {m' : List (X × Int)} (hm : Mod (· = bm) w w1) (hM : MapAt ek w1 bm m') : HM w0 C0 w1 (tint C w.heap.size 1) h c bm bv av tv lvv L work alive lv ts m' tl := by
  have hcb := H.cb
  have hk : ∀ o, w.heap[bm]? = some o → kind o = none := fun o ho => by
    obtain ⟨es, clock, h1, _⟩ := H.rm
    rw [h1] at ho; cases ho; rfl
  obtain ⟨h1, h2, h3, h4, h5, h6, h7, h8, h9, h10, h11⟩ := H.step (T := (· = bm)) hm 1 (fun o => o = none) (fun b o hb e => .inl ⟨by rw [e]; exact hcb, hk o (by rw [← e]; exact hb)⟩) (fun b e => by rw [e]; omega)
  exact ⟨h1, h2, (h5 (by simp)).trans H.blk, h3, h4, h6 (by simp) (by simp) (by simp), (h7 (by simp)).1, (h7 (by simp)).2, (h8 (by simp)).1, (h8 (by simp)).2, (h9 (by simp)).1, (h9 (by simp)).2, hM, h11⟩

/-- the carry turns -/
theorem HM.set_carry (H : HM w0 C0 w C h c bm bv av tv lvv L work alive lv ts m tl) {w1 : World} {bv' : Value} {L' : List (X × Nat)} {work' : Nat} {T F' : Nat → Prop} (hm : Mod T w w1) (hT : ∀ b, T b → b = c ∨ bv.ownBlock = some b) (hat : CarryI.At F' w1 c bv' L' work')
    (hcl : ∀ b, b < w.heap.size → F' b → C b = 1) : HM w0 C0 w1 (tint C w.heap.size 1) h c bm bv' av tv lvv L' work' alive lv ts m tl := by
  obtain ⟨_, hcb, vs, hvo, _, hc1, hb1, _⟩ := H.car
  have hb1' : ∀ b, bv.ownBlock = some b → C b = 1 := fun b hb => hb1 b hb
  obtain ⟨ht, ht0⟩ := own1 hvo hb1 (T := fun b => bv.ownBlock = some b) (fun b e => e)
  obtain ⟨h1, h2, h3, h4, h5, h6, h7, h8, h9, h10, h11⟩ := H.step hm 1 (fun o => o = some CarryI.tC ∨ o = some CarryI.tS) (fun b o hb e => .inl (by
    rcases hT b e with e | e
    · subst e; rw [hcb] at hb; cases hb; exact ⟨hc1, .inl rfl⟩
    · exact ⟨(ht b o hb e).1, .inr (ht b o hb e).2⟩)) (fun b e => by
    rcases hT b e with e | e
    · subst e; omega
    · exact ht0 b e)
  have n1 : ∀ {G : TypeId}, CarryI.tC ≠ G → CarryI.tS ≠ G → ¬ (some G = some CarryI.tC ∨ some G = some CarryI.tS) := fun hne hne2 e => e.elim (fun e => hne (Option.some.inj e).symm) (fun e => hne2 (Option.some.inj e).symm)
  refine ⟨h1, h2, (h5 (n1 (by decide) (by decide))).trans H.blk, h3, h4, hat.foot fun b hb => ?_, (h7 (n1 (by decide) (by decide))).1, (h7 (n1 (by decide) (by decide))).2, (h8 (n1 (by decide) (by decide))).1, (h8 (n1 (by decide) (by decide))).2, (h9 (n1 (by decide) (by decide))).1, (h9 (n1 (by decide) (by decide))).2, h10 (by simp), h11⟩
  by_cases hlt : b < w.heap.size
  · exact (tint_old hlt).trans (hcl b hlt hb)
  · exact tint_new (Nat.le_of_not_lt hlt)

/-- one life and one level more -/
theorem HM.push_al (H : HM w0 C0 w C h c bm bv av tv lvv L work alive lv ts m tl) {w2 : World} {av' lvv' : Value} {i : Nat} (hm : Mod (fun b => av.ownBlock = some b ∨ lvv.ownBlock = some b) w w2)
    (ha : Own w2 tBool 1 av' (alive.length + 1) (alive.map Value.bool ++ [.bool true])) (hoa : OB av' (fun g => av.ownBlock = some g ∨ w.heap.size ≤ g))
    (hl : Own w2 tInt 1 lvv' (lv.length + 1) ((lv.map fun n : Nat => Value.int .i64 (n : Int)) ++ [.int .i64 i])) (hol : OB lvv' (fun g => lvv.ownBlock = some g ∨ w.heap.size ≤ g)) :
    w2.heap[h]? = w.heap[h]? ∧ HM w0 C0 ((w2.setCell ⟨h, 4, none⟩ av').setCell ⟨h, 5, none⟩ lvv') (tint C w.heap.size 1) h c bm bv av' tv lvv' L work (alive ++ [true]) (lv ++ [i]) ts m tl := by
  have hh : h < w.heap.size := (Array.getElem?_eq_some_iff.1 H.blk).1
  have hh1 : w2.heap[h]? = w.heap[h]? := hm.block h hh (fun e => e.elim (fun e => own_ne H.ra H.blk (by decide) h e rfl) (fun e => own_ne H.rl H.blk (by decide) h e rfl))
  have hm2 : Mod (fun b => (av.ownBlock = some b ∨ lvv.ownBlock = some b) ∨ b = h) w ((w2.setCell ⟨h, 4, none⟩ av').setCell ⟨h, 5, none⟩ lvv') := ((hm.mono fun _ _ e => .inl e).setCell (p := ⟨h, 4, none⟩) (fun _ => .inr rfl) _).setCell (p := ⟨h, 5, none⟩) (fun _ => .inr rfl) _
  have hch := H.ch
  obtain ⟨ht, ht0⟩ := own1 H.ra H.ca (T := fun b => av.ownBlock = some b) (fun b e => e)
  obtain ⟨hu, hu0⟩ := own1 H.rl H.cl (T := fun b => lvv.ownBlock = some b) (fun b e => e)
  obtain ⟨h1, h2, h3, h4, h5, h6, h7, h8, h9, h10, h11⟩ := H.step hm2 1 (fun o => o = some tBool ∨ o = some tInt ∨ o = some tH) (fun b o hb e => .inl (by
    rcases e with (e | e) | e
    · exact ⟨(ht b o hb e).1, .inl (ht b o hb e).2⟩
    · exact ⟨(hu b o hb e).1, .inr (.inl (hu b o hb e).2)⟩
    · subst e; rw [H.blk] at hb; cases hb; exact ⟨hch, .inr (.inr rfl)⟩)) (fun b e => by
    rcases e with (e | e) | e
    · exact ht0 b e
    · exact hu0 b e
    · subst e; omega)
  have n1 : ∀ {G : TypeId}, tBool ≠ G → tInt ≠ G → tH ≠ G → ¬ (some G = some tBool ∨ some G = some tInt ∨ some G = some tH) := fun a1 a2 a3 e => by
    rcases e with e | e | e
    · exact a1 (Option.some.inj e).symm
    · exact a2 (Option.some.inj e).symm
    · exact a3 (Option.some.inj e).symm
  have hown : ∀ {E K n : Nat} {v : Value} {xs : List Value}, Own w2 E K v n xs → tH ≠ E → Own ((w2.setCell ⟨h, 4, none⟩ av').setCell ⟨h, 5, none⟩ lvv') E K v n xs := fun ho hne => ho.keep fun g hg => by
    have := own_ne ho (hh1.trans H.blk) hne g hg
    rw [Below.heap_setCell _ _ _ _ this, Below.heap_setCell _ _ _ _ this]
  have hcol : ∀ {v v' : Value}, OB v' (fun g => v.ownBlock = some g ∨ w.heap.size ≤ g) → OB v (fun g => C g = 1) → OB v (· < w.heap.size) → OB v' (fun b => tint C w.heap.size 1 b = 1) := fun hv hc hlt g hg => by
    rcases hv g hg with e | e
    · exact (tint_old (hlt g e)).trans (hc g e)
    · exact tint_new e
  refine ⟨hh1, h1, h2, ?_, h3, h4, h6 (n1 (by decide) (by decide) (by decide)) (n1 (by decide) (by decide) (by decide)) (n1 (by decide) (by decide) (by decide)), ?_, hcol hoa H.ca H.ra.lt, ?_, hcol hol H.cl H.rl.lt, (h9 (n1 (by decide) (by decide) (by decide))).1, (h9 (n1 (by decide) (by decide) (by decide))).2, h10 (by simp), h11⟩
  · rw [setCell_cells (setCell_cells (hh1.trans H.blk))]; simp
  · rw [List.length_append, List.length_singleton, List.map_append]; exact hown ha (by decide)
  · rw [List.length_append, List.length_singleton, List.map_append]; exact hown hl (by decide)
end
end Go.Proofs.Ytecbheeffmhlnaa.HalfI
