/- half at one key type and one kind of trees: what its block, its slices, its map and its trees are; the plain methods. -/
import Derived.Test.YtecbheeffmhlnaaCarryISet
import Derived.Test.YtecbheeffmhlnaaTrI
import Derived.Test.YtecbheeffmhlnaaMaps
import Derived.Test.YtecbheeffmhlnaaPlHalf
namespace Go.Proofs.Ytecbheeffmhlnaa.HalfI
open Go.RowKit Go.Proofs.Ytecbheeffmhlnaa Go.Proofs.Ytecbheeffmhlnaa.Pl Go.Proofs.Ytecbheeffmhlnaa.TrI

abbrev tH : Nat := 54
abbrev tTr : Nat := 25
abbrev tTrs : Nat := 51
abbrev tInt : Nat := 3
abbrev tInts : Nat := 52
abbrev tBool : Nat := 4
abbrev tBools : Nat := 29
abbrev tM : Nat := 50
abbrev tK : Nat := 2
theorem flatT_one (l : List TV) : ∀ u ∈ flat encT l, u.oneCell' = true := by
  intro u hu; simp only [flat, List.mem_flatMap] at hu; obtain ⟨x, _, h⟩ := hu; exact encT_one x u h
theorem etyN : ETy tInts tInt 1 := .mk' (by_ := 8) (z := .int .i64 0) (by kernel_rfl) (by kernel_rfl) rfl (by decide) (by decide)
theorem etyBo : ETy tBools tBool 1 := .mk' (by_ := 1) (z := .bool false) (by kernel_rfl) (by kernel_rfl) rfl (by decide) (by decide)
theorem undM : Try.prog.underlying tM = some (.map tK tInt) := by kernel_rfl
theorem zeroN (w : World) : (zeroValue tInt).run Try.prog w = .ok (.int .i64 0) w := by
  obtain ⟨i, z, hi, hz, _⟩ := etyN.info
  have : z = .int .i64 0 := by
    have h : (Try.prog.info? tInt).map (·.zero) = some (some (.int .i64 0)) := by kernel_rfl
    rw [hi] at h
    simp only [Option.map_some, Option.some.injEq] at h
    rw [hz] at h
    exact Option.some.inj h
  subst this
  simp [zeroValue, typeInfo, hi, hz]


/-- the half in block h, in the midst of a call that began at w0: C colours the blocks (1: its own, i + 2: those of tree i); tl says which trees there are. -/
structure HM (w0 : World) (C0 : Nat → Nat) (w : World) (C : Nat → Nat) (h c bm : Nat) (bv av tv lvv : Value) (L : List (X × Nat)) (work : Nat) (alive : List Bool) (lv : List Nat) (ts : List TV) (m : List (X × Int)) (tl : Nat → Option (Nat × List X)) : Prop where
  mod : Mod (fun b => C0 b ≠ 0) w0 w
  ext : ∀ b, b < w0.heap.size → C b = C0 b
  blk : w.heap[h]? = some (.cells #[BV, DV, .pointer (some ⟨c, 0, none⟩), tv, av, lvv, .map (some bm)] tH (0, 0))
  ch : C h = 1
  cb : C bm = 1
  car : CarryI.At (fun b => C b = 1) w c bv L work
  ra : Own w tBool 1 av alive.length (alive.map Value.bool)
  ca : OB av (fun b => C b = 1)
  rl : Own w tInt 1 lvv lv.length (lv.map fun n : Nat => Value.int .i64 (n : Int))
  cl : OB lvv (fun b => C b = 1)
  rt : Own w tTr KT tv ts.length (flat encT ts)
  ct : OB tv (fun b => C b = 1)
  rm : MapAt ek w bm m
  tr : ∀ i q, tl i = some q → ∃ h : i < ts.length, Tr (fun b => C b = i + 2) w ts[i] q.1 q.2

section
variable {w0 w : World} {C0 C : Nat → Nat} {h c bm : Nat} {bv av tv lvv : Value} {L : List (X × Nat)} {work : Nat} {alive : List Bool} {lv : List Nat} {ts : List TV} {m : List (X × Int)} {tl : Nat → Option (Nat × List X)}

theorem HM.cs (H : HM w0 C0 w C h c bm bv av tv lvv L work alive lv ts m tl) :
    w.cell? ⟨h, 0, none⟩ = some BV ∧ w.cell? ⟨h, 1, none⟩ = some DV ∧ w.cell? ⟨h, 2, none⟩ = some (.pointer (some ⟨c, 0, none⟩)) ∧ w.cell? ⟨h, 3, none⟩ = some tv ∧ w.cell? ⟨h, 4, none⟩ = some av ∧ w.cell? ⟨h, 5, none⟩ = some lvv ∧ w.cell? ⟨h, 6, none⟩ = some (.map (some bm)) ∧ ∀ j, w.frozen? ⟨h, j, none⟩ = false := by
  simp [World.cell?, World.frozen?, H.blk]

/-- what kind of block: a map, or cells of a type -/
def kind : Obj → Option TypeId
  | .cells _ E _ => some E
  | _ => none

/-- what stays when own blocks of other kinds turn, and new ones of colour k come -/
theorem HM.step (H : HM w0 C0 w C h c bm bv av tv lvv L work alive lv ts m tl) {T : Nat → Prop} {w' : World} (hm : Mod T w w') (k : Nat) (Q : Option TypeId → Prop)
    (hT : ∀ b o, w.heap[b]? = some o → T b → (C b = 1 ∧ Q (kind o)) ∨ ∃ i, C b = i + 2 ∧ tl i = none) (hT0 : ∀ b, T b → C b ≠ 0) :
    Mod (fun b => C0 b ≠ 0) w0 w' ∧ (∀ b, b < w0.heap.size → tint C w.heap.size k b = C0 b) ∧ tint C w.heap.size k h = 1 ∧ tint C w.heap.size k bm = 1 ∧
    (¬ Q (some tH) → w'.heap[h]? = w.heap[h]?) ∧
    (¬ Q (some CarryI.tC) → ¬ Q (some CarryI.tS) → ¬ Q (some CarryI.tE) → CarryI.At (fun b => tint C w.heap.size k b = 1) w' c bv L work) ∧
    (¬ Q (some tBool) → Own w' tBool 1 av alive.length (alive.map Value.bool) ∧ OB av (fun b => tint C w.heap.size k b = 1)) ∧
    (¬ Q (some tInt) → Own w' tInt 1 lvv lv.length (lv.map fun n : Nat => Value.int .i64 (n : Int)) ∧ OB lvv (fun b => tint C w.heap.size k b = 1)) ∧
    (¬ Q (some tTr) → Own w' tTr KT tv ts.length (flat encT ts) ∧ OB tv (fun b => tint C w.heap.size k b = 1)) ∧
    (¬ Q none → MapAt ek w' bm m) ∧
    (∀ i q, tl i = some q → ∃ h : i < ts.length, Tr (fun b => tint C w.heap.size k b = i + 2) w' ts[i] q.1 q.2) := by
  have hh : h < w.heap.size := (Array.getElem?_eq_some_iff.1 H.blk).1
  have hown : ∀ {E K n : Nat} {v : Value} {xs : List Value}, Own w E K v n xs → OB v (fun b => C b = 1) → ¬ Q (some E) → Own w' E K v n xs ∧ OB v (fun b => tint C w.heap.size k b = 1) := by
    intro E K n v xs ho hc hq
    refine ⟨ho.mod hm fun g hg ht => ?_, fun g hg => (tint_old (ho.lt g hg)).trans (hc g hg)⟩
    obtain ⟨cs, hcs⟩ := ho.blk hg
    rcases hT g _ hcs ht with ⟨_, h2⟩ | ⟨i, h2, _⟩
    · exact hq h2
    · have := hc g hg; simp only at this; omega
  refine ⟨H.mod.then hm fun i hi ht => by rw [← H.ext i hi]; exact hT0 i ht, fun b hb => by rw [tint_old (Nat.lt_of_lt_of_le hb H.mod.size)]; exact H.ext b hb, by rw [tint_old hh]; exact H.ch, by rw [tint_old H.rm.lt]; exact H.cb, ?_, ?_, hown H.ra H.ca, hown H.rl H.cl, hown H.rt H.ct, ?_, ?_⟩
  · intro hq
    refine hm.block h hh fun ht => ?_
    rcases hT h _ H.blk ht with ⟨_, h2⟩ | ⟨i, h2, _⟩
    · exact hq h2
    · have := H.ch; omega
  · intro q1 q2 q3
    have h1 : CarryI.At (fun b => tint C w.heap.size k b = 1) w c bv L work := H.car.foot' fun b hb hc => (tint_old hb).trans hc
    exact h1.keep fun b cs E fr hb hc hE => by
      have hlt := (Array.getElem?_eq_some_iff.1 hc).1
      have hb1 := (tint_old hlt).symm.trans hb
      refine hm.block b hlt fun ht => ?_
      rcases hT b _ hc ht with ⟨_, h2⟩ | ⟨i, h2, _⟩
      · rcases hE with rfl | rfl | rfl
        · exact q1 h2
        · exact q2 h2
        · exact q3 h2
      · omega
  · intro hq
    obtain ⟨es, clock, h1, h2⟩ := H.rm
    refine MapAt.keep ⟨es, clock, h1, h2⟩ (hm.block bm (Array.getElem?_eq_some_iff.1 h1).1 fun ht => ?_)
    rcases hT bm _ h1 ht with ⟨_, h3⟩ | ⟨i, h3, _⟩
    · exact hq h3
    · have := H.cb; omega
  · intro i q hq
    obtain ⟨hi, ht⟩ := H.tr i q hq
    refine ⟨hi, (ht.mono fun b hb hc => (tint_old hb).trans hc).keep fun b hb hc => hm.block b hb fun hT' => ?_⟩
    have hc' := (tint_old hb).symm.trans hc
    rcases hT b _ (Array.getElem?_eq_getElem hb) hT' with ⟨h1, _⟩ | ⟨j, h1, h2⟩
    · omega
    · have : i = j := by omega
      subst this
      rw [h2] at hq
      cases hq

theorem HM.fewer (H : HM w0 C0 w C h c bm bv av tv lvv L work alive lv ts m tl) {tl' : Nat → Option (Nat × List X)} (ht : ∀ i q, tl' i = some q → tl i = some q) : HM w0 C0 w C h c bm bv av tv lvv L work alive lv ts m tl' :=
  ⟨H.mod, H.ext, H.blk, H.ch, H.cb, H.car, H.ra, H.ca, H.rl, H.cl, H.rt, H.ct, H.rm, fun i q hq => H.tr i q (ht i q hq)⟩

/-- new blocks come -/
theorem HM.below (H : HM w0 C0 w C h c bm bv av tv lvv L work alive lv ts m tl) {w' : World} (hb : Below w.heap.size w w') (k : Nat) : HM w0 C0 w' (tint C w.heap.size k) h c bm bv av tv lvv L work alive lv ts m tl := by
  obtain ⟨h1, h2, h3, h4, h5, h6, h7, h8, h9, h10, h11⟩ := H.step (T := fun _ => False) (Mod.of_below _ hb) k (fun _ => False) (fun _ _ _ h => h.elim) (fun _ h => h.elim)
  exact ⟨h1, h2, (h5 id).trans H.blk, h3, h4, h6 id id id, (h7 id).1, (h7 id).2, (h8 id).1, (h8 id).2, (h9 id).1, (h9 id).2, h10 id, h11⟩
end

theorem none_any {w : World} {h c : Nat} (c2 : w.cell? ⟨h, 2, none⟩ = some (.pointer (some ⟨c, 0, none⟩))) :
    Calls Try.prog 21 #[.pointer (some ⟨h, 0, none⟩)] w fun e w' => e = .returned (.bool false) ∧ w = w' := by
  go_enter Try.func21, Try.ntmps21
  go_wp2
  go_ret
  exact ⟨rfl, rfl⟩

set_option maxRecDepth 100000 in
set_option maxHeartbeats 4000000 in
/-- half.New: an empty one -/
theorem new_any (w : World) : Calls Try.prog 4 #[BV, DV] w fun e w' => ∃ h c bm, e = .returned (.pointer (some ⟨h, 0, none⟩)) ∧ Below w.heap.size w w' ∧
    HM w' (fun b => if w.heap.size ≤ b then 1 else 0) w' (fun b => if w.heap.size ≤ b then 1 else 0) h c bm (.slice none 0 0) (.slice none 0 0) (.slice none 0 0) (.slice none 0 0) [] 0 [] [] [] [] (fun _ => none) := by
  have q1 := eqB
  have q2 := eqD
  have q3 := run_mm tM
  go_enter Try.func4, Try.ntmps4
  go_wp2_with (go_at_call 20; refine (CarryI.new_any w).mono ?_; rintro e w1 ⟨rfl, hb1, hs1, hat⟩)
  go_ret
  have hb2 : Below w1.heap.size w1 ((w1.alloc (Obj.map #[] 0)).alloc (.cells #[BV, DV, .pointer (some ⟨w.heap.size, 0, none⟩), .slice none 0 0, .slice none 0 0, .slice none 0 0, .map (some w1.heap.size)] tH)) :=
    ((Below.refl _ w1).alloc (Nat.le_refl _) _).alloc (by simp) _
  refine ⟨_, w.heap.size, w1.heap.size, rfl, hb1.trans (hb2.mono (Nat.le_of_lt hs1)), Mod.refl _ _, fun _ _ => rfl, ?_, ?_, ?_, ?_, ?_, OB.nil _, ?_, OB.nil _, ?_, OB.nil _, ?_, fun _ _ h => by cases h⟩
  · have := heap_alloc_new (w1.alloc (Obj.map #[] 0)) (.cells #[BV, DV, .pointer (some ⟨w.heap.size, 0, none⟩), .slice none 0 0, .slice none 0 0, .slice none 0 0, .map (some w1.heap.size)] tH)
    simpa using this
  · exact if_pos (by omega)
  · exact if_pos (by omega)
  · exact (hat.foot (fun b hb => if_pos hb)).keep fun b cs E fr _ hc _ => hb2.block b (Array.getElem?_eq_some_iff.1 hc).1
  · exact Own.nil _ _ _
  · exact Own.nil _ _ _
  · exact Own.nil _ _ _
  · exact (MapAt.made ek w1).keep (Below.heap_alloc _ _ _ (by simp))

section
variable {w0 w : World} {C0 C : Nat → Nat} {h c bm : Nat} {bv av tv lvv : Value} {L : List (X × Nat)} {work : Nat} {alive : List Bool} {lv : List Nat} {ts : List TV} {m : List (X × Int)} {tl : Nat → Option (Nat × List X)}

theorem len_any (H : HM w0 C0 w C h c bm bv av tv lvv L work alive lv ts m tl) :
    Calls Try.prog 12 #[.pointer (some ⟨h, 0, none⟩)] w fun e w' => e = .returned (.int .i64 m.length) ∧ w = w' := by
  have hn := none_any H.cs.2.2.1
  have hl := H.rm.len (kt := tK) (e := tInt) (tM := tM) undM tInt
  obtain ⟨_, _, _, _, _, _, c6, _⟩ := H.cs
  clear H
  go_enter Try.func12, Try.ntmps12
  go_wp2_with (go_at_call 21; refine hn.mono ?_; rintro e w' ⟨rfl, rfl⟩)
  go_ret
  exact ⟨rfl, rfl⟩

theorem stored_any (H : HM w0 C0 w C h c bm bv av tv lvv L work alive lv ts m tl) :
    Calls Try.prog 13 #[.pointer (some ⟨h, 0, none⟩)] w fun e w' => e = .returned (.int .i64 L.length) ∧ w = w' := by
  have hn := none_any H.cs.2.2.1
  have hl := CarryI.len_any H.car
  obtain ⟨_, _, c2, _, _, _, _, _⟩ := H.cs
  clear H
  go_enter Try.func13, Try.ntmps13
  go_wp2_with (first | (go_at_call 21; refine hn.mono ?_; rintro e w' ⟨rfl, rfl⟩) | (go_at_call 22; refine hl.mono ?_; rintro e w' ⟨rfl, rfl⟩))
  go_ret
  exact ⟨rfl, rfl⟩

theorem work_any (H : HM w0 C0 w C h c bm bv av tv lvv L work alive lv ts m tl) :
    Calls Try.prog 14 #[.pointer (some ⟨h, 0, none⟩)] w fun e w' => e = .returned (.int .i64 work) ∧ w = w' := by
  have hn := none_any H.cs.2.2.1
  have hl := CarryI.work_any H.car
  obtain ⟨_, _, c2, _, _, _, _, _⟩ := H.cs
  clear H
  go_enter Try.func14, Try.ntmps14
  go_wp2_with (first | (go_at_call 21; refine hn.mono ?_; rintro e w' ⟨rfl, rfl⟩) | (go_at_call 28; refine hl.mono ?_; rintro e w' ⟨rfl, rfl⟩))
  go_ret
  exact ⟨rfl, rfl⟩
end

end Go.Proofs.Ytecbheeffmhlnaa.HalfI
