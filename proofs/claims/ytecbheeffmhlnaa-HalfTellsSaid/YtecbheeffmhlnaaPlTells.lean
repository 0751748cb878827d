/- Plain law: what a half has is what the document's half has. -/
import Derived.Test.YtecbheeffmhlnaaLaw22T
import Derived.Test.YtecbheeffmhlnaaRef22T
import Derived.Test.YtecbheeffmhlnaaRef22D
namespace Go.Proofs.Ytecbheeffmhlnaa.Tells
open Go.RowKit Go.Proofs.Ytecbheeffmhlnaa Go.Proofs.Ytecbheeffmhlnaa.Pl Go.Proofs.Ytecbheeffmhlnaa.HalfI Go.Proofs.Ytecbheeffmhlnaa.Ref22

/-- the document's half: things, and whether they are alive -/
def toP (L : List (Int × Nat)) (alive : List Bool) : List (Int × Bool) := L.map fun p => (p.1, liv alive p.2)

theorem toP_length (L : List (Int × Nat)) (alive : List Bool) : (toP L alive).length = L.length := List.length_map _
theorem mAll_toP (L : List (Int × Nat)) (alive : List Bool) : mAll (toP L alive) = lvs alive L := by
  unfold mAll toP lvs keep
  rw [List.filter_map, List.map_map]
  rfl
theorem mem_toP {L : List (Int × Nat)} {alive : List Bool} {x : Int} : (x, true) ∈ toP L alive ↔ x ∈ lvs alive L := by
  unfold toP lvs keep
  simp only [List.mem_map, List.mem_filter, Prod.mk.injEq]
  constructor
  · rintro ⟨p, hp, h1, h2⟩; exact ⟨p, ⟨hp, h2⟩, h1⟩
  · rintro ⟨p, ⟨hp, h2⟩, h1⟩; exact ⟨p, hp, h1, h2⟩
theorem toP_add {L : List (Int × Nat)} {alive : List Bool} {m : List (Int × Int)} (W : WF L alive m) (x : Int) : toP (L ++ [(x, alive.length)]) (alive ++ [true]) = toP L alive ++ [(x, true)] := by
  unfold toP
  rw [List.map_append]
  congr 1
  · apply List.map_congr_left
    intro p hp
    rw [liv_push (W.num p hp)]
  · simp [liv]

theorem toP_drop {L : List (Int × Nat)} {alive : List Bool} {m : List (Int × Int)} (W : WF L alive m) {x : Int} {k i : Nat} (hk : (x, k) ∈ keep alive L) (hi : (toP L alive)[i]? = some (x, true)) : (toP L alive).set i (x, false) = toP L (alive.set k false) := by
  have hiL : i < L.length := by
    rw [← toP_length L alive]
    exact (List.getElem?_eq_some_iff.1 hi).1
  have hLi : L[i] = (x, k) := by
    have h1 : (toP L alive)[i]? = some (L[i].1, liv alive L[i].2) := by simp [toP, hiL]
    rw [h1] at hi
    injection hi with hi
    injection hi with h2 h3
    have h4 : L[i] ∈ keep alive L := List.mem_filter.2 ⟨List.getElem_mem hiL, h3⟩
    exact nodup_inj (f := fun p : Int × Nat => p.1) W.key h4 hk h2
  have hka : k < alive.length := W.num (x, k) (List.mem_filter.1 hk).1
  apply List.ext_getElem
  · rw [List.length_set, toP_length, toP_length]
  · intro j h1 h2
    have hjL : j < L.length := by rw [toP_length] at h2; exact h2
    by_cases hij : i = j
    · subst hij
      rw [List.getElem_set_self]
      simp only [toP, List.getElem_map, hLi]
      rw [liv_set]
      simp
    · rw [List.getElem_set_ne hij]
      have hne : L[j].2 ≠ k := fun e => hij (by
        have hnd := W.nd
        have h5 : (L.map (·.2))[i]'(by simpa using hiL) = (L.map (·.2))[j]'(by simpa using hjL) := by simp [hLi, e]
        exact (List.getElem_inj hnd).1 h5)
      simp only [toP, List.getElem_map]
      rw [liv_set, decide_eq_true hne, Bool.and_true]

theorem dropped_toP {L : List (Int × Nat)} {alive : List Bool} {m : List (Int × Int)} (W : WF L alive m) {x : Int} {k i : Nat} (hk : (x, k) ∈ keep alive L) (hi : (toP L alive)[i]? = some (x, true)) {wk wk' : Int} {Q : List (Int × Bool)} {n : Nat} (hd : Dropped (toP L alive) i x wk Q n wk') :
    Q = toP (dropL L (alive.set k false)) (alive.set k false) ∧ n = dropN L (alive.set k false) ∧ wk' = wk + n := by
  obtain ⟨h1, h2⟩ := hd
  rw [toP_drop W hk hi, mAll_toP, toP_length] at h1 h2
  by_cases hb : 2 * (lvs (alive.set k false) L).length < L.length
  · obtain ⟨rfl, rfl, rfl⟩ := h2 hb
    refine ⟨?_, ?_, rfl⟩
    · unfold dropL
      rw [if_pos hb]
      unfold toP lvs
      rw [List.map_map]
      apply List.map_congr_left
      intro p hp
      have := (List.mem_filter.1 hp).2
      simp only [Function.comp, this]
    · unfold dropN; rw [if_pos hb]
  · obtain ⟨rfl, rfl, rfl⟩ := h1 (by omega)
    refine ⟨?_, ?_, by simp⟩
    · unfold dropL; rw [if_neg hb]
    · unfold dropN; rw [if_neg hb]

theorem cat_map {α β : Type} (f : α → β) (g : Nat → List α) : ∀ d i, (cat g i d).map f = cat (fun k => (g k).map f) i d := by
  intro d
  induction d with
  | zero => intro i; rfl
  | succ d ih => intro i; rw [cat, List.map_append, ih, cat]
theorem cat_congr {α : Type} {g g' : Nat → List α} (h : ∀ k, g k = g' k) : ∀ d i, cat g i d = cat g' i d := by
  intro d
  induction d with
  | zero => intro i; rfl
  | succ d ih => intro i; rw [cat, ih, h, cat]
theorem mTrees_toP (L : List (Int × Nat)) (alive : List Bool) (ts : List TrI.TV) : mTrees (toP L alive) = (prs L alive ts).map fun p => srt p.2.2 := by
  unfold mTrees prs
  rw [toP_length, cat_map]
  apply cat_congr
  intro i
  have hb : bk i (toP L alive) = toP (bk i L) alive := by unfold toP; rw [bk_map]
  unfold mTr1 pr1
  rw [hb]
  by_cases h : bk i L = []
  · rw [if_pos (by rw [h]; rfl), if_pos h]; rfl
  · rw [if_neg (fun e => h (by unfold toP at e; exact List.map_eq_nil_iff.1 e)), if_neg h, mAll_toP]; rfl

end Go.Proofs.Ytecbheeffmhlnaa.Tells
