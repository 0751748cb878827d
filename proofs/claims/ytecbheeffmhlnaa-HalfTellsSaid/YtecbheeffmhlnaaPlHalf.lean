/- Plain law of half: things in buckets with numbers, whether they are alive, their levels, the map of those that are. -/
import Derived.Test.YtecbheeffmhlnaaPlCarry
namespace Go.Proofs.Ytecbheeffmhlnaa.Pl

/-- is the number's thing alive? -/
abbrev liv (alive : List Bool) (n : Nat) : Bool := alive.getD n false
/-- the cells that are alive -/
def keep {X : Type} (alive : List Bool) (L : List (X × Nat)) : List (X × Nat) := L.filter (fun p => liv alive p.2)
/-- the things that are alive -/
def lvs {X : Type} (alive : List Bool) (L : List (X × Nat)) : List X := (keep alive L).map (·.1)
/-- the entries of the map of those that are alive -/
def ents {X : Type} (alive : List Bool) (L : List (X × Nat)) : List (X × Int) := (keep alive L).map fun p => (p.1, (p.2 : Int))
/-- the levels, when the cells of a bucket have come there -/
def setLv {X : Type} (lv : List Nat) (cells : List (X × Nat)) (i : Nat) : List Nat := cells.foldl (fun lv p => lv.set p.2 i) lv

theorem setLv_length {X : Type} (lv : List Nat) (cells : List (X × Nat)) (i : Nat) : (setLv lv cells i).length = lv.length := by
  unfold setLv
  induction cells generalizing lv with
  | nil => rfl
  | cons p ps ih => rw [List.foldl_cons, ih, List.length_set]
theorem setLv_snoc {X : Type} (lv : List Nat) (cells : List (X × Nat)) (p : X × Nat) (i : Nat) : setLv lv (cells ++ [p]) i = (setLv lv cells i).set p.2 i := by simp [setLv]
theorem setLv_get {X : Type} (cells : List (X × Nat)) (i k : Nat) : ∀ (lv : List Nat), k < lv.length → (setLv lv cells i)[k]? = if k ∈ cells.map (·.2) then some i else lv[k]? := by
  unfold setLv
  induction cells with
  | nil => intro lv _; simp
  | cons p ps ih =>
    intro lv h
    rw [List.foldl_cons, ih _ (by simpa using h), List.getElem?_set]
    simp only [List.map_cons, List.mem_cons]
    by_cases h1 : k ∈ ps.map (·.2)
    · simp [h1]
    · by_cases h2 : p.2 = k
      · subst h2; simp [h, h1]
      · have : k ≠ p.2 := fun e => h2 e.symm
        rw [if_neg h1, if_neg h2, if_neg (by rw [not_or]; exact ⟨this, h1⟩)]

theorem nodup_inj {α β : Type} {f : α → β} {a b : α} : ∀ {l : List α}, (l.map f).Nodup → a ∈ l → b ∈ l → f a = f b → a = b := by
  intro l
  induction l with
  | nil => intro _ h; simp at h
  | cons x l ih =>
    intro hn h1 h2 e
    simp only [List.map_cons, List.nodup_cons] at hn
    rcases List.mem_cons.1 h1 with e1 | e1 <;> rcases List.mem_cons.1 h2 with e2 | e2
    · rw [e1, e2]
    · exact absurd (List.mem_map.2 ⟨_, e2, by rw [← e, e1]⟩) hn.1
    · exact absurd (List.mem_map.2 ⟨_, e1, by rw [e, e2]⟩) hn.1
    · exact ih hn.2 e1 e2 e

/-- the numbers and the map are right -/
structure WF {X : Type} (L : List (X × Nat)) (alive : List Bool) (m : List (X × Int)) : Prop where
  num : ∀ p ∈ L, p.2 < alive.length
  nd : (L.map (·.2)).Nodup
  mp : m.Perm (ents alive L)
  key : (lvs alive L).Nodup

/-- .. and so are the levels -/
def LvOK {X : Type} (L : List (X × Nat)) (alive : List Bool) (lv : List Nat) : Prop := lv.length = alive.length ∧ ∀ i, ∀ p ∈ bk i L, lv[p.2]? = some i

theorem ents_fst {X : Type} (alive : List Bool) (L : List (X × Nat)) : (ents alive L).map (·.1) = lvs alive L := by simp [ents, lvs]
theorem WF.keys {X : Type} {L : List (X × Nat)} {alive : List Bool} {m : List (X × Int)} (h : WF L alive m) : (m.map (·.1)).Perm (lvs alive L) := by
  rw [← ents_fst]; exact h.mp.map _
theorem WF.nodup {X : Type} {L : List (X × Nat)} {alive : List Bool} {m : List (X × Int)} (h : WF L alive m) : (m.map (·.1)).Nodup := h.keys.nodup_iff.2 h.key
theorem WF.mem {X : Type} {L : List (X × Nat)} {alive : List Bool} {m : List (X × Int)} (h : WF L alive m) (x : X) : x ∈ m.map (·.1) ↔ x ∈ lvs alive L := h.keys.mem_iff
theorem WF.len {X : Type} {L : List (X × Nat)} {alive : List Bool} {m : List (X × Int)} (h : WF L alive m) : m.length = (lvs alive L).length := by
  have := h.keys.length_eq; simpa using this

theorem keep_append {X : Type} (alive : List Bool) (L M : List (X × Nat)) : keep alive (L ++ M) = keep alive L ++ keep alive M := by simp [keep]
theorem lvs_append {X : Type} (alive : List Bool) (L M : List (X × Nat)) : lvs alive (L ++ M) = lvs alive L ++ lvs alive M := by simp [lvs, keep_append]

theorem liv_push {alive : List Bool} {n : Nat} (h : n < alive.length) (b : Bool) : liv (alive ++ [b]) n = liv alive n := by
  simp [liv, List.getD_eq_getElem?_getD, List.getElem?_append_left h]
theorem liv_new (alive : List Bool) (b : Bool) : liv (alive ++ [b]) alive.length = b := by simp [liv]
theorem keep_push {X : Type} {alive : List Bool} {L : List (X × Nat)} (h : ∀ p ∈ L, p.2 < alive.length) (b : Bool) : keep (alive ++ [b]) L = keep alive L := by
  unfold keep
  apply List.filter_congr
  intro p hp
  rw [liv_push (h p hp)]

/-- a thing more -/
theorem WF.add {X : Type} {L : List (X × Nat)} {alive : List Bool} {m : List (X × Int)} (h : WF L alive m) {x : X} (hx : x ∉ lvs alive L) : WF (L ++ [(x, alive.length)]) (alive ++ [true]) (m ++ [(x, (alive.length : Int))]) := by
  have hk : keep (alive ++ [true]) (L ++ [(x, alive.length)]) = keep alive L ++ [(x, alive.length)] := by
    rw [keep_append, keep_push h.num]; simp [keep, liv]
  refine ⟨fun p hp => ?_, ?_, ?_, ?_⟩
  · rw [List.length_append, List.length_singleton]
    rcases List.mem_append.1 hp with hp | hp
    · have := h.num p hp; omega
    · simp at hp; subst hp; simp
  · rw [List.map_append, List.nodup_append]
    refine ⟨h.nd, by simp, fun a ha b hb => ?_⟩
    simp at hb
    subst hb
    obtain ⟨p, hp, rfl⟩ := List.mem_map.1 ha
    have := h.num p hp
    omega
  · rw [ents, hk, List.map_append]
    exact h.mp.append_right _
  · rw [lvs, hk, List.map_append, List.nodup_append]
    refine ⟨h.key, by simp, fun a ha b hb => ?_⟩
    simp at hb
    subst hb
    exact fun e => hx (e ▸ ha)

theorem liv_set {alive : List Bool} {k n : Nat} : liv (alive.set k false) n = (liv alive n && decide (n ≠ k)) := by
  simp only [liv, List.getD_eq_getElem?_getD, List.getElem?_set]
  by_cases h : k = n
  · subst h; by_cases h2 : k < alive.length <;> simp [h2]
  · have : n ≠ k := fun e => h e.symm
    simp [h, this]

theorem keep_set {X : Type} (alive : List Bool) (L : List (X × Nat)) (k : Nat) : keep (alive.set k false) L = (keep alive L).filter (fun p => decide (p.2 ≠ k)) := by
  simp only [keep, List.filter_filter, liv_set]
  congr 1
  funext p
  rw [Bool.and_comm]

/-- in a list of nodup things with nodup numbers, taking the number's entry away is taking the thing away -/
theorem lvs_set {X : Type} [DecidableEq X] {alive : List Bool} {L : List (X × Nat)} (hk : (lvs alive L).Nodup) {x : X} {k : Nat} (hx : (x, k) ∈ keep alive L) (hn : ((keep alive L).map (·.2)).Nodup) : lvs (alive.set k false) L = (lvs alive L).erase x := by
  unfold lvs
  rw [keep_set]
  unfold lvs at hk
  generalize keep alive L = K at *
  induction K with
  | nil => simp at hx
  | cons p ps ih =>
    simp only [List.map_cons, List.nodup_cons] at hk hn
    rcases List.mem_cons.1 hx with e | h
    · subst e
      have : ps.filter (fun p => decide (p.2 ≠ k)) = ps := by
        rw [List.filter_eq_self]
        intro q hq
        have : q.2 ≠ k := fun e => hn.1 (e ▸ List.mem_map.2 ⟨q, hq, rfl⟩)
        simp [this]
      rw [List.filter_cons_of_neg (by simp), this]
      simp
    · have h1 : p.2 ≠ k := fun e => hn.1 (e ▸ List.mem_map.2 ⟨_, h, rfl⟩)
      have h2 : p.1 ≠ x := fun e => hk.1 (e ▸ List.mem_map.2 ⟨_, h, rfl⟩)
      have h3 : (p.1 == x) = false := by simp [h2]
      simp only [List.map_cons, List.erase_cons, h3, Bool.false_eq_true, if_false]
      rw [List.filter_cons_of_pos (by simp [h1]), List.map_cons, ih hk.2 h hn.2]

/-- .. and where the number is none of theirs, nothing goes -/
theorem lvs_set_none {X : Type} {alive : List Bool} {L : List (X × Nat)} {k : Nat} (hn : k ∉ L.map (·.2)) : lvs (alive.set k false) L = lvs alive L := by
  unfold lvs
  rw [keep_set]
  congr 1
  rw [List.filter_eq_self]
  intro p hp
  have : p.2 ≠ k := fun e => hn (e ▸ List.mem_map.2 ⟨p, (List.mem_filter.1 hp).1, rfl⟩)
  simp [this]

theorem keep_nd {X : Type} {alive : List Bool} {L : List (X × Nat)} (h : (L.map (·.2)).Nodup) : ((keep alive L).map (·.2)).Nodup := h.sublist (List.Sublist.map _ List.filter_sublist)

/-- a thing less -/
theorem WF.drop {X : Type} [DecidableEq X] {L : List (X × Nat)} {alive : List Bool} {m : List (X × Int)} (h : WF L alive m) {x : X} {k : Nat} (hx : (x, k) ∈ keep alive L) : WF L (alive.set k false) (m.eraseP (fun p => decide (x = p.1))) := by
  have hkn := keep_nd (alive := alive) h.nd
  refine ⟨fun p hp => by rw [List.length_set]; exact h.num p hp, h.nd, ?_, ?_⟩
  · have h1 : (m.eraseP (fun p => decide (x = p.1))) = m.filter (fun p => decide (x ≠ p.1)) := by
      have hnd := h.nodup
      generalize m = m at hnd
      induction m with
      | nil => rfl
      | cons p ps ih =>
        simp only [List.map_cons, List.nodup_cons] at hnd
        by_cases he : x = p.1
        · rw [List.eraseP_cons_of_pos (by simp [he]), List.filter_cons_of_neg (by simp [he])]
          symm
          rw [List.filter_eq_self]
          intro q hq
          have : x ≠ q.1 := fun e => hnd.1 (by rw [← he, e]; exact List.mem_map.2 ⟨q, hq, rfl⟩)
          simp [this]
        · rw [List.eraseP_cons_of_neg (by simp [he]), List.filter_cons_of_pos (by simp [he]), ih hnd.2]
    rw [h1]
    refine (h.mp.filter _).trans ?_
    have : (ents alive L).filter (fun p => decide (x ≠ p.1)) = ents (alive.set k false) L := by
      unfold ents
      rw [keep_set, List.filter_map]
      congr 1
      apply List.filter_congr
      intro p hp
      simp only [Function.comp]
      have hkey := h.key
      unfold lvs at hkey
      by_cases he : p.2 = k
      · have : p = (x, k) := nodup_inj hkn hp hx he
        subst this
        simp
      · have : x ≠ p.1 := fun e => he (by rw [nodup_inj hkey hp hx e.symm])
        simp [this, he]
    rw [this]
  · rw [lvs_set h.key hx hkn]
    exact h.key.erase x

/-- those that are alive, set anew -/
theorem WF.anew {X : Type} {L : List (X × Nat)} {alive : List Bool} {m : List (X × Int)} (h : WF L alive m) : WF (keep alive L) alive m := by
  have hk : keep alive (keep alive L) = keep alive L := by simp [keep, List.filter_filter]
  refine ⟨fun p hp => h.num p (List.mem_filter.1 hp).1, keep_nd h.nd, ?_, ?_⟩
  · rw [ents, hk]; exact h.mp
  · rw [lvs, hk]; exact h.key

end Go.Proofs.Ytecbheeffmhlnaa.Pl
