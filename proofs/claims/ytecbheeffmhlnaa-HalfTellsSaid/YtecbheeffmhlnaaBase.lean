/- Words for the proofs of this seat: slices that read as lists, rows of the call's own, what a call leaves as it was; laws of append over them. -/
import Derived.Test.YtecbheeffmhlnaaProg
import Derived.WalkKit
import Derived.Deep.QuietTactic
import Derived.Deep.AppendSrc
import Derived.BigQuiet
import Derived.WalkSpells
import Derived.Lib.Hide
import Derived.Deep.RegionHeld3
import Derived.Deep.RegionLaw
import Derived.Deep.DeepCutAuto
import Derived.Deep.LoopGhost
import Derived.Deep.CutBlock
import Derived.StillTailTactics
namespace Go.Proofs.Ytecbheeffmhlnaa
open Go.RowKit

/-! ### Values of one cell, lists of cells -/

theorem add_off (b o j : Nat) : (⟨b, o, none⟩ : Addr).add j = ⟨b, o + j, none⟩ := by unfold Addr.add; split <;> simp_all

/-- the list's cells: each element's, one behind the other -/
abbrev flat {α : Type} (enc : α → List Value) (l : List α) : List Value := l.flatMap enc

theorem flat_length {α : Type} {enc : α → List Value} {k : Nat} (hk : ∀ x, (enc x).length = k) (l : List α) : (flat enc l).length = l.length * k := by
  induction l with
  | nil => simp
  | cons x l ih => simp only [flat, List.flatMap_cons, List.length_append, List.length_cons, hk] at ih ⊢; rw [ih, Nat.add_mul, Nat.one_mul, Nat.add_comm]

theorem flat_get {α : Type} {enc : α → List Value} {k : Nat} (hk : ∀ x, (enc x).length = k) : ∀ (l : List α) (i : Nat) (h : i < l.length) (j : Nat), j < k →
    (flat enc l).getD (i * k + j) undef = (enc l[i]).getD j undef := by
  intro l
  induction l with
  | nil => intro i h; simp at h
  | cons x l ih =>
    intro i h j hj
    cases i with
    | zero =>
      simp only [flat, List.flatMap_cons, Nat.zero_mul, Nat.zero_add, List.getElem_cons_zero, List.getD_eq_getElem?_getD]
      rw [List.getElem?_append_left (by rw [hk]; exact hj)]
    | succ i =>
      have := ih i (by simpa using h) j hj
      simp only [flat, List.getD_eq_getElem?_getD] at this
      simp only [flat, List.flatMap_cons, List.getElem_cons_succ, List.getD_eq_getElem?_getD]
      rw [List.getElem?_append_right (by rw [hk, Nat.add_mul]; omega), hk, show (i + 1) * k + j - k = i * k + j by rw [Nat.add_mul]; omega, this]

theorem flat_drop {α : Type} {enc : α → List Value} {k : Nat} (hk : ∀ x, (enc x).length = k) : ∀ (l : List α) (i : Nat), flat enc (l.drop i) = (flat enc l).drop (i * k) := by
  intro l
  induction l with
  | nil => intro i; simp
  | cons x l ih =>
    intro i
    cases i with
    | zero => simp
    | succ i =>
      simp only [flat, List.drop_succ_cons, List.flatMap_cons] at ih ⊢
      rw [ih i, List.drop_append, List.drop_of_length_le (l := enc x) (by rw [hk, Nat.add_mul]; omega), hk, List.nil_append, show (i + 1) * k - k = i * k by rw [Nat.add_mul]; omega]
theorem flat_take {α : Type} {enc : α → List Value} {k : Nat} (hk : ∀ x, (enc x).length = k) : ∀ (l : List α) (i : Nat), flat enc (l.take i) = (flat enc l).take (i * k) := by
  intro l
  induction l with
  | nil => intro i; simp
  | cons x l ih =>
    intro i
    cases i with
    | zero => simp
    | succ i =>
      simp only [flat, List.take_succ_cons, List.flatMap_cons] at ih ⊢
      rw [ih i, List.take_append, List.take_of_length_le (l := enc x) (by rw [hk, Nat.add_mul]; omega), hk, show (i + 1) * k - k = i * k by rw [Nat.add_mul]; omega]

theorem flat_append {α : Type} (enc : α → List Value) (l m : List α) : flat enc (l ++ m) = flat enc l ++ flat enc m := by simp [flat]

/-! ### What a call leaves -/

/-- Only blocks of S may have changed among those that were there. -/
structure Mod (S : Nat → Prop) (w w' : World) : Prop where
  os : w'.os = w.os
  tape : w'.tape = w.tape
  output : w'.output = w.output
  size : w.heap.size ≤ w'.heap.size
  block : ∀ b, b < w.heap.size → ¬ S b → w'.heap[b]? = w.heap[b]?

theorem Mod.refl (S : Nat → Prop) (w : World) : Mod S w w := ⟨rfl, rfl, rfl, Nat.le_refl _, fun _ _ _ => rfl⟩
theorem Mod.trans {S S' T : Nat → Prop} {a b c : World} (h : Mod S a b) (k : Mod S' b c) (h1 : ∀ i, i < a.heap.size → S i → T i) (h2 : ∀ i, i < a.heap.size → S' i → T i) : Mod T a c :=
  ⟨k.os.trans h.os, k.tape.trans h.tape, k.output.trans h.output, Nat.le_trans h.size k.size, fun i hi hn =>
    (k.block i (Nat.lt_of_lt_of_le hi h.size) (fun e => hn (h2 i hi e))).trans (h.block i hi (fun e => hn (h1 i hi e)))⟩
theorem Mod.mono {S T : Nat → Prop} {a b : World} (h : Mod S a b) (h1 : ∀ i, i < a.heap.size → S i → T i) : Mod T a b :=
  ⟨h.os, h.tape, h.output, h.size, fun i hi hn => h.block i hi (fun e => hn (h1 i hi e))⟩
theorem Mod.below {S : Nat → Prop} {B : Nat} {w w' : World} (h : Mod S w w') (hB : B ≤ w.heap.size) (hS : ∀ i, i < B → ¬ S i) : Below B w w' :=
  ⟨h.os, h.tape, h.output, h.size, fun i hi => h.block i (by omega) (hS i hi)⟩
theorem Mod.of_below {w w' : World} (S : Nat → Prop) (h : Below w.heap.size w w') : Mod S w w' := ⟨h.os, h.tape, h.output, h.size, fun i hi _ => h.block i hi⟩
theorem Mod.of_below' {S : Nat → Prop} {B : Nat} {w w' : World} (h : Below B w w') (hS : ∀ i, i < w.heap.size → B ≤ i → S i) : Mod S w w' :=
  ⟨h.os, h.tape, h.output, h.size, fun i hi hn => h.block i (by rcases Nat.lt_or_ge i B with h' | h'; exact h'; exact absurd (hS i hi h') hn)⟩
/-- what was there, then new blocks and old ones of S -/
theorem Mod.alloc {S : Nat → Prop} {a b : World} (h : Mod S a b) (o : Obj) : Mod S a (b.alloc o) :=
  h.trans (S' := S) (Mod.of_below _ ((Below.refl _ b).alloc (Nat.le_refl _) o)) (fun _ _ h => h) (fun _ _ h => h)
theorem Mod.drew {S : Nat → Prop} {a b : World} (h : Mod S a b) : Mod S a b.drew := ⟨h.os, h.tape, h.output, h.size, h.block⟩
theorem Mod.drewN {S : Nat → Prop} {a b : World} (h : Mod S a b) (n : Nat) : Mod S a (b.drewN n) := ⟨h.os, h.tape, h.output, h.size, h.block⟩
theorem Mod.setCell {S : Nat → Prop} {a b : World} (h : Mod S a b) {p : Addr} (hp : p.block < a.heap.size → S p.block) (u : Value) : Mod S a (b.setCell p u) :=
  ⟨h.os, h.tape, h.output, by simpa [World.setCell] using h.size, fun i hi hn => by rw [Below.heap_setCell _ _ _ _ (fun e => hn (by subst e; exact hp hi))]; exact h.block i hi hn⟩
theorem Mod.grown {S : Nat → Prop} {a b c : World} {row : Option Nat} (h : Mod S a b) (hg : b.grownBy c row) (hr : ∀ k, row = some k → k < a.heap.size → S k) : Mod S a c :=
  ⟨hg.os.trans h.os, hg.tape.trans h.tape, hg.output.trans h.output, Nat.le_trans h.size hg.size, fun i hi hn =>
    (hg.block i (Nat.lt_of_lt_of_le hi h.size) (fun e => hn (hr i e.symm hi))).trans (h.block i hi hn)⟩
theorem Mod.then {S S' : Nat → Prop} {a b c : World} (h : Mod S a b) (k : Mod S' b c) (h2 : ∀ i, i < a.heap.size → S' i → S i) : Mod S a c := h.trans k (fun _ _ h => h) h2

theorem drewN_below {B : Nat} {w W : World} (h : Below B w W) (n : Nat) : Below B w (W.drewN n) := ⟨h.os, h.tape, h.output, h.size, h.block⟩
theorem then_below {B : Nat} {w a b : World} (h : Below B w a) (k : Below a.heap.size a b) (hB : B ≤ a.heap.size) : Below B w b := h.trans (k.mono hB)

theorem Mod.of_grown {w w' : World} {row : Option Nat} (hg : w.grownBy w' row) : Mod (fun b => row = some b) w w' := ⟨hg.os, hg.tape, hg.output, hg.size, fun b hb hn => hg.block b hb fun e => hn e.symm⟩

/-! ### Slices that read as lists -/

/-- The value is a slice of n elements of k cells each; xs are its cells; they lie in a block of S. -/
def Rd (S : Nat → Prop) (k : Nat) (w : World) (v : Value) (n : Nat) (xs : List Value) : Prop :=
  xs.length = n * k ∧ (∀ u ∈ xs, u.oneCell' = true) ∧ ∃ A c, v = .slice A n c ∧ n ≤ c ∧ c ≤ 9223372036854775807 ∧
    (0 < n → ∃ b off, A = some ⟨b, off, none⟩ ∧ S b ∧ ∀ j, j < n * k → w.cell? ⟨b, off + j, none⟩ = some (xs.getD j undef))

/-- .. of the elements of a list. -/
def RdL {α : Type} (S : Nat → Prop) (enc : α → List Value) (k : Nat) (w : World) (v : Value) (l : List α) : Prop := Rd S k w v l.length (flat enc l)

theorem Rd.mono {S S' : Nat → Prop} {k n : Nat} {w : World} {v : Value} {xs : List Value} (h : Rd S k w v n xs) (hS : ∀ b, b < w.heap.size → S b → S' b) (hk : 0 < k) : Rd S' k w v n xs := by
  obtain ⟨h1, h2, A, c, hv, hn, hc, h3⟩ := h
  refine ⟨h1, h2, A, c, hv, hn, hc, fun h0 => ?_⟩
  obtain ⟨b, off, hA, hb, hcell⟩ := h3 h0
  exact ⟨b, off, hA, hS b (World.block_lt_of_cell? w _ (hcell 0 (Nat.mul_pos h0 hk))) hb, hcell⟩

theorem Rd.keep {S : Nat → Prop} {k n : Nat} {w w' : World} {v : Value} {xs : List Value} (h : Rd S k w v n xs) (hk : 0 < k) (hS : ∀ b, b < w.heap.size → S b → w'.heap[b]? = w.heap[b]?) : Rd S k w' v n xs := by
  obtain ⟨h1, h2, A, c, hv, hn, hc, h3⟩ := h
  refine ⟨h1, h2, A, c, hv, hn, hc, fun h0 => ?_⟩
  obtain ⟨b, off, hA, hb, hcell⟩ := h3 h0
  refine ⟨b, off, hA, hb, fun j hj => ?_⟩
  rw [World.cell?_of_block (w := w) (a := ⟨b, off + j, none⟩) (hS b (World.block_lt_of_cell? w _ (hcell 0 (Nat.mul_pos h0 hk))) hb)]
  exact hcell j hj

theorem Rd.below {S : Nat → Prop} {k n : Nat} {w w' : World} {v : Value} {xs : List Value} (h : Rd S k w v n xs) (hk : 0 < k) (hb : Below w.heap.size w w') : Rd S k w' v n xs := h.keep hk fun b hb' _ => hb.block b hb'
theorem Rd.below' {B k n : Nat} {w w' : World} {v : Value} {xs : List Value} (h : Rd (· < B) k w v n xs) (hk : 0 < k) (hb : Below B w w') : Rd (· < B) k w' v n xs := h.keep hk fun b _ hb' => hb.block b hb'
theorem Rd.mod {S S' : Nat → Prop} {k n : Nat} {w w' : World} {v : Value} {xs : List Value} (h : Rd S k w v n xs) (hk : 0 < k) (hm : Mod S' w w') (hd : ∀ b, b < w.heap.size → S b → ¬ S' b) : Rd S k w' v n xs :=
  h.keep hk fun b hb hs => hm.block b hb (hd b hb hs)
theorem Rd.old {S : Nat → Prop} {k n : Nat} {w : World} {v : Value} {xs : List Value} (h : Rd S k w v n xs) (hk : 0 < k) : Rd (· < w.heap.size) k w v n xs := h.mono (fun _ h _ => h) hk

theorem Rd.nil (S : Nat → Prop) (k : Nat) (w : World) : Rd S k w (.slice none 0 0) 0 [] := ⟨by simp, by simp, none, 0, rfl, Nat.le_refl _, by omega, fun h => absurd h (by omega)⟩

/-- the cells of element i -/
theorem RdL.cell {α : Type} {S : Nat → Prop} {enc : α → List Value} {k : Nat} {w : World} {l : List α} {b off c n : Nat} (hk : ∀ x, (enc x).length = k) (h : RdL S enc k w (.slice (some ⟨b, off, none⟩) n c) l) (i : Nat) (hi : i < l.length) (j : Nat) (hj : j < k) :
    w.cell? ⟨b, off + (i * k + j), none⟩ = some ((enc l[i]).getD j undef) := by
  obtain ⟨h1, h2, A, c', hv, hn, hc, h3⟩ := h
  injection hv with hv1 hv2 hv3
  obtain ⟨b', off', hA, hb, hcell⟩ := h3 (by omega)
  rw [← hv1] at hA
  injection hA with hA
  injection hA with e1 e2 _
  subst e1; subst e2
  rw [hcell (i * k + j) (by have : (i + 1) * k ≤ l.length * k := Nat.mul_le_mul_right k hi; rw [Nat.add_mul] at this; omega), flat_get hk l i hi j hj]

/-- what the value of a list looks like -/
theorem RdL.form {α : Type} {S : Nat → Prop} {enc : α → List Value} {k : Nat} {w : World} {v : Value} {l : List α} (hk : ∀ x, (enc x).length = k) (h : RdL S enc k w v l) :
    ∃ A c, v = .slice A l.length c ∧ l.length ≤ c ∧ c ≤ 9223372036854775807 ∧ (0 < l.length → ∃ b off, A = some ⟨b, off, none⟩ ∧ S b ∧ ∀ i (h : i < l.length), ∀ j, j < k → w.cell? ⟨b, off + i * k + j, none⟩ = some ((enc l[i]).getD j undef)) := by
  have h' := h
  obtain ⟨h1, h2, A, c, rfl, hn, hc, h3⟩ := h
  refine ⟨A, c, rfl, hn, hc, fun h0 => ?_⟩
  obtain ⟨b, off, rfl, hb, _⟩ := h3 h0
  refine ⟨b, off, rfl, hb, fun i hi j hj => ?_⟩
  rw [Nat.add_assoc]
  exact RdL.cell hk h' i hi j hj
/-- .. of one-cell elements -/
theorem RdL.form1 {α : Type} {S : Nat → Prop} {e : α → Value} {w : World} {v : Value} {l : List α} (h : RdL S (fun x => [e x]) 1 w v l) :
    ∃ A c, v = .slice A l.length c ∧ l.length ≤ c ∧ c ≤ 9223372036854775807 ∧ (0 < l.length → ∃ b off, A = some ⟨b, off, none⟩ ∧ S b ∧ ∀ i (h : i < l.length), w.cell? ⟨b, off + i, none⟩ = some (e l[i])) := by
  obtain ⟨A, c, hv, hn, hc, h3⟩ := RdL.form (enc := fun x => [e x]) (k := 1) (fun _ => rfl) h
  refine ⟨A, c, hv, hn, hc, fun h0 => ?_⟩
  obtain ⟨b, off, hA, hb, hcell⟩ := h3 h0
  refine ⟨b, off, hA, hb, fun i hi => ?_⟩
  have := hcell i hi 0 (by decide)
  simpa using this

/-! ### Rows of the call's own -/

/-- what is said of the block that a slice value lies in -/
def OB (v : Value) (p : Nat → Prop) : Prop := ∀ g, v.ownBlock = some g → p g
theorem OB.nil (p : Nat → Prop) : OB (.slice none 0 0) p := fun g h => by simp [Value.ownBlock] at h
theorem OB.mono {v : Value} {p q : Nat → Prop} (h : OB v p) (hpq : ∀ g, p g → q g) : OB v q := fun g hg => hpq g (h g hg)

theorem ownBlock_some (b o n c : Nat) : (Value.slice (some ⟨b, o, none⟩) n c).ownBlock = some b := rfl
theorem OB.some_iff {b o n c : Nat} {p : Nat → Prop} : OB (.slice (some ⟨b, o, none⟩) n c) p ↔ p b := ⟨fun h => h b rfl, fun h g hg => by cases hg; exact h⟩
/-- behind an append: what is said of the old row's block, and of new ones -/
theorem OB.after {v v' : Value} {N : Nat} {p : Nat → Prop} (h : OB v' fun g => v.ownBlock = some g ∨ N ≤ g) (h1 : OB v p) (h2 : ∀ g, N ≤ g → p g) : OB v' p := fun g hg => (h g hg).elim (h1 g) (h2 g)
theorem OB.row {v : Value} {p : Nat → Prop} (h : OB v p) : ∀ k, v.ownBlock = some k → p k := h

/-- slices over an element type of k cells -/
structure ETy (T E : TypeId) (k : Nat) : Prop where
  und : Try.prog.underlying T = some (.slice E)
  info : ∃ i z, Try.prog.info? E = some i ∧ i.zero = some z ∧ i.size = k ∧ i.bytes ≤ 1000 ∧ z.cells.size = k
  pos : 0 < k

theorem ETy.mk' {T E k by_ : Nat} {z : Value} (h1 : Try.prog.underlying T = some (.slice E)) (h2 : (Try.prog.info? E).map (fun i => (i.zero, i.size, i.bytes)) = some (some z, k, by_)) (h3 : z.cells.size = k) (h4 : by_ ≤ 1000) (h5 : 0 < k) : ETy T E k := by
  obtain ⟨i, hi, a, b, c⟩ := info_parts h2
  exact ⟨h1, ⟨i, z, hi, a, b, by omega, h3⟩, h5⟩

/-- A row of its own: v is nil, or begins at the head of a block of cells, of which the first are xs. -/
abbrev Own (w : World) (E k : Nat) (v : Value) (n : Nat) (xs : List Value) : Prop := w.ownsRow 0 E k v n xs

theorem Own.keep {w w' : World} {E k n : Nat} {v : Value} {xs : List Value} (h : Own w E k v n xs) (hb : ∀ g, v.ownBlock = some g → w'.heap[g]? = w.heap[g]?) : Own w' E k v n xs := by
  refine ⟨h.1, ?_⟩
  rcases h.2 with hn | ⟨g, cap, cur, rfl, hb', hgg, rest⟩
  · exact .inl hn
  · exact .inr ⟨g, cap, cur, rfl, hb', by rw [hb g rfl]; exact hgg, rest⟩
theorem Own.lt {w : World} {E k n : Nat} {v : Value} {xs : List Value} (h : Own w E k v n xs) : OB v (· < w.heap.size) := fun g hg => (World.ownsRow.lt h g hg).2
theorem Own.below {w w' : World} {E k n : Nat} {v : Value} {xs : List Value} (h : Own w E k v n xs) (hb : Below w.heap.size w w') : Own w' E k v n xs := h.keep fun g hg => hb.block g (h.lt g hg)
theorem Own.mod {S : Nat → Prop} {w w' : World} {E k n : Nat} {v : Value} {xs : List Value} (h : Own w E k v n xs) (hm : Mod S w w') (hd : OB v fun g => ¬ S g) : Own w' E k v n xs := h.keep fun g hg => hm.block g (h.lt g hg) (hd g hg)
theorem Own.grown {w w' : World} {E k n : Nat} {v : Value} {xs : List Value} {row : Option Nat} (h : Own w E k v n xs) (hg : w.grownBy w' row) (hd : OB v fun g => some g ≠ row) : Own w' E k v n xs := h.keep fun g hg' => hg.block g (h.lt g hg') (hd g hg')

theorem Own.rd {S : Nat → Prop} {w : World} {E k n : Nat} {v : Value} {xs : List Value} (h : Own w E k v n xs) (h1 : ∀ u ∈ xs, u.oneCell' = true) (hS : OB v S) : Rd S k w v n xs := by
  refine ⟨h.1, h1, ?_⟩
  rcases h.2 with ⟨rfl, rfl⟩ | ⟨g, cap, cur, rfl, _, hgg, hn, hc, hs, ht⟩
  · exact ⟨none, 0, rfl, Nat.le_refl _, by omega, fun h => absurd h (by omega)⟩
  · refine ⟨_, cap, rfl, hn, by simp only [maxLen] at hc; omega, fun _ => ⟨g, 0, rfl, hS g rfl, fun j hj => ?_⟩⟩
    rw [World.ownsRow.cellAt (base := 0) h (0 + j) (by omega), Nat.zero_add, List.getD_eq_getElem?_getD]
    rw [List.getElem?_eq_getElem (by rw [h.1]; exact hj)]; rfl

theorem Own.slice {w : World} {E k n : Nat} {v : Value} {xs : List Value} (h : Own w E k v n xs) : ∃ A c, v = .slice A n c := by
  rcases h.2 with ⟨rfl, rfl⟩ | ⟨g, cap, cur, rfl, _⟩
  · exact ⟨none, 0, rfl⟩
  · exact ⟨_, cap, rfl⟩
theorem Own.head {w : World} {E k n c : Nat} {A : Option Addr} {xs : List Value} (h : Own w E k (.slice A n c) n xs) (h0 : 0 < n) : ∃ g, A = some ⟨g, 0, none⟩ := by
  rcases h.2 with ⟨h1, h2⟩ | ⟨g, cap, cur, h1, _⟩
  · omega
  · injection h1 with e; exact ⟨g, e⟩

theorem Own.nil (w : World) (E k : Nat) : Own w E k (.slice none 0 0) 0 [] := World.ownsRow_nil w 0 E k

/-- a source of append: a slice that reads -/
theorem src_of_rd {S : Nat → Prop} {T E k n : Nat} {w : World} {y : Value} {xs : List Value} (ht : Try.prog.underlying T = some (.slice E)) (h : Rd S k w y n xs) : Src Try.prog k T y n xs w := by
  obtain ⟨h1, h2, A, c, rfl, hn, hc, h3⟩ := h
  rcases Nat.eq_zero_or_pos n with rfl | h0
  · have hx : xs = [] := List.eq_nil_of_length_eq_zero (by simpa using h1)
    subst hx
    cases A with
    | none => exact Src.ofNil w ht c
    | some a => exact Src.ofSlice w ht a 0 c [] (by simp) (by simp) (by simp)
  · obtain ⟨b, off, rfl, _, hcell⟩ := h3 h0
    refine Src.ofSlice w ht ⟨b, off, none⟩ n c xs h1 (fun j u hu => ?_) h2
    rw [add_off]
    have hj : j < xs.length := by
      rcases Nat.lt_or_ge j xs.length with h | h
      · exact h
      · rw [List.getElem?_eq_none h] at hu; cases hu
    rw [hcell j (by omega), List.getD_eq_getElem?_getD, hu]; rfl

theorem Own.made (w : World) (E k : Nat) : Own (w.alloc (.cells #[] E)) E k (.slice (some ⟨w.heap.size, 0, none⟩) 0 0) 0 [] := World.ownsRow_made w #[] 0 (Nat.zero_le _) (Nat.zero_le _) (by simp)
theorem Rd.alloc {S : Nat → Prop} {k n : Nat} {w : World} {v : Value} {xs : List Value} (h : Rd S k w v n xs) (hk : 0 < k) (o : Obj) : Rd S k (w.alloc o) v n xs := h.below hk ((Below.refl _ w).alloc (Nat.le_refl _) _)
theorem Own.alloc {w : World} {E k n : Nat} {v : Value} {xs : List Value} (h : Own w E k v n xs) (o : Obj) : Own (w.alloc o) E k v n xs := h.below ((Below.refl _ w).alloc (Nat.le_refl _) _)

/-- rows of unlike element types lie apart -/
theorem own_ne {w : World} {E k n g : Nat} {v : Value} {xs : List Value} {cs : Array Value} {e : TypeId} {fr : Nat × Nat} (h : Own w E k v n xs) (hb : w.heap[g]? = some (.cells cs e fr)) (hne : e ≠ E) : OB v (· ≠ g) := by
  intro g' hg' he
  subst he
  rcases h.2 with ⟨rfl, _⟩ | ⟨g, cap, cur, rfl, _, hgg, _⟩
  · simp [Value.ownBlock] at hg'
  · cases hg'
    rw [hgg] at hb
    injection hb with hb
    injection hb with _ h2 _
    exact hne h2.symm
theorem Own.blk {w : World} {E k n g : Nat} {v : Value} {xs : List Value} (h : Own w E k v n xs) (hg : v.ownBlock = some g) : ∃ cs, w.heap[g]? = some (.cells cs E (0, 0)) := by
  rcases h.2 with ⟨rfl, _⟩ | ⟨g', cap, cur, rfl, _, hgg, _⟩
  · simp [Value.ownBlock] at hg
  · cases hg; exact ⟨_, hgg⟩
theorem own_ne' {w : World} {E k n E' k' n' : Nat} {v v' : Value} {xs xs' : List Value} (h : Own w E k v n xs) (h' : Own w E' k' v' n' xs') (hne : E' ≠ E) : OB v (fun g => v'.ownBlock ≠ some g) := by
  intro g hg hg'
  obtain ⟨cs, hcs⟩ := h'.blk hg'
  exact own_ne h hcs hne g hg rfl

/-- append onto a row of its own, from whatever source: what it gives, and where that lies -/
theorem run_app {T E k n m : Nat} (hE : ETy T E k) {w : World} {v y : Value} {xs news : List Value} (ty : TypeId) (hown : Own w E k v n xs) (hs : Src Try.prog k T y m news w) (hnm : n + m ≤ 1073741824) :
    ∃ v' w', (Builtin.append_ #[T, T] ty #[v, y]).run Try.prog w = .ok v' w' ∧ Own w' E k v' (n + m) (xs ++ news) ∧ w.grownBy w' v.ownBlock ∧ OB v' (fun g => v.ownBlock = some g ∨ w.heap.size ≤ g) := by
  obtain ⟨ht, ⟨i, z, hi, hz, hsz, hby, hzs⟩, hk⟩ := hE
  subst hsz
  have hlen : (xs ++ news).length = (n + m) * i.size := by rw [List.length_append, hown.1, hs.newsLen, Nat.add_mul]
  have hm31 : n + m ≤ maxLen := by simp only [maxLen]; omega
  have hbytes : (n + m) * i.bytes ≤ 140737488355328 := Nat.le_trans (Nat.mul_le_mul hnm hby) (by decide)
  have fresh : ∀ (old : Nat), old < n + m → ∀ (row : Option Nat),
      Own (w.drew.alloc (.cells ((xs ++ news).toArray ++ Builtin.zeroCells z.cells (grownCap w (n + m) old E - (n + m))) E)) E i.size
        (.slice (some ⟨w.heap.size, 0, none⟩) (n + m) (grownCap w (n + m) old E)) (n + m) (xs ++ news) ∧
      w.grownBy (w.drew.alloc (.cells ((xs ++ news).toArray ++ Builtin.zeroCells z.cells (grownCap w (n + m) old E - (n + m))) E)) row := by
    intro old ho row
    have hge := grownCap_ge w (n + m) old E
    have hcm : grownCap w (n + m) old E ≤ maxLen := grownCap_le_maxLen w (n + m) old E hm31
    refine ⟨⟨hlen, .inr ⟨w.heap.size, _, _, rfl, Nat.zero_le _, heap_alloc_new w.drew _, hge, hcm, ?_, ?_⟩⟩, ⟨rfl, rfl, rfl, by simp, fun k hk _ => Below.heap_alloc w.drew _ k hk⟩⟩
    · rw [Array.size_append, List.size_toArray, size_zeroCells, hzs, hlen, ← Nat.add_mul, show n + m + (grownCap w (n + m) old E - (n + m)) = grownCap w (n + m) old E from by omega]
    · rw [Array.toList_append]
      rw [← hlen]
      exact List.take_left
  rcases hown.2 with ⟨rfl, rfl⟩ | ⟨g, cap, cur, rfl, hbg, hg, hnc, hcm, hcs, htake⟩
  · have hx : xs = [] := List.eq_nil_of_length_eq_zero (by simpa using hown.1)
    subst hx
    rcases Nat.eq_zero_or_pos m with rfl | hm
    · have hn : news = [] := List.eq_nil_of_length_eq_zero (by simpa using hs.newsLen)
      subst hn
      refine ⟨.slice none 0 0, w, ?_, Own.nil w E i.size, ⟨rfl, rfl, rfl, Nat.le_refl _, fun _ _ _ => rfl⟩, OB.nil _⟩
      have h1 := hs.len; have h2 := hs.cells
      simp [Builtin.append_, run_underlying ht, sizeOf, typeInfo, hi, h1, h2]
    · have hr := run_append_grow_src (P := Try.prog) w T T ty E i z ht hi hz none 0 0 [] (run_firstCells_none _ _ _ _ _) y m news hs (by omega) (by omega) (growslice_fits (by omega) hbytes)
      have hgr := fresh 0 (by omega) (Value.ownBlock (.slice none 0 0))
      simp only [Nat.zero_add, List.nil_append] at hgr hr ⊢
      exact ⟨_, _, hr, hgr.1, hgr.2, fun g hg => by simp [Value.ownBlock] at hg; exact .inr (by omega)⟩
  · by_cases hroom : n + m ≤ cap
    · have hfit : n * i.size + news.length ≤ cur.size := by rw [hs.newsLen, hcs, ← Nat.add_mul]; exact Nat.mul_le_mul_right _ hroom
      have hst := run_storeCells_at Try.prog g (n * i.size) E news 0 cur w hg (by simpa using hfit) hs.one
      simp only [Nat.add_zero] at hst
      have hr : (Builtin.append_ #[T, T] ty #[.slice (some ⟨g, 0, none⟩) n cap, y]).run Try.prog w = .ok (.slice (some ⟨g, 0, none⟩) (n + m) cap) (w.setRow g (cur.toList.take (n * i.size) ++ news ++ cur.toList.drop (n * i.size + news.length)).toArray) := by
        simp [Builtin.append_, run_underlying ht, sizeOf, typeInfo, hi, hs.len, hroom, hs.cells, Addr.add_lit, hst]
      refine ⟨_, _, hr, ⟨hlen, .inr ⟨g, cap, _, rfl, hbg, setRow_heap w g cur _ E _ hg, hroom, hcm, ?_, ?_⟩⟩, ⟨rfl, rfl, rfl, by simp, fun k hk _ => setRow_other w g k _ (fun e => by subst e; simp_all [Value.ownBlock])⟩, fun g' hg' => .inl hg'⟩
      · simp only [List.size_toArray, List.length_append, List.length_take, List.length_drop, Array.length_toList]
        omega
      · rw [htake, ← hlen]
        exact List.take_left
    · have holds : ∀ j u, xs[j]? = some u → w.drew.cell? ((⟨g, 0, none⟩ : Addr).add j) = some u := World.ownsRow.cells hown (g := g) rfl
      have hr := run_append_grow_src (P := Try.prog) w T T ty E i z ht hi hz (some ⟨g, 0, none⟩) n cap xs (run_firstCells_some w.drew i.size n ⟨g, 0, none⟩ n cap xs hown.1 holds) y m news hs (by omega) (by omega) (growslice_fits (by omega) hbytes)
      have hgr := fresh cap (by omega) (Value.ownBlock (.slice (some ⟨g, 0, none⟩) n cap))
      exact ⟨_, _, hr, hgr.1, hgr.2, fun g' hg' => by simp [Value.ownBlock] at hg'; exact .inr (by omega)⟩

theorem wp_app {T E k n m : Nat} (hE : ETy T E k) {w : World} {o : Oper} {a : Act} {K : Act → World → Prop} {Q : Exit → Act → World → Prop} (s x : Operand)
    (ho : o.op = .call { callee := .builtin .append, args := #[s, x], argTypes := #[T, T] }) {v y : Value} {xs news : List Value} (hown : Own w E k v n xs) (hv : a.eval s = v) (hs : Src Try.prog k T y m news w) (hy : a.eval x = y) (hnm : n + m ≤ 1073741824)
    (h : ∀ A' c' w', Own w' E k (.slice A' (n + m) c') (n + m) (xs ++ news) → w.grownBy w' v.ownBlock → OB (.slice A' (n + m) c') (fun g => v.ownBlock = some g ∨ w.heap.size ≤ g) → K (a.put o.dst (.slice A' (n + m) c')) w') : o.wp Try.prog a w K Q := by
  obtain ⟨v', w', hr, h2, h3, h4⟩ := run_app hE o.type hown hs hnm
  obtain ⟨A', c', rfl⟩ := h2.slice
  unfold Oper.wp execOp
  simp only [ho, resolve, invoke, builtin, Sem.run_bind, Sem.run_pure, Result.andThen_ok, List.map_toArray, List.map_cons, List.map_nil, hv, hy, hr]
  exact h A' c' w' h2 h3 h4

theorem wpList_app {T E k n m : Nat} (hE : ETy T E k) {w : World} {ops : Array Oper} {rest : List Oper} {o : Oper} {a : Act} {Q : Exit → Act → World → Prop} (hg : o.guard = none) (s x : Operand)
    (ho : o.op = .call { callee := .builtin .append, args := #[s, x], argTypes := #[T, T] }) {v y : Value} {xs news : List Value} (hown : Own w E k v n xs) (hv : a.eval s = v) (hs : Src Try.prog k T y m news w) (hy : a.eval x = y) (hnm : n + m ≤ 1073741824)
    (h : ∀ A' c' w', Own w' E k (.slice A' (n + m) c') (n + m) (xs ++ news) → w.grownBy w' v.ownBlock → OB (.slice A' (n + m) c') (fun g => v.ownBlock = some g ∨ w.heap.size ≤ g) → wpList Try.prog ops Q rest (a.put o.dst (.slice A' (n + m) c')) w') : wpList Try.prog ops Q (o :: rest) a w :=
  wpList_plain hg fun _ hK => wp_app hE s x ho hown hv hs hy hnm fun A' c' w' h2 h3 h4 => hK _ _ (h A' c' w' h2 h3 h4)

/-- .. at a step of a region that draws its order -/
theorem step_app {T E k n m : Nat} (hE : ETy T E k) {w : World} {ops : Array Oper} {o : Oper} {a : Act} {K : Act → World → Prop} {Q : Exit → Act → World → Prop} {F : Prop} (hg : o.guard = none) (s x : Operand)
    (ho : o.op = .call { callee := .builtin .append, args := #[s, x], argTypes := #[T, T] }) {v y : Value} {xs news : List Value} (hown : Own w E k v n xs) (hv : a.eval s = v) (hs : Src Try.prog k T y m news w) (hy : a.eval x = y) (hnm : n + m ≤ 1073741824)
    (h : ∀ A' c' w', Own w' E k (.slice A' (n + m) c') (n + m) (xs ++ news) → w.grownBy w' v.ownBlock → OB (.slice A' (n + m) c') (fun g => v.ownBlock = some g ∨ w.heap.size ≤ g) → K (a.put o.dst (.slice A' (n + m) c')) w') :
    if Region.wanted o (yielded ops a.tmps) = true then Oper.wp Try.prog o a w K Q else F := by
  rw [if_pos (by simp [Region.wanted, hg])]
  exact wp_app hE s x ho hown hv hs hy hnm h

theorem src_blk {T E k m : Nat} (ht : Try.prog.underlying T = some (.slice E)) {w : World} {b : Nat} {cs : Array Value} {e : TypeId} {fr : Nat × Nat} (c : Nat) (hb : w.heap[b]? = some (.cells cs e fr)) (hl : cs.size = m * k) (h1 : ∀ u ∈ cs.toList, u.oneCell' = true) :
    Src Try.prog k T (.slice (some ⟨b, 0, none⟩) m c) m cs.toList w := by
  refine Src.ofSlice _ ht ⟨b, 0, none⟩ m c cs.toList (by simpa using hl) (fun j u hu => ?_) h1
  rw [add_off, Nat.zero_add, cell_of_row _ b j cs e fr hb]
  simpa using hu

/-- the literal that append's further arguments lie in: the block just made -/
theorem src_new {T E k m : Nat} (ht : Try.prog.underlying T = some (.slice E)) (w : World) (cs : Array Value) (e : TypeId) (c : Nat) (hl : cs.size = m * k) (h1 : ∀ u ∈ cs.toList, u.oneCell' = true) :
    Src Try.prog k T (.slice (some ⟨w.heap.size, 0, none⟩) m c) m cs.toList (w.alloc (.cells cs e)) := by
  exact src_blk ht c (heap_alloc_new w _) hl h1

/-- 'append(s, x)': one element more. -/
theorem wpList_app1 {T E k n : Nat} (hE : ETy T E k) {w : World} {ops : Array Oper} {rest : List Oper} {o : Oper} {a : Act} {Q : Exit → Act → World → Prop} (hg : o.guard = none) (s x : Operand)
    (ho : o.op = .call { callee := .builtin .append, args := #[s, x], argTypes := #[T, T] }) {v : Value} {xs : List Value} (cs : Array Value) {e : TypeId} (hown : Own w E k v n xs) (hv : a.eval s = v) (hx : a.eval x = .slice (some ⟨w.heap.size, 0, none⟩) 1 1)
    (hl : cs.size = k) (h1 : ∀ u ∈ cs.toList, u.oneCell' = true) (hn : n < 1073741824)
    (h : ∀ g c' w', Own w' E k (.slice (some ⟨g, 0, none⟩) (n + 1) c') (n + 1) (xs ++ cs.toList) → w.grownBy w' v.ownBlock → (v.ownBlock = some g ∨ w.heap.size ≤ g) → wpList Try.prog ops Q rest (a.put o.dst (.slice (some ⟨g, 0, none⟩) (n + 1) c')) w') : wpList Try.prog ops Q (o :: rest) a (w.alloc (.cells cs e)) := by
  refine wpList_app hE hg s x ho (hown.below ((Below.refl _ w).alloc (Nat.le_refl _) _)) hv (src_new hE.und w cs e 1 (by omega) h1) hx (by omega) fun A' c' w' h1 h2 h3 => ?_
  obtain ⟨g, rfl⟩ := h1.head (by omega)
  refine h g c' w' h1 ⟨h2.os, h2.tape, h2.output, by have := h2.size; simp at this; omega, fun i hi hn => (h2.block i (by simp; omega) hn).trans (Below.heap_alloc w _ i hi)⟩ ?_
  rcases OB.some_iff.1 h3 with hg | hg
  · exact .inl hg
  · simp at hg; exact .inr (by omega)

/-- 's[lo:hi]': what it gives, whatever the world -/
theorem run_sl {T E k n : Nat} (hE : ETy T E k) {S : Nat → Prop} {w : World} {v : Value} {xs : List Value} (hR : Rd S k w v n xs) (lo hi : Nat) (hlo : lo ≤ hi) (hhi : hi ≤ n) (low high : Option Value)
    (hl : (low = none ∧ lo = 0) ∨ ∃ kk, low = some (.int kk (lo : Int))) (hh : (high = none ∧ hi = n) ∨ ∃ kk, high = some (.int kk (hi : Int))) :
    ∃ A' c', (∀ W, (Instr.slice T v low high none).run Try.prog W = .ok (.slice A' (hi - lo) c') W) ∧ Rd S k w (.slice A' (hi - lo) c') (hi - lo) ((xs.drop (lo * k)).take ((hi - lo) * k)) := by
  obtain ⟨hlen, h1, A, c, rfl, hnc, hc, h3⟩ := hR
  obtain ⟨ht, ⟨i, z, hi', hz, hsz, hby, hzs⟩, hk⟩ := hE
  refine ⟨if c = lo then A else A.map (·.add (lo * k)), c - lo, fun W => ?_, ?_⟩
  · have e1 : (0 : Int) ≤ (lo : Int) := by omega
    have e2 : (lo : Int) ≤ (hi : Int) := by omega
    have e3 : (0 : Int) ≤ (hi : Int) := by omega
    have e4 : (hi : Int) ≤ (c : Int) := by omega
    have e5 : lo ≤ hi := hlo
    have e6 : hi ≤ c := by omega
    rcases hl with ⟨rfl, rfl⟩ | ⟨kk, rfl⟩ <;> rcases hh with ⟨rfl, rfl⟩ | ⟨kk', rfl⟩ <;>
      simp [Instr.slice, run_underlying ht, Instr.sliceBounds, Instr.sliceBound, asIntOf, sizeOf, typeInfo, hi', hsz, e5, e6]
  · refine ⟨?_, ?_, _, _, rfl, by omega, by omega, fun h0 => ?_⟩
    · rw [List.length_take, List.length_drop, hlen]
      have : hi * k ≤ n * k := Nat.mul_le_mul_right k hhi
      rw [Nat.sub_mul]; omega
    · intro u hu
      exact h1 u (List.mem_of_mem_drop (List.mem_of_mem_take hu))
    · obtain ⟨b, off, rfl, hb, hcell⟩ := h3 (by omega)
      rw [if_neg (by omega)]
      refine ⟨b, off + lo * k, by simp [add_off], hb, fun j hj => ?_⟩
      have hjn : lo * k + j < n * k := by
        have : hi * k ≤ n * k := Nat.mul_le_mul_right k hhi
        rw [Nat.sub_mul] at hj; omega
      have := hcell (lo * k + j) hjn
      rw [show off + lo * k + j = off + (lo * k + j) by omega, this]
      simp only [List.getD_eq_getElem?_getD]
      rw [List.getElem?_take_of_lt hj, List.getElem?_drop]

theorem run_slL {T E k : Nat} (hE : ETy T E k) {α : Type} {enc : α → List Value} (hk : ∀ x, (enc x).length = k) {S : Nat → Prop} {w : World} {v : Value} {l : List α} (hR : RdL S enc k w v l) (lo hi : Nat) (hlo : lo ≤ hi) (hhi : hi ≤ l.length) (low high : Option Value)
    (hl : (low = none ∧ lo = 0) ∨ ∃ kk, low = some (.int kk (lo : Int))) (hh : (high = none ∧ hi = l.length) ∨ ∃ kk, high = some (.int kk (hi : Int))) :
    ∃ A' c', (∀ W, (Instr.slice T v low high none).run Try.prog W = .ok (.slice A' (hi - lo) c') W) ∧ RdL S enc k w (.slice A' (hi - lo) c') ((l.drop lo).take (hi - lo)) := by
  obtain ⟨A', c', h1, h2⟩ := run_sl hE hR lo hi hlo hhi low high hl hh
  refine ⟨A', c', h1, ?_⟩
  have e : ((l.drop lo).take (hi - lo)).length = hi - lo := by rw [List.length_take, List.length_drop]; omega
  unfold RdL
  rw [e, flat_take hk, flat_drop hk]
  exact h2

/-- 's[:hi]' of a row of its own: the same row, shorter -/
theorem run_sl_pre {T E k : Nat} (hE : ETy T E k) (g n c hi : Nat) (hn : hi ≤ c) (kk : IntKind) (W : World) : (Instr.slice T (.slice (some ⟨g, 0, none⟩) n c) none (some (.int kk (hi : Int))) none).run Try.prog W = .ok (.slice (some ⟨g, 0, none⟩) hi c) W := by
  obtain ⟨ht, ⟨i, z, hi', hz, hsz, hby, hzs⟩, hk⟩ := hE
  simp [Instr.slice, run_underlying ht, Instr.sliceBounds, Instr.sliceBound, asIntOf, sizeOf, typeInfo, hi', hn, Addr.add]
theorem Own.pre {w : World} {E k g n c m : Nat} {xs : List Value} (h : Own w E k (.slice (some ⟨g, 0, none⟩) n c) n xs) (hm : m ≤ n) : Own w E k (.slice (some ⟨g, 0, none⟩) m c) m (xs.take (m * k)) := by
  obtain ⟨h1, h2⟩ := h
  have hmk : m * k ≤ n * k := Nat.mul_le_mul_right k hm
  refine ⟨by rw [List.length_take]; omega, .inr ?_⟩
  rcases h2 with ⟨h2, _⟩ | ⟨g', cap, cur, h2, h3, h4, h5, h6, h7, h8⟩
  · cases h2
  · injection h2 with e1 e2 e3
    injection e1 with e1
    injection e1 with e1
    subst e1; subst e3
    exact ⟨g, c, cur, rfl, h3, h4, by omega, h6, h7, by rw [← h8, List.take_take, Nat.min_eq_left hmk]⟩

/-! ### A power of two, and a number's digits -/
theorem and_nat {a b : Nat} (ha : a < 9223372036854775808) (hb : b < 9223372036854775808) : bits .and .i64 (a : Int) (b : Int) = ((a &&& b : Nat) : Int) := by
  have hx : a &&& b < 2 ^ 63 := Nat.and_lt_two_pow _ (by omega)
  have h1 : (BitVec.ofInt 64 (a : Int)).toNat = a := by
    rw [BitVec.ofInt_natCast, BitVec.toNat_ofNat]; exact Nat.mod_eq_of_lt (by omega)
  have h2 : (BitVec.ofInt 64 (b : Int)).toNat = b := by
    rw [BitVec.ofInt_natCast, BitVec.toNat_ofNat]; exact Nat.mod_eq_of_lt (by omega)
  show IntKind.i64.wrap ((BitVec.ofInt 64 (a : Int) &&& BitVec.ofInt 64 (b : Int)).toNat : Int) = _
  rw [BitVec.toNat_and, h1, h2, IntKind.wrap_i64]
  omega

theorem and_pow {n z k : Nat} (hz : z = 2 ^ k) (hn : n ≤ 1000000) (hk : k ≤ 20) : bits .and .i64 (n : Int) (z : Int) = if n / 2 ^ k % 2 = 1 then (z : Int) else 0 := by
  have hz' : z ≤ 1048576 := by rw [hz]; exact Nat.le_trans (Nat.pow_le_pow_right (by decide) hk) (by decide)
  rw [and_nat (by omega) (by omega), hz]
  have hb : n.testBit k = decide (n / 2 ^ k % 2 = 1) := Nat.testBit_eq_decide_div_mod_eq
  by_cases h : n / 2 ^ k % 2 = 1
  · rw [if_pos h]
    congr 1
    apply Nat.eq_of_testBit_eq
    intro i
    rw [Nat.testBit_and, Nat.testBit_two_pow]
    by_cases e : k = i
    · subst e; simp [hb, h]
    · simp [e]
  · rw [if_neg h]
    have : n &&& 2 ^ k = 0 := by
      apply Nat.eq_of_testBit_eq
      intro i
      rw [Nat.testBit_and, Nat.testBit_two_pow, Nat.zero_testBit]
      by_cases e : k = i
      · subst e; simp [hb, h]
      · simp [e]
    rw [this]; rfl

theorem wrap_pow {z k : Nat} (hz : z = 2 ^ k) (hk : k ≤ 20) : wrap64 ((2 : Int) ^ k) = (z : Int) := by
  have e : ((2 : Int) ^ k) = ((2 ^ k : Nat) : Int) := by simp
  have hz' : z ≤ 1048576 := by rw [hz]; exact Nat.le_trans (Nat.pow_le_pow_right (by decide) hk) (by decide)
  rw [e, ← hz]; unfold wrap64; omega

/-- new blocks get the colour k -/
def tint (C : Nat → Nat) (N k : Nat) : Nat → Nat := fun b => if b < N then C b else k
theorem tint_old {C : Nat → Nat} {N k b : Nat} (h : b < N) : tint C N k b = C b := if_pos h
theorem tint_new {C : Nat → Nat} {N k b : Nat} (h : N ≤ b) : tint C N k b = k := if_neg (Nat.not_lt.2 h)

end Go.Proofs.Ytecbheeffmhlnaa
