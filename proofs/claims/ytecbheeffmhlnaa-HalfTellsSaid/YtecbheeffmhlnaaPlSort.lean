/- Sorted lists of numbers, one put in after the other: the plain law (no program in sight). -/
namespace Go.Proofs.Ytecbheeffmhlnaa.Pl

/-- a number more, in a sorted list, behind those that are not greater -/
def ins : List Int → Int → List Int
  | [], x => [x]
  | y :: ys, x => if x < y then x :: y :: ys else y :: ins ys x

/-- all put in, one after the other -/
def srt (l : List Int) : List Int := l.foldl ins []

def Srtd (l : List Int) : Prop := l.Pairwise (· ≤ ·)

theorem ins_length (l : List Int) (x : Int) : (ins l x).length = l.length + 1 := by
  induction l with
  | nil => rfl
  | cons y ys ih => unfold ins; split <;> simp [ih]
theorem ins_mem {l : List Int} {x y : Int} : y ∈ ins l x ↔ y = x ∨ y ∈ l := by
  induction l with
  | nil => simp [ins]
  | cons z zs ih =>
    unfold ins
    split
    · simp
    · simp only [List.mem_cons, ih]
      constructor
      · rintro (h | h | h) <;> simp [h]
      · rintro (h | h | h) <;> simp [h]
theorem ins_srtd {l : List Int} (h : Srtd l) (x : Int) : Srtd (ins l x) := by
  induction l with
  | nil => simp [ins, Srtd]
  | cons y ys ih =>
    have h' := List.pairwise_cons.1 h
    unfold ins
    split
    · rename_i hlt
      refine List.pairwise_cons.2 ⟨fun z hz => ?_, h⟩
      rcases List.mem_cons.1 hz with rfl | hz
      · omega
      · have := h'.1 z hz; omega
    · rename_i hlt
      refine List.pairwise_cons.2 ⟨fun z hz => ?_, ih h'.2⟩
      rcases ins_mem.1 hz with rfl | hz
      · omega
      · exact h'.1 z hz

theorem srt_snoc (l : List Int) (x : Int) : srt (l ++ [x]) = ins (srt l) x := by simp [srt, List.foldl_append]
theorem srt_length (l : List Int) : (srt l).length = l.length := by
  suffices h : ∀ acc : List Int, (l.foldl ins acc).length = acc.length + l.length by simpa [srt] using h []
  induction l with
  | nil => simp
  | cons x l ih => intro acc; rw [List.foldl_cons, ih, ins_length, List.length_cons]; omega
theorem srt_srtd (l : List Int) : Srtd (srt l) := by
  suffices h : ∀ acc : List Int, Srtd acc → Srtd (l.foldl ins acc) by exact h [] List.Pairwise.nil
  induction l with
  | nil => exact fun _ h => h
  | cons x l ih => intro acc h; exact ih _ (ins_srtd h x)
theorem srt_mem {l : List Int} {y : Int} : y ∈ srt l ↔ y ∈ l := by
  suffices h : ∀ acc : List Int, y ∈ l.foldl ins acc ↔ y ∈ acc ∨ y ∈ l by simpa [srt] using h []
  induction l with
  | nil => simp
  | cons x l ih =>
    intro acc; rw [List.foldl_cons, ih, ins_mem, List.mem_cons]
    constructor
    · rintro ((h | h) | h) <;> simp [h]
    · rintro (h | h | h) <;> simp [h]
theorem srt_take_succ (l : List Int) (k : Nat) (h : k < l.length) : srt (l.take (k + 1)) = ins (srt (l.take k)) l[k] := by
  rw [List.take_succ_eq_append_getElem h, srt_snoc]

theorem ins_of_parts {l : List Int} {x : Int} : ∀ j, (∀ y ∈ l.take j, y ≤ x) → (∀ y ∈ l.drop j, x < y) → ins l x = l.take j ++ x :: l.drop j := by
  induction l with
  | nil => intro j _ _; simp [ins]
  | cons y ys ih =>
    intro j h1 h2
    cases j with
    | zero =>
      have : x < y := h2 y (by simp)
      simp [ins, this]
    | succ j =>
      have hy : y ≤ x := h1 y (by simp)
      have := ih j (fun z hz => h1 z (by simp [hz])) (fun z hz => h2 z (by simpa using hz))
      simp [ins, this, show ¬ x < y by omega]

/-- In the middle of putting x into the sorted list l: what stood from place j on has moved one place on. -/
structure Shift (l : List Int) (x : Int) (j : Nat) (arr : List Int) : Prop where
  len : arr.length = l.length + 1
  le : j ≤ l.length
  lo : arr.take j = l.take j
  hi : arr.drop (j + 1) = l.drop j
  more : ∀ y ∈ l.drop j, x < y

theorem Shift.start (l : List Int) (x : Int) : Shift l x l.length (l ++ [x]) :=
  ⟨by simp, Nat.le_refl _, by simp, by simp, by simp⟩

theorem Shift.get {l arr : List Int} {x : Int} {j : Nat} (h : Shift l x (j + 1) arr) (h1 : j < arr.length) (h2 : j < l.length) : arr[j] = l[j] := by
  have e := congrArg (fun m => m[j]?) h.lo
  simp only [List.getElem?_take, show j < j + 1 by omega, if_true] at e
  rw [List.getElem?_eq_getElem h1, List.getElem?_eq_getElem h2] at e
  exact Option.some.inj e

theorem Shift.step {l arr : List Int} {x : Int} {j : Nat} (h : Shift l x (j + 1) arr) (h2 : j < l.length) (hx : x < l[j]) : Shift l x j (arr.set (j + 1) l[j]) := by
  have hl := h.len
  refine ⟨by rw [List.length_set]; exact hl, by omega, ?_, ?_, ?_⟩
  · rw [List.take_set, List.set_eq_of_length_le (by simp; omega)]
    have e := congrArg (List.take j) h.lo
    rw [List.take_take, List.take_take, Nat.min_eq_left (by omega)] at e
    exact e
  · have h1 : j + 1 < (arr.set (j + 1) l[j]).length := by rw [List.length_set]; omega
    rw [List.drop_eq_getElem_cons h1, List.getElem_set_self, List.drop_set_of_lt (by omega), h.hi, ← List.drop_eq_getElem_cons h2]
  · intro y hy
    rw [List.drop_eq_getElem_cons h2] at hy
    rcases List.mem_cons.1 hy with rfl | hy
    · exact hx
    · exact h.more y hy

theorem Shift.done {l arr : List Int} {x : Int} {j : Nat} (h : Shift l x j arr) (hs : Srtd l) (hx : ∀ (_ : 0 < j) (h2 : j - 1 < l.length), l[j - 1] ≤ x) : arr.set j x = ins l x := by
  have hl := h.len
  have hle := h.le
  rw [ins_of_parts j ?_ h.more]
  · rw [List.set_eq_take_append_cons_drop, if_pos (by omega), h.lo, h.hi]
  · intro y hy
    obtain ⟨i, hi, rfl⟩ := List.getElem_of_mem hy
    rw [List.length_take] at hi
    rw [List.getElem_take]
    have h1 := hx (by omega) (by omega)
    rcases Nat.eq_or_lt_of_le (show i ≤ j - 1 by omega) with e | e
    · subst e; exact h1
    · have := List.pairwise_iff_getElem.1 hs i (j - 1) (by omega) (by omega) e
      omega

end Go.Proofs.Ytecbheeffmhlnaa.Pl
