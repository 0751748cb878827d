/- Buckets whose sizes are powers of two: the plain law of a carry (no program in sight). -/
namespace Go.Proofs.Ytecbheeffmhlnaa.Pl

/-- how many binary digits -/
def bl : Nat → Nat
  | 0 => 0
  | n + 1 => bl ((n + 1) / 2) + 1
termination_by n => n
decreasing_by omega

/-- how many ones a number ends in -/
def t1 (n : Nat) : Nat := if n % 2 = 1 then t1 (n / 2) + 1 else 0
termination_by n
decreasing_by omega

theorem bl_pos {n : Nat} (h : 0 < n) : bl n = bl (n / 2) + 1 := by
  cases n with
  | zero => omega
  | succ n => rw [bl]

theorem bl_zero : bl 0 = 0 := by rw [bl]

theorem lt_two_pow_bl (n : Nat) : n < 2 ^ bl n := by
  induction n using Nat.strongRecOn with
  | _ n ih =>
    rcases Nat.eq_zero_or_pos n with h | h
    · subst h; rw [bl_zero]; decide
    · rw [bl_pos h, Nat.pow_succ]
      have := ih (n / 2) (by omega)
      omega

theorem two_pow_le_of_lt_bl {n i : Nat} (h : i < bl n) : 2 ^ i ≤ n := by
  induction n using Nat.strongRecOn generalizing i with
  | _ n ih =>
    rcases Nat.eq_zero_or_pos n with h0 | h0
    · subst h0; rw [bl_zero] at h; omega
    · rw [bl_pos h0] at h
      cases i with
      | zero => rw [Nat.pow_zero]; omega
      | succ i =>
        have := ih (n / 2) (by omega) (i := i) (by omega)
        rw [Nat.pow_succ]; omega

theorem bl_le_of_lt {n k : Nat} (h : n < 2 ^ k) : bl n ≤ k := by
  rcases Nat.lt_or_ge k (bl n) with h' | h'
  · have := two_pow_le_of_lt_bl h'; omega
  · exact h'

theorem bl_mono {a b : Nat} (h : a ≤ b) : bl a ≤ bl b :=
  bl_le_of_lt (Nat.lt_of_le_of_lt h (lt_two_pow_bl b))

theorem t1_even {n : Nat} (h : n % 2 = 0) : t1 n = 0 := by rw [t1, if_neg (by omega)]
theorem t1_odd {n : Nat} (h : n % 2 = 1) : t1 n = t1 (n / 2) + 1 := by rw [t1, if_pos h]

theorem div_pow_succ (n i : Nat) : n / 2 ^ (i + 1) = n / 2 / 2 ^ i := by
  rw [Nat.pow_succ, Nat.mul_comm, Nat.div_div_eq_div_mul]

theorem bit_below_t1 {n i : Nat} (h : i < t1 n) : n / 2 ^ i % 2 = 1 := by
  induction i generalizing n with
  | zero =>
    rcases Nat.mod_two_eq_zero_or_one n with h0 | h0
    · rw [t1_even h0] at h; omega
    · simpa using h0
  | succ i ih =>
    rcases Nat.mod_two_eq_zero_or_one n with h0 | h0
    · rw [t1_even h0] at h; omega
    · rw [t1_odd h0] at h
      rw [div_pow_succ]
      exact ih (by omega)

theorem bit_at_t1 (n : Nat) : n / 2 ^ t1 n % 2 = 0 := by
  induction n using Nat.strongRecOn with
  | _ n ih =>
    rcases Nat.mod_two_eq_zero_or_one n with h0 | h0
    · rw [t1_even h0]; simpa using h0
    · rw [t1_odd h0, div_pow_succ]
      exact ih (n / 2) (by omega)

/-- below its first zero a number is all ones -/
theorem mod_pow_t1 (n : Nat) : n % 2 ^ t1 n = 2 ^ t1 n - 1 := by
  induction n using Nat.strongRecOn with
  | _ n ih =>
    rcases Nat.mod_two_eq_zero_or_one n with h0 | h0
    · rw [t1_even h0]; simp; omega
    · have h1 := ih (n / 2) (by omega)
      have h2 := t1_odd h0
      have hp : 0 < 2 ^ t1 (n / 2) := Nat.two_pow_pos _
      rw [h2, Nat.pow_succ, Nat.mul_comm]
      rw [Nat.mod_mul]
      omega

theorem t1_le_bl (n : Nat) : t1 n ≤ bl n := by
  rcases Nat.lt_or_ge (bl n) (t1 n) with h | h
  · have h1 := bit_below_t1 h
    rw [Nat.div_eq_of_lt (lt_two_pow_bl n)] at h1
    omega
  · exact h

/-- the number above: its digits from the first zero on -/
theorem succ_div_pow {n i : Nat} (h : t1 n < i) : (n + 1) / 2 ^ i = n / 2 ^ i := by
  induction i generalizing n with
  | zero => omega
  | succ i ih =>
    rw [div_pow_succ, div_pow_succ]
    rcases Nat.mod_two_eq_zero_or_one n with h0 | h0
    · rw [show (n + 1) / 2 = n / 2 by omega]
    · rw [t1_odd h0] at h
      rw [show (n + 1) / 2 = n / 2 + 1 by omega]
      exact ih (by omega)

theorem succ_div_pow_t1 (n : Nat) : (n + 1) / 2 ^ t1 n = n / 2 ^ t1 n + 1 := by
  have h := mod_pow_t1 n
  have hp : 0 < 2 ^ t1 n := Nat.two_pow_pos _
  have hd := Nat.div_add_mod n (2 ^ t1 n)
  have : n + 1 = 2 ^ t1 n * (n / 2 ^ t1 n + 1) := by rw [Nat.mul_add]; omega
  rw [this, Nat.mul_div_cancel_left _ hp]

theorem succ_bit_t1 (n : Nat) : (n + 1) / 2 ^ t1 n % 2 = 1 := by
  rw [succ_div_pow_t1]; have := bit_at_t1 n; omega

theorem succ_bit_below {n i : Nat} (h : i < t1 n) : (n + 1) / 2 ^ i % 2 = 0 := by
  obtain ⟨d, hd⟩ : ∃ d, t1 n = i + 1 + d := ⟨t1 n - i - 1, by omega⟩
  have h1 := mod_pow_t1 n
  have hp : 0 < 2 ^ t1 n := Nat.two_pow_pos _
  have hdm := Nat.div_add_mod n (2 ^ t1 n)
  have hpi : 0 < 2 ^ i := Nat.two_pow_pos _
  have : n + 1 = 2 ^ i * (2 * (2 ^ d * (n / 2 ^ t1 n + 1))) := by
    have e : 2 ^ t1 n = 2 ^ i * (2 * 2 ^ d) := by rw [hd, Nat.pow_add, Nat.pow_succ, Nat.mul_assoc]
    have : n + 1 = 2 ^ t1 n * (n / 2 ^ t1 n + 1) := by rw [Nat.mul_add]; omega
    rw [this]
    generalize n / 2 ^ t1 n + 1 = q
    rw [e]; simp [Nat.mul_assoc]
  rw [this, Nat.mul_div_cancel_left _ hpi]; omega

theorem bl_succ (n : Nat) : bl (n + 1) = if t1 n = bl n then bl n + 1 else bl n := by
  split
  · rename_i h
    have h1 := mod_pow_t1 n
    rw [h, Nat.mod_eq_of_lt (lt_two_pow_bl n)] at h1
    have hp : 0 < 2 ^ bl n := Nat.two_pow_pos _
    have e : n + 1 = 2 ^ bl n := by omega
    apply Nat.le_antisymm
    · apply bl_le_of_lt; rw [Nat.pow_succ]; omega
    · rcases Nat.lt_or_ge (bl (n + 1)) (bl n + 1) with h' | h'
      · have := lt_two_pow_bl (n + 1)
        have h2 : 2 ^ bl (n + 1) ≤ 2 ^ bl n := Nat.pow_le_pow_right (by decide) (by omega)
        omega
      · exact h'
  · rename_i h
    have ht : t1 n < bl n := Nat.lt_of_le_of_ne (t1_le_bl n) h
    apply Nat.le_antisymm
    · apply bl_le_of_lt
      have h0 := lt_two_pow_bl n
      have hh : (n + 1) / 2 ^ bl n = 0 := by rw [succ_div_pow ht, Nat.div_eq_of_lt h0]
      have hp : 0 < 2 ^ bl n := Nat.two_pow_pos _
      rcases Nat.lt_or_ge (n + 1) (2 ^ bl n) with h' | h'
      · exact h'
      · have := Nat.div_pos h' hp; omega
    · exact bl_mono (by omega)

/-- where bucket i begins in what is stored, the greatest bucket first -/
def bs (n i : Nat) : Nat := n / 2 ^ (i + 1) * 2 ^ (i + 1)

/-- bucket i of what is stored -/
def bk {α : Type} (i : Nat) (l : List α) : List α :=
  if l.length / 2 ^ i % 2 = 1 then (l.drop (bs l.length i)).take (2 ^ i) else []

theorem bs_succ_le (n i : Nat) : bs n i ≤ n := Nat.div_mul_le_self _ _

theorem bs_step (n i : Nat) : bs n i + n / 2 ^ i % 2 * 2 ^ i = n / 2 ^ i * 2 ^ i := by
  unfold bs
  rw [Nat.pow_succ, ← Nat.div_div_eq_div_mul]
  have := Nat.div_add_mod (n / 2 ^ i) 2
  generalize n / 2 ^ i = q at *
  have e : q = 2 * (q / 2) + q % 2 := by omega
  calc q / 2 * (2 ^ i * 2) + q % 2 * 2 ^ i = (2 * (q / 2) + q % 2) * 2 ^ i := by rw [Nat.add_mul]; congr 1; rw [Nat.mul_comm (2 ^ i) 2, ← Nat.mul_assoc, Nat.mul_comm (q / 2) 2]
    _ = q * 2 ^ i := by rw [← e]

theorem bs_room {n i : Nat} (h : n / 2 ^ i % 2 = 1) : bs n i + 2 ^ i ≤ n := by
  have h1 := bs_step n i
  rw [h] at h1
  have := Nat.div_mul_le_self n (2 ^ i)
  omega

theorem bk_length {α : Type} (i : Nat) (l : List α) : (bk i l).length = if l.length / 2 ^ i % 2 = 1 then 2 ^ i else 0 := by
  unfold bk
  split
  · rename_i h
    rw [List.length_take, List.length_drop]
    have := bs_room h
    omega
  · rfl

theorem bk_length_pos {α : Type} {i : Nat} {l : List α} : 0 < (bk i l).length ↔ l.length / 2 ^ i % 2 = 1 := by
  rw [bk_length]; have : 0 < 2 ^ i := Nat.two_pow_pos _; split <;> simp_all

theorem bk_high {α : Type} {i : Nat} {l : List α} (h : bl l.length ≤ i) : bk i l = [] := by
  unfold bk
  rw [if_neg]
  have h1 := lt_two_pow_bl l.length
  have h2 : 2 ^ bl l.length ≤ 2 ^ i := Nat.pow_le_pow_right (by decide) h
  rw [Nat.div_eq_of_lt (by omega)]; decide

/-- all buckets from i on, the greatest first, are what stands ahead of bucket i-1 -/
def cat {α : Type} (f : Nat → List α) : Nat → Nat → List α
  | _, 0 => []
  | i, d + 1 => cat f (i + 1) d ++ f i

theorem cat_from {α : Type} (l : List α) (d i : Nat) (h : bl l.length ≤ i + d) : cat (fun k => bk k l) i d = l.take (l.length / 2 ^ i * 2 ^ i) := by
  induction d generalizing i with
  | zero =>
    have h1 := lt_two_pow_bl l.length
    have h2 : 2 ^ bl l.length ≤ 2 ^ i := Nat.pow_le_pow_right (by decide) h
    simp [cat, Nat.div_eq_of_lt (show l.length < 2 ^ i by omega)]
  | succ d ih =>
    rw [cat, ih (i + 1) (by omega)]
    have hs := bs_step l.length i
    have e : l.length / 2 ^ (i + 1) * 2 ^ (i + 1) = bs l.length i := rfl
    rw [e]
    unfold bk
    split
    · rename_i hb
      rw [hb] at hs
      rw [← hs, Nat.one_mul, ← List.take_add]
    · rename_i hb
      have hb0 : l.length / 2 ^ i % 2 = 0 := by omega
      rw [hb0] at hs
      rw [← hs]; simp

theorem cat_all {α : Type} (l : List α) (d : Nat) (h : bl l.length ≤ d) : cat (fun k => bk k l) 0 d = l := by
  rw [cat_from l d 0 (by omega)]; simp

theorem cat_succ {α : Type} (f : Nat → List α) (i d : Nat) : cat f i (d + 1) = f (i + d) ++ cat f i d := by
  induction d generalizing i with
  | zero => simp [cat]
  | succ d ih =>
    rw [cat, ih (i + 1), cat, List.append_assoc]
    congr 2
    omega

/-- what an addition takes together: all that stands behind the first bucket that is not full -/
theorem cat_low {α : Type} (l : List α) (k : Nat) (h : k ≤ t1 l.length) : ∀ d, k + d = t1 l.length → cat (fun j => bk j l) k d = (l.drop (bs l.length (t1 l.length))).take (2 ^ t1 l.length - 2 ^ k) := by
  intro d
  induction d generalizing k with
  | zero =>
    intro hd
    have : k = t1 l.length := by omega
    subst this
    simp [cat]
  | succ d ih =>
    intro hd
    rw [cat, ih (k + 1) (by omega) (by omega)]
    have hb := bit_below_t1 (show k < t1 l.length by omega)
    have hpk : 2 ^ (k + 1) ≤ 2 ^ t1 l.length := Nat.pow_le_pow_right (by decide) (by omega)
    have e2 : 2 ^ (k + 1) = 2 * 2 ^ k := by rw [Nat.pow_succ, Nat.mul_comm]
    have hbk : bk k l = ((l.drop (bs l.length (t1 l.length))).drop (2 ^ t1 l.length - 2 ^ (k + 1))).take (2 ^ k) := by
      unfold bk
      rw [if_pos hb, List.drop_drop]
      congr 2
      -- bs n k = bs n t + 2^t - 2^(k+1)
      have h1 := mod_pow_t1 l.length
      have h2 := bs_step l.length (t1 l.length)
      rw [bit_at_t1] at h2
      generalize ht : t1 l.length = t at *
      generalize hn : l.length = n at *
      have hdm := Nat.div_add_mod n (2 ^ t)
      have hp : 0 < 2 ^ t := Nat.two_pow_pos _
      obtain ⟨c, hc⟩ : ∃ c, t = k + 1 + c := ⟨t - k - 1, by omega⟩
      have ee : 2 ^ t = 2 ^ (k + 1) * 2 ^ c := by rw [hc, Nat.pow_add]
      have hpc : 0 < 2 ^ c := Nat.two_pow_pos _
      have hpk1 : 0 < 2 ^ (k + 1) := Nat.two_pow_pos _
      have hbt : bs n t = 2 ^ t * (n / 2 ^ t) := by rw [Nat.mul_comm]; omega
      rw [hbt]
      clear h2 hbt ih hb
      generalize n / 2 ^ t = q at *
      have e3 : 2 ^ (k + 1) * (2 ^ c * q + (2 ^ c - 1)) = 2 ^ t * q + (2 ^ t - 2 ^ (k + 1)) := by
        rw [Nat.mul_add, ← Nat.mul_assoc, ← ee, Nat.mul_sub, ← ee, Nat.mul_one]
      have hq : n = 2 ^ (k + 1) * (2 ^ c * q + (2 ^ c - 1)) + (2 ^ (k + 1) - 1) := by
        rw [e3]; omega
      have hdiv : n / 2 ^ (k + 1) = 2 ^ c * q + (2 ^ c - 1) := by
        rw [hq, Nat.mul_add_div hpk1, Nat.div_eq_of_lt (by omega), Nat.add_zero]
      have hbs : bs n k = 2 ^ (k + 1) * (2 ^ c * q + (2 ^ c - 1)) := by
        unfold bs; rw [hdiv, Nat.mul_comm]
      rw [hbs, e3]
    rw [hbk, ← List.take_add]
    congr 1
    omega

theorem cat_low_all {α : Type} (l : List α) : cat (fun j => bk j l) 0 (t1 l.length) = l.drop (bs l.length (t1 l.length)) := by
  rw [cat_low l 0 (by omega) (t1 l.length) (by omega)]
  apply List.take_of_length_le
  rw [List.length_drop]
  have h1 := mod_pow_t1 l.length
  have h2 := bs_step l.length (t1 l.length)
  rw [bit_at_t1] at h2
  have hdm := Nat.div_add_mod l.length (2 ^ t1 l.length)
  have hp : 0 < 2 ^ t1 l.length := Nat.two_pow_pos _
  have : 2 ^ t1 l.length * (l.length / 2 ^ t1 l.length) = l.length / 2 ^ t1 l.length * 2 ^ t1 l.length := Nat.mul_comm _ _
  simp only [Nat.pow_zero]
  omega

theorem bs_succ_of_lt {n i : Nat} (h : t1 n ≤ i) : bs (n + 1) i = bs n i := by
  unfold bs; rw [succ_div_pow (by omega)]

theorem bk_snoc_low {α : Type} (l : List α) (x : α) {i : Nat} (h : i < t1 l.length) : bk i (l ++ [x]) = [] := by
  unfold bk
  rw [if_neg]
  have := succ_bit_below h
  simp only [List.length_append, List.length_singleton]
  omega

theorem bk_snoc_high {α : Type} (l : List α) (x : α) {i : Nat} (h : t1 l.length < i) : bk i (l ++ [x]) = bk i l := by
  unfold bk
  simp only [List.length_append, List.length_singleton, succ_div_pow h, bs_succ_of_lt (Nat.le_of_lt h)]
  split
  · rename_i hb
    have hr := bs_room hb
    have hp : 0 < 2 ^ i := Nat.two_pow_pos _
    rw [List.drop_append_of_le_length (by omega), List.take_append_of_le_length (by rw [List.length_drop]; omega)]
  · rfl

theorem bk_snoc_at {α : Type} (l : List α) (x : α) : bk (t1 l.length) (l ++ [x]) = cat (fun j => bk j l) 0 (t1 l.length) ++ [x] := by
  rw [cat_low_all]
  unfold bk
  simp only [List.length_append, List.length_singleton]
  rw [if_pos (succ_bit_t1 _), bs_succ_of_lt (Nat.le_refl _), List.drop_append_of_le_length (bs_succ_le _ _)]
  apply List.take_of_length_le
  have h1 := mod_pow_t1 l.length
  have h2 := bs_step l.length (t1 l.length)
  rw [bit_at_t1] at h2
  have hdm := Nat.div_add_mod l.length (2 ^ t1 l.length)
  have hp : 0 < 2 ^ t1 l.length := Nat.two_pow_pos _
  have : 2 ^ t1 l.length * (l.length / 2 ^ t1 l.length) = l.length / 2 ^ t1 l.length * 2 ^ t1 l.length := Nat.mul_comm _ _
  simp only [List.length_append, List.length_drop, List.length_singleton]
  omega

theorem bk_snoc_at_length {α : Type} (l : List α) (x : α) : (bk (t1 l.length) (l ++ [x])).length = 2 ^ t1 l.length := by
  rw [bk_length, if_pos (by simpa using succ_bit_t1 l.length)]

theorem bk_map {α β : Type} (f : α → β) (i : Nat) (l : List α) : bk i (l.map f) = (bk i l).map f := by
  unfold bk
  simp only [List.length_map]
  split
  · rw [← List.map_drop, ← List.map_take]
  · rfl

end Go.Proofs.Ytecbheeffmhlnaa.Pl
