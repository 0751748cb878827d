/- Are two lists the same? (one element of one cell after the other) -/
import Derived.Test.YtecbheeffmhlnaaBase
namespace Go.Proofs.Ytecbheeffmhlnaa.Same22
open Go.RowKit Go.Proofs.Ytecbheeffmhlnaa

theorem same_go {a b : List Int} (h : a.length = b.length) : ∀ k, k ≤ a.length → a.take k = b.take k → (∀ (h1 : k < a.length) (h2 : k < b.length), a[k] = b[k]) → a.take (k + 1) = b.take (k + 1) := by
  intro k hk ht he
  rcases Nat.lt_or_ge k a.length with h1 | h1
  · rw [List.take_succ_eq_append_getElem h1, List.take_succ_eq_append_getElem (by omega : k < b.length), ht, he h1 (by omega)]
  · rw [List.take_of_length_le (by omega), List.take_of_length_le (by omega)]
    rw [List.take_of_length_le (by omega), List.take_of_length_le (by omega)] at ht; exact ht

set_option maxHeartbeats 1000000 in
theorem same_any {S S' : Nat → Prop} {w : World} {v v' : Value} {a b : List Int} (ha : RdL S (fun x => [.int .i64 x]) 1 w v a) (hb : RdL S' (fun x => [.int .i64 x]) 1 w v' b) :
    Calls Try.prog 15 #[v, v'] w fun e w' => e = .returned (.bool (decide (a = b))) ∧ ∃ n, w' = w.drewN n := by
  obtain ⟨A, c, rfl, hac, hc, hA⟩ := ha.form1
  obtain ⟨B, c', rfl, hbc, hc', hB⟩ := hb.form1
  clear ha hb
  by_cases hl : a.length = b.length
  · have d1 : ((a.length : Int) != (b.length : Int)) = false := by simp [hl]
    have HL := Lib.hid hl
    have hl1 : a.length ≤ b.length := by omega
    have hl2 : b.length ≤ a.length := by omega
    clear hl
    go_enter Try.func15, Try.ntmps15
    go_wp2
    go_loopw [13] (fun i wr => ∃ k m : Nat, k ≤ a.length ∧ i = .int .i64 k ∧ a.take k = b.take k ∧ wr = w.drewN m) (fun i _ => a.length - (intOf i).toNat)
    case atStart => exact ⟨0, 0, Nat.zero_le _, rfl, rfl, rfl⟩
    case round =>
      obtain ⟨k, m, hk, rfl, ht, rfl⟩ := hrel
      have HT := Lib.hid ht
      clear ht
      by_cases hlt : k < a.length
      · have hlt2 : k < b.length := by omega
        obtain ⟨b0, o0, rfl, _, hca⟩ := hA (by omega)
        obtain ⟨b1, o1, rfl, _, hcb⟩ := hB (by omega)
        have ca := hca k hlt
        have cb := hcb k hlt2
        clear hca hcb
        by_cases he : a[k] = b[k]
        · have d2 : (a[k] != b[k]) = false := by rw [bne_eq_false_iff_eq]; exact he
          have HE := Lib.hid he
          clear he
          go_wp2
          go_quiet (fail)
          go_wp2
          refine ⟨⟨k + 1, m + nq, by omega, by go_num, same_go HL.out k hk HT.out (fun _ _ => HE.out), rfl⟩, by simp [intOf]; omega⟩
        · have d2 : (a[k] != b[k]) = true := by rw [bne_iff_ne]; exact he
          have HE := Lib.hid he
          clear he
          go_wp2
          go_quiet (fail)
          go_wp2
          go_ret
          refine ⟨?_, m + nq, World.drewN_drewN ..⟩
          rw [decide_eq_false (fun e => HE.out (by subst e; rfl))]
          rfl
      · have hke : k = a.length := by omega
        subst hke
        go_wp2
        go_ret
        refine ⟨?_, m, rfl⟩
        rw [decide_eq_true (by have := HT.out; rw [List.take_length, HL.out, List.take_length] at this; exact this)]
        rfl
  · have d1 : ((a.length : Int) != (b.length : Int)) = true := by simp; omega
    have HL := Lib.hid hl
    clear hl
    go_enter Try.func15, Try.ntmps15
    go_wp2
    go_ret
    refine ⟨?_, 0, rfl⟩
    rw [decide_eq_false (fun e => HL.out (by rw [e]))]
    rfl

end Go.Proofs.Ytecbheeffmhlnaa.Same22
