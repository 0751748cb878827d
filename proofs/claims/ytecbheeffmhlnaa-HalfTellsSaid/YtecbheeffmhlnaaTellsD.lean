/- awake: the walk. -/
import Derived.Test.YtecbheeffmhlnaaTellsC
namespace Go.Proofs.Ytecbheeffmhlnaa.Tells
open Go.RowKit Go.Proofs.Ytecbheeffmhlnaa Go.Proofs.Ytecbheeffmhlnaa.Pl Go.Proofs.Ytecbheeffmhlnaa.HalfI Go.Proofs.Ytecbheeffmhlnaa.Ref22 Go.Proofs.Ytecbheeffmhlnaa.TrI Go.Proofs.Ytecbheeffmhlnaa.Law22

abbrev L3 : List (Int × Nat) := [(5, 0), (3, 1), (9, 2)]

set_option maxRecDepth 100000 in
set_option maxHeartbeats 8000000 in
theorem awake_true (w : World) : Calls Try.prog 19 #[] w fun e w' => e = .returned (.bool true) ∧ Below w.heap.size w w' := by
  have hnew := new_any w
  have HN := Lib.hid hnew
  clear hnew
  go_enter Try.func19, Try.ntmps19
  go_upto_block 0 with (go_at_call 4; refine HN.out.mono ?_; rintro e w1 ⟨ph, pc, pm, rfl, hb1, H1⟩; have HH1 := Lib.hid H1; have HB1 := Lib.hid hb1; clear H1 hb1)
  have hx0 := heap_alloc_new w1 (.cells (#[.int .i64 5, .int .i64 3, .int .i64 9] : Array Value) tI)
  have N0 : Hv w (w1.alloc (.cells #[.int .i64 5, .int .i64 3, .int .i64 9] tI)) ph pc pm [] [] 0 w1.heap.size := by
    have hb2 : Below w1.heap.size w1 (w1.alloc (.cells #[.int .i64 5, .int .i64 3, .int .i64 9] tI)) := (Below.refl _ w1).alloc (Nat.le_refl _) _
    have hbk : ∀ i, bk i ([] : List (Int × Nat)) = [] := fun i => by unfold bk; split <;> simp
    refine ⟨_, .slice none 0 0, .slice none 0 0, .slice none 0 0, .slice none 0 0, 0, [], [], [], outside (HH1.out.fewer (tl' := tlOf [] []) fun i q hq => by unfold tlOf at hq; rw [if_pos (hbk i)] at hq; cases hq) (Mod.of_below _ hb2), ⟨fun p hp => (by cases hp), by simp, List.Perm.refl _, by simp [lvs, keep]⟩, ⟨rfl, fun i p hp => (by rw [hbk] at hp; cases hp)⟩, Nat.zero_le _, Nat.le_refl _, tint_new (Nat.le_refl _), by simp, fun b hb => ?_, then_below HB1.out hb2 HB1.out.size⟩
    rw [tint_old (Nat.lt_of_lt_of_le hb HB1.out.size)]
    exact if_neg (by omega)
  generalize hg0 : w1.heap.size = g0 at *
  generalize World.alloc w1 _ = w2 at *
  have HN0 := Lib.hid N0
  have HX0 := Lib.hid hx0
  clear N0 hx0 HH1 HB1 HN hg0
  go_wp2
  go_loopw [14] (fun ii wr => ∃ k : Nat, k ≤ 3 ∧ ii = .int .i64 k ∧ Hv w wr ph pc pm (L3.take k) (List.replicate k true) (100 * k) g0 ∧ wr.heap[g0]? = some (.cells #[.int .i64 5, .int .i64 3, .int .i64 9] tI (0, 0))) (fun ii _ => 3 - (intOf ii).toNat)
  case atStart => exact ⟨0, by omega, rfl, HN0.out, HX0.out⟩
  case round =>
    clear HN0 HX0
    obtain ⟨k, hk, rfl, N, hx⟩ := hrel
    have y0 : wr.cell? ⟨g0, 0, none⟩ = some (.int .i64 5) := by simp [World.cell?, hx]
    have y1 : wr.cell? ⟨g0, 1, none⟩ = some (.int .i64 3) := by simp [World.cell?, hx]
    have y2 : wr.cell? ⟨g0, 2, none⟩ = some (.int .i64 9) := by simp [World.cell?, hx]
    have hk3 : k = 0 ∨ k = 1 ∨ k = 2 ∨ k = 3 := by omega
    have HX := Lib.hid hx
    clear hx
    rcases hk3 with rfl | rfl | rfl | rfl
    · have ha := hv_add (L := []) (alive := []) (j := 0) N (x := 5) (by decide) (by decide) (by decide) (by decide) (P0 := 1) (by show 1 = 2 ^ t1 0; rw [t1_0])
      have HA := Lib.hid ha
      clear ha N
      go_wp2_with (go_at_call 9; refine HA.out.mono ?_; rintro e w3 ⟨rfl, N3, hg3⟩; have HN3 := Lib.hid N3; have HG3 := Lib.hid hg3; clear N3 hg3)
      exact ⟨⟨1, by omega, rfl, HN3.out, HG3.out.trans HX.out⟩, by simp [intOf]⟩
    · have ha := hv_add (L := [(5, 0)]) (alive := [true]) (j := 100) N (x := 3) (by decide) (by decide) (by decide) (by decide) (P0 := 2) (by show 2 = 2 ^ t1 1; rw [t1_1])
      have HA := Lib.hid ha
      clear ha N
      go_wp2_with (go_at_call 9; refine HA.out.mono ?_; rintro e w3 ⟨rfl, N3, hg3⟩; have HN3 := Lib.hid N3; have HG3 := Lib.hid hg3; clear N3 hg3)
      exact ⟨⟨2, by omega, rfl, HN3.out, HG3.out.trans HX.out⟩, by simp [intOf]⟩
    · have ha := hv_add (L := [(5, 0), (3, 1)]) (alive := [true, true]) (j := 200) N (x := 9) (by decide) (by decide) (by decide) (by decide) (P0 := 1) (by show 1 = 2 ^ t1 2; rw [t1_2])
      have HA := Lib.hid ha
      clear ha N
      go_wp2_with (go_at_call 9; refine HA.out.mono ?_; rintro e w3 ⟨rfl, N3, hg3⟩; have HN3 := Lib.hid N3; have HG3 := Lib.hid hg3; clear N3 hg3)
      exact ⟨⟨3, by omega, rfl, HN3.out, HG3.out.trans HX.out⟩, by simp [intOf]⟩
    · have N3 : Hv w wr ph pc pm [(5, 0), (3, 1), (9, 2)] [true, true, true] 300 g0 := N
      have HN3 := Lib.hid N3
      clear N N3 y0 y1 y2
      have htr := hv_trees2 HN3.out (by decide) (a := [3, 5]) (b := [9]) (by decide) (by decide) (by decide) (by decide) ex_a
      have HTR := Lib.hid htr
      clear htr
      go_wp2_with (first
        | (go_at_call 17; refine HTR.out.mono ?_; rintro e w3 ⟨rfl, N4, hg3⟩; have HN4 := Lib.hid N4; clear N4 hg3))
      have hd := hv_drop HN4.out (x := 5) (k := 0) (by decide) (by decide) (by decide) (by decide) (n := 0) (by rfl) (by decide) (L' := [(5, 0), (3, 1), (9, 2)]) (by rfl) (alive' := [false, true, true]) (by rfl)
      have HD := Lib.hid hd
      clear hd
      refine HD.out.mono ?_
      rintro e w4 ⟨rfl, N5, hg4⟩
      have HN5 := Lib.hid N5
      clear N5 hg4 HD HTR
      have htr := hv_trees2 HN5.out (by decide) (a := [3]) (b := [9]) (by decide) (by decide) (by decide) (by decide) ex_b
      have HTR := Lib.hid htr
      clear htr
      go_wp2_with (go_at_call 17; refine HTR.out.mono ?_; rintro e w5 ⟨rfl, N6, hg5⟩; have hst := hv_stored N6 (n := 3) rfl; have HST := Lib.hid hst; have HN6 := Lib.hid N6; clear N6 hg5 hst)
      refine HST.out.mono ?_
      rintro e w' ⟨rfl, rfl⟩
      have hd := hv_drop HN6.out (x := 9) (k := 2) (by decide) (by decide) (by decide) (by decide) (n := 1) (by rfl) (by decide) (L' := [(3, 1)]) (by rfl) (alive' := [false, true, false]) (by rfl)
      have HD := Lib.hid hd
      clear hd HTR HST HN5
      go_wp2_with (go_at_call 7; refine HD.out.mono ?_; rintro e w7 ⟨rfl, N7, hg7⟩; have han := hv_add_no N7 (x := 3) (by decide); have HAN := Lib.hid han; have HN7 := Lib.hid N7; clear N7 hg7 han)
      refine HAN.out.mono ?_
      rintro e w' ⟨rfl, rfl⟩
      have htr := hv_trees1 HN7.out (by decide) (a := [3]) (by decide) (by decide) ex_c
      have HTR := Lib.hid htr
      clear htr HD HAN
      go_wp2_with (go_at_call 17; refine HTR.out.mono ?_; rintro e w8 ⟨rfl, N8, hg8⟩; have hst := hv_stored N8 (n := 1) rfl; have HST := Lib.hid hst; have HN8 := Lib.hid N8; clear N8 hg8 hst)
      refine HST.out.mono ?_
      rintro e w' ⟨rfl, rfl⟩
      have hbf : Below w.heap.size w w8 := by
        obtain ⟨C, bv, av, tv, lvv, work, lv, ts, m, H, W, V, ht, hw, hc, hg, hc0, hb0⟩ := HN8.out
        exact hb0
      have HBF := Lib.hid hbf
      clear hbf
      go_wp2
      go_ret
      exact ⟨rfl, HBF.out⟩
end Go.Proofs.Ytecbheeffmhlnaa.Tells
