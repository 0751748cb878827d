/- HalfTells: the walk. -/
import Derived.Test.YtecbheeffmhlnaaTellsA
namespace Go.Proofs.Ytecbheeffmhlnaa.Tells
open Go.RowKit Go.Proofs.Ytecbheeffmhlnaa Go.Proofs.Ytecbheeffmhlnaa.Pl Go.Proofs.Ytecbheeffmhlnaa.HalfI Go.Proofs.Ytecbheeffmhlnaa.Ref22 Go.Proofs.Ytecbheeffmhlnaa.TrI

abbrev tOp : Nat := 33
abbrev tOps : Nat := 22
def encO : Bool × Int → List Value := fun x => [.bool x.1, .int .i64 x.2]
theorem encO_len (x : Bool × Int) : (encO x).length = 2 := rfl
theorem etyO : ETy tOps tOp 2 := .mk' (by_ := 16) (z := .agg #[.bool false, .int .i64 0]) (by kernel_rfl) (by kernel_rfl) rfl (by decide) (by decide)

theorem w6b {w w' : World} (h : Below w.drew.heap.size w.drew w') : Below w.heap.size w w' := ⟨h.os, h.tape, h.output, h.size, h.block⟩

set_option maxRecDepth 100000 in
set_option maxHeartbeats 8000000 in
theorem tells_any (hawake : ∀ w, Calls Try.prog 19 #[] w fun e w' => e = .returned (.bool true) ∧ Below w.heap.size w w')
    {S : Nat → Prop} {w : World} {v : Value} {l : List (Bool × Int)} (hl : RdL S encO 2 w v l) :
    Calls Try.prog 3 #[v] w fun e w' => e = .returned (.bool true) ∧ Below w.heap.size w w' := by
  have hl0 : RdL (· < w.heap.size) encO 2 w v l := hl.old (by decide)
  have hnew := new_any w
  obtain ⟨A, cap, rfl, hlc, hc, hA0⟩ := RdL.form encO_len hl0
  have HA0 := Lib.hid hA0
  clear hA0
  have HL := Lib.hid hl0
  have HN := Lib.hid hnew
  clear hl hl0 hnew
  go_enter Try.func3, Try.ntmps3
  go_upto_region 3 with (go_at_call 4; refine HN.out.mono ?_; rintro e w1 ⟨ph, pc, pm, rfl, hb1, H1⟩; have HH1 := Lib.hid H1; have HB1 := Lib.hid hb1; clear H1 hb1)
  have hN0 : Next w (w1.alloc (.cells #[.slice none 0 0, .slice none 0 0, .int .i64 0] tMd)) ph pc pm w1.heap.size 0 := by
    have hb2 : Below w1.heap.size w1 (w1.alloc (.cells #[.slice none 0 0, .slice none 0 0, .int .i64 0] tMd)) := (Below.refl _ w1).alloc (Nat.le_refl _) _
    have hbk : ∀ i, bk i ([] : List (Int × Nat)) = [] := fun i => by unfold bk; split <;> simp
    refine ⟨_, .slice none 0 0, .slice none 0 0, .slice none 0 0, .slice none 0 0, [], 0, [], [], [], [], .slice none 0 0, .slice none 0 0, outside (HH1.out.fewer (tl' := tlOf [] []) fun i q hq => by unfold tlOf at hq; rw [if_pos (hbk i)] at hq; cases hq) (Mod.of_below _ hb2), ⟨fun p hp => (by cases hp), by simp, List.Perm.refl _, by simp [lvs, keep]⟩, ⟨rfl, fun i p hp => (by rw [hbk] at hp; cases hp)⟩, Nat.zero_le _, Nat.le_refl _, Nat.le_refl _, Nat.le_refl _, heap_alloc_new w1 _, tint_new (Nat.le_refl _), ⟨?_, ?_⟩, then_below HB1.out hb2 HB1.out.size, fun b hb => ?_, HB1.out.size⟩
    · exact Rd.nil _ _ _
    · exact Rd.nil _ _ _
    · rw [tint_old (Nat.lt_of_lt_of_le hb HB1.out.size)]
      exact if_neg (by omega)
  generalize hgM : w1.heap.size = gM at *
  generalize World.alloc w1 _ = w2 at *
  have HN0 := Lib.hid hN0
  clear hN0 hgM
  go_cut [17, 18, 19] (fun s17 s18 s19 wx => ∃ M : Nat, M ≤ 150 ∧ M ≤ l.length ∧ s17 = .slice A M cap ∧ s18 = .int .i64 M ∧ s19 = .int .i64 0 ∧ wx = w2)
  case first =>
    by_cases hbig : (150 : Int) < (l.length : Int)
    · have hbig2 : (150 : Int) ≤ (l.length : Int) := by omega
      have hb3 : 150 ≤ cap := by omega
      go_wp2
      go_meet
      case rel => exact ⟨150, by omega, by omega, rfl, rfl, rfl, rfl⟩
    · go_wp2
      go_meet
      case rel => exact ⟨l.length, by omega, by omega, rfl, rfl, rfl, rfl⟩
  case rest =>
    obtain ⟨M, hM1, hM2, rfl, rfl, rfl, rfl⟩ := hcut
    go_wp2
    go_loopw [19] (fun ii wr => ∃ k : Nat, k ≤ M ∧ ii = .int .i64 k ∧ Next w wr ph pc pm gM k) (fun ii _ => M - (intOf ii).toNat)
    case atStart => exact ⟨0, Nat.zero_le _, rfl, HN0.out⟩
    case round =>
      clear HN0
      obtain ⟨k, hk, rfl, N⟩ := hrel
      have HNX := Lib.hid N
      clear N
      by_cases hlt : k < M
      · obtain ⟨b, off, rfl, hbl, hcell⟩ := HA0.out (by omega)
        have hbw : Below w.heap.size w wr := by
          obtain ⟨C, bv, av, tv, lvv, L, work, alive, lv, ts, m, lvM, avM, H, W, V, hts, hL, hA, hW, hg, hcg, hmd, hb0, hc0, hgM⟩ := HNX.out
          exact hb0
        have y0 := (hbw.cell (p := ⟨b, off + k * 2 + 0, none⟩) hbl).trans (hcell k (by omega) 0 (by decide))
        have y1 := (hbw.cell (p := ⟨b, off + k * 2 + 1, none⟩) hbl).trans (hcell k (by omega) 1 (by decide))
        generalize l[k] = q at *
        obtain ⟨d, x⟩ := q
        simp only [encO, Nat.add_zero, List.getD_cons_zero, List.getD_cons_succ] at y0 y1
        have hkv : (k : Int) < (M : Int) := by omega
        clear hcell
        go_upto_if 24 with (fail)
        have hb2 : Below wr.heap.size wr (wr.alloc (.cells #[.bool d, .int .i64 x] tOp)) := (Below.refl _ wr).alloc (Nat.le_refl _) _
        have hx2 := heap_alloc_new wr (.cells (#[.bool d, .int .i64 x] : Array Value) tOp)
        have N2 := next_open HNX.out hb2
        generalize hgo : wr.heap.size = go at *
        generalize World.alloc wr _ = w2 at *
        have x1 : w2.cell? ⟨go, 1, none⟩ = some (.int .i64 x) := by simp [World.cell?, hx2]
        obtain ⟨C, bv, av, tv, lvv, L, work, alive, lv, ts, m, lvM, avM, H, W, V, hts, hL, hA, hW, hg, hcg, hmd, hb0, hc0, hgM, hnew0⟩ := N2
        obtain ⟨Am, cm, Bm, dm, rfl, rfl, _⟩ := hmd.form
        have hcgo : C go = 0 := hnew0 go (Nat.le_refl _)
        have hgl : gM < w2.heap.size := (Array.getElem?_eq_some_iff.1 hg).1
        have hgol : go < w2.heap.size := (Array.getElem?_eq_some_iff.1 hx2).1
        -- what a call of the half leaves of the model and of the operation
        have hkeep : ∀ w3, Mod (fun b => C b ≠ 0) w2 w3 → w3.heap[gM]? = some (.cells #[.slice Am (toP L alive).length cm, .slice Bm (toP L alive).length dm, .int .i64 work] tMd (0, 0)) ∧ w3.cell? ⟨go, 1, none⟩ = some (.int .i64 x) ∧ Below w.heap.size w w3 := fun w3 hm =>
          ⟨(hm.block gM hgl (fun e => e hcg)).trans hg, (World.cell?_of_block (a := ⟨go, 1, none⟩) (hm.block go hgol (fun e => e hcgo))).trans x1, hb0.trans (hm.below hb0.size fun b hb e => e (hc0 b hb))⟩
        have HK := Lib.hid hkeep
        have HG := Lib.hid hg
        have HMD := Lib.hid hmd
        have HH := Lib.hid H
        have HW := Lib.hid W
        have HV := Lib.hid V
        have HB := Lib.hid hb0
        have HC0 := Lib.hid hc0
        have HCG := Lib.hid hcg
        clear hx2 hb2 y0 y1 hbw hkeep hg hmd H W V hb0 hc0 hnew0 hcgo hcg hgo HNX
        have hPl : (toP L alive).length ≤ 400000 := by rw [toP_length]; omega
        have m0 : w2.cell? ⟨gM, 0, none⟩ = some (.slice Am (toP L alive).length cm) := by have := HG.out; simp [World.cell?, this]
        have m1 : w2.cell? ⟨gM, 1, none⟩ = some (.slice Bm (toP L alive).length dm) := by have := HG.out; simp [World.cell?, this]
        have m2 : w2.cell? ⟨gM, 2, none⟩ = some (.int .i64 work) := by have := HG.out; simp [World.cell?, this]
        have hw0 : (0 : Int) ≤ (work : Int) := by omega
        have hkm : k ≤ 150 := by omega
        go_cut [7, 8, 9, 10] (fun s7 s8 s9 s10 wx => ∃ (n : Int) (d : Bool), s7 = .int .i64 n ∧ s8 = .int .i64 n ∧ s9 = .bool d ∧ s10 = .bool d ∧ Next w wx ph pc pm gM (k + 1))
        case first =>
          by_cases hx : x ∈ lvs alive L
          · cases d
            · have hadd := HalfI.add_no HH.out HW.out hx
              have hmadd := Ref22.add_no HMD.out work x hPl (mem_toP.2 hx)
              have HADD := Lib.hid hadd
              have HMA := Lib.hid hmadd
              clear hadd hmadd
              go_wp2_with (first | (go_at_call 9; refine HADD.out.mono ?_; rintro e w' ⟨rfl, rfl⟩) | (go_at_call 10; refine HMA.out.mono ?_; rintro e w4 ⟨rfl, hb4⟩; (have hg4 := (hb4.block gM hgl).trans HG.out); (have n0 : w4.cell? ⟨gM, 0, none⟩ = some (.slice Am (toP L alive).length cm) := (by (simp [World.cell?, hg4]))); (have n1 : w4.cell? ⟨gM, 1, none⟩ = some (.slice Bm (toP L alive).length dm) := (by (simp [World.cell?, hg4]))); (have n2 : w4.cell? ⟨gM, 2, none⟩ = some (.int .i64 work) := (by (simp [World.cell?, hg4]))); (have nf : ∀ j, w4.frozen? ⟨gM, j, none⟩ = false := (fun j => by (simp [World.frozen?, hg4]))); have HB4 := Lib.hid hb4; clear hb4 hg4))
              have hnext := next_step (w1 := w2) (w2 := w4) HH.out HW.out HV.out hts (show L.length ≤ k + 1 by omega) (show alive.length ≤ k + 1 by omega) (show work ≤ 1000 * (k + 1) by omega) HG.out rfl HCG.out HB4.out (md_old HMD.out HB4.out) HB.out HC0.out hgM
              generalize World.setCell _ _ _ = w5 at *
              go_meet
              case rel => exact ⟨_, _, rfl, rfl, rfl, rfl, hnext⟩
            · obtain ⟨p0, hp0, hp1⟩ := List.mem_map.1 hx
              obtain ⟨x', k0⟩ := p0
              simp only at hp1
              subst hp1
              have hdrop := HalfI.drop_yes HH.out HW.out HV.out hp0 hts (by omega) (by omega) (by omega)
              have HADD := Lib.hid hdrop
              have HP0 := Lib.hid hp0
              have HX := Lib.hid hx
              clear hdrop hp0 hx
              obtain ⟨n, hn⟩ : ∃ n, n = dropN L (alive.set k0 false) := ⟨_, rfl⟩
              have hnl : n ≤ k := by
                rw [hn]; unfold dropN; split
                · exact Nat.le_trans (Nat.le_trans (Nat.le_of_eq (List.length_map _)) (List.length_filter_le _ _)) hL
                · omega
              have hLl : (dropL L (alive.set k0 false)).length ≤ k := by
                unfold dropL; split
                · exact Nat.le_trans (List.length_filter_le _ _) hL
                · exact hL
              have HNN := Lib.hid hn
              rw [← hn] at HADD
              clear hn
              go_wp2_with (first | (go_at_call 7; refine HADD.out.mono ?_; rintro e w3 ⟨rfl, C3, bv3, tv3, lv3, ts3, m3, H3, W3, V3, ht3⟩; (obtain ⟨hg3, x3, hb3⟩ := HK.out w3 H3.mod); (have hmd3 := md_after HMD.out H3.mod H3.ext); (have hma := Ref22.drop_yes hmd3 work x' hPl (mem_toP.2 HX.out) (by omega) (by omega)); (have q0 : w3.cell? ⟨gM, 0, none⟩ = some (.slice Am (toP L alive).length cm) := (by (simp [World.cell?, hg3]))); (have q1 : w3.cell? ⟨gM, 1, none⟩ = some (.slice Bm (toP L alive).length dm) := (by (simp [World.cell?, hg3]))); (have q2 : w3.cell? ⟨gM, 2, none⟩ = some (.int .i64 work) := (by (simp [World.cell?, hg3]))); (have qf : ∀ j, w3.frozen? ⟨gM, j, none⟩ = false := (fun j => by (simp [World.frozen?, hg3]))); have HG3 := Lib.hid hg3; have HB3 := Lib.hid hb3; have HMD3 := Lib.hid hmd3; have HMA := Lib.hid hma; have HH3 := Lib.hid H3; have HW3 := Lib.hid W3; have HV3 := Lib.hid V3; clear hg3 hb3 hmd3 hma H3 W3 V3) | (go_at_call 8; refine HMA.out.mono ?_; rintro e w4 ⟨i4, lv4, av4, Q4, n4, wk4, hi4, rfl, hd4, hmd4, hb4⟩; (have hgl3 : gM < w3.heap.size := (Array.getElem?_eq_some_iff.1 HG3.out).1); (have hg4 := (hb4.block gM hgl3).trans HG3.out); (have n0 : w4.cell? ⟨gM, 0, none⟩ = some (.slice Am (toP L alive).length cm) := (by (simp [World.cell?, hg4]))); (have n1 : w4.cell? ⟨gM, 1, none⟩ = some (.slice Bm (toP L alive).length dm) := (by (simp [World.cell?, hg4]))); (have n2 : w4.cell? ⟨gM, 2, none⟩ = some (.int .i64 work) := (by (simp [World.cell?, hg4]))); (have nf : ∀ j, w4.frozen? ⟨gM, j, none⟩ = false := (fun j => by (simp [World.frozen?, hg4]))); (obtain ⟨hQ4, hn4, hwk4⟩ := dropped_toP HW.out HP0.out hi4 hd4); (rw [← HNN.out] at hn4); subst hn4; subst hwk4; subst hQ4; (obtain ⟨A4, c4, B4, d4, rfl, rfl, _⟩ := hmd4.form); have HB4 := Lib.hid hb4; have HMD4 := Lib.hid hmd4; clear hb4 hmd4 hg4 hi4 hd4))
              have hnext := next_step (k := k + 1) (w1 := w3) (w2 := w4) HH3.out HW3.out HV3.out ht3 (by omega) (by rw [List.length_set]; omega) (by omega) HG3.out rfl ((HH3.out.ext gM hgl).trans HCG.out) HB4.out HMD4.out HB3.out (fun b hb => (HH3.out.ext b (Nat.lt_of_lt_of_le hb HB.out.size)).trans (HC0.out b hb)) hgM
              rw [Int.natCast_add] at hnext
              generalize World.setCell _ _ _ = w5 at *
              go_meet
              case rel => exact ⟨_, _, rfl, rfl, rfl, rfl, hnext⟩
          · cases d
            · obtain ⟨P0, hP0⟩ : ∃ P0, P0 = 2 ^ t1 L.length := ⟨_, rfl⟩
              have hP0l : P0 ≤ k + 1 := by rw [hP0]; have := Ref20.t1_pow_le L.length; omega
              have hadd := HalfI.add_yes HH.out HW.out HV.out hx hts (by omega) (by omega) (by omega)
              rw [← hP0] at hadd
              have HADD := Lib.hid hadd
              have HX := Lib.hid hx
              have HP0 := Lib.hid hP0
              clear hadd hx hP0
              go_wp2_with (first | (go_at_call 9; refine HADD.out.mono ?_; rintro e w3 ⟨rfl, C3, bv3, av3, tv3, lvv3, lv3, ts3, m3, H3, W3, V3, ht3⟩; (obtain ⟨hg3, x3, hb3⟩ := HK.out w3 H3.mod); (have hmd3 := md_after HMD.out H3.mod H3.ext); (have hma := Ref22.add_yes hmd3 work x hPl (fun e => HX.out (mem_toP.1 e)) (by omega) (by omega) P0 (by (rw [toP_length]; exact HP0.out))); (have q0 : w3.cell? ⟨gM, 0, none⟩ = some (.slice Am (toP L alive).length cm) := (by (simp [World.cell?, hg3]))); (have q1 : w3.cell? ⟨gM, 1, none⟩ = some (.slice Bm (toP L alive).length dm) := (by (simp [World.cell?, hg3]))); (have q2 : w3.cell? ⟨gM, 2, none⟩ = some (.int .i64 work) := (by (simp [World.cell?, hg3]))); (have qf : ∀ j, w3.frozen? ⟨gM, j, none⟩ = false := (fun j => by (simp [World.frozen?, hg3]))); have HG3 := Lib.hid hg3; have HB3 := Lib.hid hb3; have HMD3 := Lib.hid hmd3; have HMA := Lib.hid hma; have HH3 := Lib.hid H3; have HW3 := Lib.hid W3; have HV3 := Lib.hid V3; clear hg3 hb3 hmd3 hma H3 W3 V3) | (go_at_call 10; refine HMA.out.mono ?_; rintro e w4 ⟨lv4, av4, rfl, hmd4, hb4⟩; (have hgl3 : gM < w3.heap.size := (Array.getElem?_eq_some_iff.1 HG3.out).1); (have hg4 := (hb4.block gM hgl3).trans HG3.out); (have n0 : w4.cell? ⟨gM, 0, none⟩ = some (.slice Am (toP L alive).length cm) := (by (simp [World.cell?, hg4]))); (have n1 : w4.cell? ⟨gM, 1, none⟩ = some (.slice Bm (toP L alive).length dm) := (by (simp [World.cell?, hg4]))); (have n2 : w4.cell? ⟨gM, 2, none⟩ = some (.int .i64 work) := (by (simp [World.cell?, hg4]))); (have nf : ∀ j, w4.frozen? ⟨gM, j, none⟩ = false := (fun j => by (simp [World.frozen?, hg4]))); (rw [← toP_add HW.out x] at hmd4); (obtain ⟨A4, c4, B4, d4, rfl, rfl, _⟩ := hmd4.form); have HB4 := Lib.hid hb4; have HMD4 := Lib.hid hmd4; clear hb4 hmd4 hg4))
              have hnext := next_step (k := k + 1) (w1 := w3) (w2 := w4) HH3.out HW3.out HV3.out ht3 (by rw [List.length_append, List.length_singleton]; omega) (by rw [List.length_append, List.length_singleton]; omega) (by omega) HG3.out rfl ((HH3.out.ext gM hgl).trans HCG.out) HB4.out (Md.mono' HMD4.out fun _ _ hc => .inr hc) HB3.out (fun b hb => (HH3.out.ext b (Nat.lt_of_lt_of_le hb HB.out.size)).trans (HC0.out b hb)) hgM
              rw [Int.natCast_add] at hnext
              generalize World.setCell _ _ _ = w5 at *
              go_meet
              case rel => exact ⟨_, _, rfl, rfl, rfl, rfl, hnext⟩
            · have hadd := HalfI.drop_no HH.out HW.out hx
              have hmadd := Ref22.drop_no HMD.out work x hPl (fun e => hx (mem_toP.1 e))
              have HADD := Lib.hid hadd
              have HMA := Lib.hid hmadd
              clear hadd hmadd
              go_wp2_with (first | (go_at_call 7; refine HADD.out.mono ?_; rintro e w' ⟨rfl, rfl⟩) | (go_at_call 8; refine HMA.out.mono ?_; rintro e w4 ⟨rfl, hb4⟩; (have hg4 := (hb4.block gM hgl).trans HG.out); (have n0 : w4.cell? ⟨gM, 0, none⟩ = some (.slice Am (toP L alive).length cm) := (by (simp [World.cell?, hg4]))); (have n1 : w4.cell? ⟨gM, 1, none⟩ = some (.slice Bm (toP L alive).length dm) := (by (simp [World.cell?, hg4]))); (have n2 : w4.cell? ⟨gM, 2, none⟩ = some (.int .i64 work) := (by (simp [World.cell?, hg4]))); (have nf : ∀ j, w4.frozen? ⟨gM, j, none⟩ = false := (fun j => by (simp [World.frozen?, hg4]))); have HB4 := Lib.hid hb4; clear hb4 hg4))
              have hnext := next_step (w1 := w2) (w2 := w4) HH.out HW.out HV.out hts (show L.length ≤ k + 1 by omega) (show alive.length ≤ k + 1 by omega) (show work ≤ 1000 * (k + 1) by omega) HG.out rfl HCG.out HB4.out (md_old HMD.out HB4.out) HB.out HC0.out hgM
              generalize World.setCell _ _ _ = w5 at *
              go_meet
              case rel => exact ⟨_, _, rfl, rfl, rfl, rfl, hnext⟩
        case rest =>
          clear HK HG HMD HH HW HV HB HC0 HCG m0 m1 m2 x1
          obtain ⟨n, dd, rfl, rfl, rfl, rfl, N3⟩ := hcut
          have HN3 := Lib.hid N3
          clear N3
          obtain ⟨C, bv, av, tv, lvv, L, work, alive, lv, ts, m, lvM, avM, H, W, V, hts, hL, hA, hW, hg, hcg, hmd, hb0, hc0, hgM, _⟩ := next_open HN3.out (Below.refl _ _)
          obtain ⟨Am, cm, Bm, dm, rfl, rfl, _⟩ := hmd.form
          have hal := Ref22.all_any hmd work (by rw [toP_length]; omega)
          rw [mAll_toP] at hal
          have hgl : gM < wc.heap.size := (Array.getElem?_eq_some_iff.1 hg).1
          rw [toP_length] at hg hal hmd
          have m0 : wc.cell? ⟨gM, 0, none⟩ = some (.slice Am L.length cm) := by simp [World.cell?, hg]
          have m1 : wc.cell? ⟨gM, 1, none⟩ = some (.slice Bm L.length dm) := by simp [World.cell?, hg]
          have m2 : wc.cell? ⟨gM, 2, none⟩ = some (.int .i64 work) := by simp [World.cell?, hg]
          have HAL := Lib.hid hal
          have HG := Lib.hid hg
          have HMD := Lib.hid hmd
          have HH := Lib.hid H
          have HW := Lib.hid W
          have hal2 : (lvs alive L).length ≤ 150 := Nat.le_trans (Nat.le_of_eq (List.length_map _)) (Nat.le_trans (List.length_filter_le _ _) (by omega))
          have hlen0 := W.len
          have hnum := W.num
          obtain ⟨R0, hR0⟩ : ∃ R0, R0 = lvs alive L := ⟨_, rfl⟩
          rw [← hR0] at hal2 hlen0 HAL
          have HR0 := Lib.hid hR0
          have HL0 := Lib.hid hlen0
          have HNU := Lib.hid hnum
          clear hal hg hmd H W V hcg hc0 hb0 hR0 hlen0 hnum
          go_upto_region 14 with (go_at_call 11; refine HAL.out.mono ?_; rintro e w5 ⟨v5, rfl, o5, ob5, hb5⟩; obtain ⟨A5, c5, rfl⟩ := o5.slice; (have hg5 := (hb5.block gM hgl).trans HG.out); (have p0 : w5.cell? ⟨gM, 0, none⟩ = some (.slice Am L.length cm) := (by (simp [World.cell?, hg5]))); (have p1 : w5.cell? ⟨gM, 1, none⟩ = some (.slice Bm L.length dm) := (by (simp [World.cell?, hg5]))); (have p2 : w5.cell? ⟨gM, 2, none⟩ = some (.int .i64 work) := (by (simp [World.cell?, hg5]))); have HO5 := Lib.hid o5; have HB5 := Lib.hid hb5; have HG5 := Lib.hid hg5; clear o5 ob5 hb5 hg5)
          have hgl5 : gM < w5.heap.size := (Array.getElem?_eq_some_iff.1 HG5.out).1
          have H5 := (HH.out.below HB5.out 0).drewN 1
          have hlen := HalfI.len_any (w := w5.drew) H5
          rw [HL0.out] at hlen
          have hsto := HalfI.stored_any (w := w5.drew) H5
          have hwor := HalfI.work_any (w := w5.drew) H5
          have hall := HalfI.all_any (w := w5.drew) H5 HNU.out
          rw [← HR0.out] at hall
          have HLEN := Lib.hid hlen
          have HSTO := Lib.hid hsto
          have HWOR := Lib.hid hwor
          have HALL := Lib.hid hall
          have HH5 := Lib.hid H5
          clear hlen hsto hwor hall H5 m0 m1 m2
          go_region_held3 (fun w' => w'.cell? ⟨gM, 0, none⟩ = some (.slice Am L.length cm) ∧ w'.cell? ⟨gM, 1, none⟩ = some (.slice Bm L.length dm) ∧ w'.cell? ⟨gM, 2, none⟩ = some (.int .i64 work))
            (first | go_keep)
            ((first
              | (go_at_call 12; refine HLEN.out.mono ?_; rintro e w' ⟨rfl, rfl⟩)
              | (go_at_call 13; refine HSTO.out.mono ?_; rintro e w' ⟨rfl, rfl⟩)
              | (go_at_call 14; refine HWOR.out.mono ?_; rintro e w' ⟨rfl, rfl⟩)
              | (go_at_call 16; refine HALL.out.mono ?_; rintro e w6 ⟨v6, rfl, o6, ob6, hb6⟩; (have hg6 := (hb6.block gM hgl5).trans HG5.out); (have q0 : w6.cell? ⟨gM, 0, none⟩ = some (.slice Am L.length cm) := (by (simp [World.cell?, hg6]))); (have q1 : w6.cell? ⟨gM, 1, none⟩ = some (.slice Bm L.length dm) := (by (simp [World.cell?, hg6]))); (have q2 : w6.cell? ⟨gM, 2, none⟩ = some (.int .i64 work) := (by (simp [World.cell?, hg6]))); (have hsm := Law22T.same_true (w := w6) (Law22T.rd_of_own (by (rw [← Law22.flatI]; exact o6))) (Law22T.rd_of_own (HO5.out.below (w' := w6) ⟨hb6.os, hb6.tape, hb6.output, hb6.size, hb6.block⟩))); (obtain ⟨A6, c6, rfl⟩ := o6.slice); have HSM := Lib.hid hsm; have HB6 := Lib.hid hb6; (have hb56 : Below wc.heap.size wc w6 := then_below HB5.out (w6b hb6) HB5.out.size); have HB56 := Lib.hid hb56; clear hb56; (have hgl6 : gM < w6.heap.size := (Array.getElem?_eq_some_iff.1 hg6).1); have HG6 := Lib.hid hg6; clear hsm o6 ob6 hb6 hg6)
              | (go_at_call 15; refine HSM.out.mono ?_; rintro e w7 ⟨rfl, n7, rfl⟩; (have hmt := Ref22.trees_any (w := w6.drewN n7) (HMD.out.old.below' (drewN_below HB56.out n7)) work (by (rw [toP_length]; omega))); have HMT := Lib.hid hmt; clear hmt)
              | (go_at_call 18; refine HMT.out.mono ?_; rintro e w8 ⟨v8, vs8, rfl, hb8, R8, hv8⟩; (have hg8 := (hb8.block gM hgl6).trans HG6.out); (have r0 : w8.cell? ⟨gM, 0, none⟩ = some (.slice Am L.length cm) := (by (simp [World.cell?, hg8]))); (have r1 : w8.cell? ⟨gM, 1, none⟩ = some (.slice Bm L.length dm) := (by (simp [World.cell?, hg8]))); (have r2 : w8.cell? ⟨gM, 2, none⟩ = some (.int .i64 work) := (by (simp [World.cell?, hg8]))); (have htt := Law22T.trees_true (((HH5.out.below HB6.out 0).drewN n7).below hb8 0) (by omega) R8 (by (rw [hv8, mTrees_toP L alive ts, List.length_map])) (fun i hi => by (rw [mTrees_toP L alive ts]; simp [hi]))); (obtain ⟨A8, c8, rfl⟩ := R8.own.slice); have HTT := Lib.hid htt; (have hb58 := then_below (drewN_below HB56.out n7) hb8 (drewN_below HB56.out n7).size); have HB58 := Lib.hid hb58; have HG8 := Lib.hid hg8; (have hgl8 : gM < w8.heap.size := (Array.getElem?_eq_some_iff.1 hg8).1); clear htt hb58 hg8 hb8 R8 hv8)
              | (go_at_call 17; refine HTT.out.mono ?_; rintro e w9 ⟨rfl, hb9⟩; (have hg9 := (hb9.block gM hgl8).trans HG8.out); (have t0 : w9.cell? ⟨gM, 0, none⟩ = some (.slice Am L.length cm) := (by (simp [World.cell?, hg9]))); (have t1 : w9.cell? ⟨gM, 1, none⟩ = some (.slice Bm L.length dm) := (by (simp [World.cell?, hg9]))); (have t2 : w9.cell? ⟨gM, 2, none⟩ = some (.int .i64 work) := (by (simp [World.cell?, hg9]))); (have hb59 := then_below HB58.out hb9 HB58.out.size); have HB59 := Lib.hid hb59; clear hb59 hb9 hg9)))
          go_wp2
          have hfin := next_below HN3.out HB59.out
          go_roundw
          case rel =>
            exact ⟨k + 1, by omega, by go_num, hfin⟩
          case measure => simp [intOf]; omega
      · have hke : k = M := by omega
        subst hke
        obtain ⟨C, bv, av, tv, lvv, L, work, alive, lv, ts, m, lvM, avM, H, W, V, hts, hL, hA, hW, hg, hcg, hmd, hb0, hc0, hgM⟩ := HNX.out
        have HB0 := Lib.hid hb0
        clear H W V hts hL hA hW hg hcg hmd hb0 hc0 hgM
        go_wp2_with (go_at_call 19; refine (hawake _).mono ?_; rintro e w5 ⟨rfl, hb5⟩; have HB5 := Lib.hid hb5; clear hb5)
        go_ret
        exact ⟨rfl, then_below HB0.out HB5.out HB0.out.size⟩
end Go.Proofs.Ytecbheeffmhlnaa.Tells
