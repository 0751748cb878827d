/- carry.Set at one element type. -/
import Derived.Test.YtecbheeffmhlnaaCarryI
namespace Go.Proofs.Ytecbheeffmhlnaa.CarryI
open Go.RowKit Go.Proofs.Ytecbheeffmhlnaa Go.Proofs.Ytecbheeffmhlnaa.Pl

theorem step_pos {n k z : Nat} (hz : z = 2 ^ k) (hb : n / 2 ^ k % 2 = 1) : n / 2 ^ (k + 1) * 2 ^ (k + 1) + z ≤ n ∧ n / 2 ^ k * 2 ^ k = n / 2 ^ (k + 1) * 2 ^ (k + 1) + z := by
  have h1 := bs_step n k
  have h2 := bs_room hb
  unfold bs at h1 h2
  rw [hb, Nat.one_mul] at h1
  rw [hz]
  exact ⟨h2, h1.symm⟩
theorem step_neg {n k : Nat} (hb : ¬ n / 2 ^ k % 2 = 1) : n / 2 ^ k * 2 ^ k = n / 2 ^ (k + 1) * 2 ^ (k + 1) := by
  have h1 := bs_step n k
  unfold bs at h1
  rw [show n / 2 ^ k % 2 = 0 by omega, Nat.zero_mul, Nat.add_zero] at h1
  exact h1.symm
theorem bk_take {l : List El} {k z : Nat} (hz : z = 2 ^ k) (hb : l.length / 2 ^ k % 2 = 1) : bk k l = (l.drop (l.length / 2 ^ (k + 1) * 2 ^ (k + 1))).take z := by unfold bk bs; rw [if_pos hb, hz]
theorem bk_nil {l : List El} {k : Nat} (hb : ¬ l.length / 2 ^ k % 2 = 1) : bk k l = [] := by unfold bk; rw [if_neg hb]
theorem ne_zero_of_pos {z : Nat} (h : 0 < z) : ((z : Int) != 0) = true := by simp; omega

set_option maxRecDepth 100000 in
set_option maxHeartbeats 4000000 in
theorem set_any {F : Nat → Prop} {w : World} {c : Nat} {bv lv : Value} {L l : List El} {work : Nat} (h : At F w c bv L work) (hl : Own w tE K lv l.length (flat enc l)) (hln : l.length ≤ 1000000) (hW : work < 1000000000000) :
    Calls Try.prog 33 #[.pointer (some ⟨c, 0, none⟩), lv] w fun e w' => ∃ bv', e = .returned (.int .i64 l.length) ∧ At (fun b => b = c ∨ w.heap.size ≤ b) w' c bv' l (work + l.length) ∧ OB bv' (w.heap.size ≤ ·) ∧ Mod (· = c) w w' := by
  have hc : c < w.heap.size := (Array.getElem?_eq_some_iff.1 h.2.1).1
  have hne : OB lv (· ≠ c) := own_ne hl h.2.1 (by decide)
  obtain ⟨c0, c1, c2, c3⟩ := h.cell
  have hblk := h.2.1
  have f1 : w.frozen? ⟨c, 1, none⟩ = false := by simp [World.frozen?, h.2.1]
  have f2 : w.frozen? ⟨c, 2, none⟩ = false := by simp [World.frozen?, h.2.1]
  clear h
  have M0 : Mid (fun _ => False) w ((w.setCell ⟨c, 1, none⟩ (.slice none 0 0)).setCell ⟨c, 2, none⟩ (.int .i64 l.length)) c (.slice none 0 0) (.slice none 0 0) l.length work (fun _ => []) [] := by
    refine ⟨hc, ((Mod.refl _ w).setCell (fun _ => .inl rfl) _).setCell (fun _ => .inl rfl) _, ?_, Own.nil _ _ _, OB.nil _, fun i hi => by simp at hi, fun i hi => by simp at hi⟩
    simp [World.setCell, Array.getElem?_modify, hblk]
  have HM0 := Lib.hid M0
  have hl1 : Own ((w.setCell ⟨c, 1, none⟩ (.slice none 0 0)).setCell ⟨c, 2, none⟩ (.int .i64 l.length)) tE K lv l.length (flat enc l) :=
    hl.keep fun g hg => by rw [Below.heap_setCell _ _ _ _ (hne g hg), Below.heap_setCell _ _ _ _ (hne g hg)]
  have hlw := hl.lt
  obtain ⟨A, cp, rfl⟩ := hl.slice
  clear M0 hl hblk
  go_enter Try.func33, Try.ntmps33
  go_wp2_with fail
  refine (none_any c0).mono ?_
  rintro e w' ⟨rfl, rfl⟩
  go_upto_block 0 with (fail)
  generalize World.setCell (World.setCell w _ _) _ _ = w1 at *
  have HL1 := Lib.hid hl1
  clear hl1 c0 c1 c2 c3 f1 f2
  have hsz1 := HM0.out.mod.size
  go_cut [5] (fun _ wx => ∃ bv1 vs, Mid (fun _ => False) w wx c (.slice none 0 0) bv1 l.length work (fun _ => []) vs ∧ vs.length = bl l.length ∧ Own wx tE K (.slice A l.length cp) l.length (flat enc l))
  case first =>
    go_wp2
    go_loopw [5] (fun n wr => ∃ (j m : Nat) (bv1 : Value) (vs : List Value), n = .int .i64 m ∧ m ≤ 1000000 ∧ vs.length + bl m = bl l.length ∧ Mid (fun _ => False) w wr c (.slice none 0 0) bv1 l.length work (fun _ => []) vs ∧ Own wr tE K (.slice A l.length cp) l.length (flat enc l)) (fun n _ => (intOf n).toNat)
    case atStart => exact ⟨0, l.length, _, [], rfl, hln, by simp, HM0.out, HL1.out⟩
    case round =>
      obtain ⟨j, m, bv1, vs, rfl, hm, hvl, M, hl⟩ := hrel
      rcases Nat.eq_zero_or_pos m with rfl | hmp
      · go_wp2
        go_meet
        case rel => exact ⟨bv1, vs, M, by rw [bl_zero] at hvl; omega, hl⟩
      · have HM := Lib.hid M
        have HV := Lib.hid hvl
        have HL := Lib.hid hl
        have hbl : vs.length ≤ 20 := by
          have : bl l.length ≤ 20 := bl_le_of_lt (by omega)
          omega
        obtain ⟨q0, q1, q2, q3, qf⟩ := M.cs
        obtain ⟨A1, cp1, rfl⟩ := M.own.slice
        clear M hvl hl
        go_wp2_with (at_builtin; refine wpList_app1 etyB rfl _ _ rfl #[.slice none 0 0] HM.out.own rfl rfl rfl (by simp [Value.oneCell']) (by omega) ?_; intro g' c' w2 ho hg hob; have hp := HM.out.push hg ho (OB.some_iff.2 hob) rfl; have hq0 := hp.1.trans HM.out.blk; (have hq1 : w2.cell? ⟨c, 1, none⟩ = some (.slice A1 vs.length cp1) := by (simp [World.cell?, hq0])); (have hq2 : w2.frozen? ⟨c, 1, none⟩ = false := by (simp [World.frozen?, hq0])); (have hl2 := HL.out.grown hg (fun g hg e => own_ne' HL.out HM.out.own (by decide) g hg e.symm)); (have hl3 := hl2.keep (w' := w2.setCell ⟨c, 1, none⟩ (.slice (some ⟨g', 0, none⟩) (vs.length + 1) c')) (fun g hg => Below.heap_setCell _ _ _ _ (hne g hg))); clear hl2 hq0; have HP := Lib.hid hp; clear hp; have HG := Lib.hid hg; clear hg; have HL3 := Lib.hid hl3; clear hl3; have HO := Lib.hid ho; clear ho)
        refine ⟨⟨0, m / 2, _, vs ++ [.slice none 0 0], congrArg (Value.int IntKind.i64) (by omega), by omega, ?_, HP.out.2, HL3.out⟩, by simp [intOf]; omega⟩
        have := HV.out
        rw [bl_pos hmp] at this
        rw [List.length_append, List.length_singleton]; omega
  case rest =>
    obtain ⟨bv1, vs, M, hvl, hl⟩ := hcut
    obtain ⟨A1, cp1, rfl⟩ := M.own.slice
    have hbl : bl l.length ≤ 20 := bl_le_of_lt (by omega)
    obtain ⟨q0, q1, q2, q3, qf⟩ := M.cs
    have HM := Lib.hid M
    have HV := Lib.hid hvl
    have HL := Lib.hid hl
    have hvs20 : vs.length ≤ 20 := by omega
    clear M hvl hl
    go_wp2
    go_loopw [6, 7] (fun rest ii wr => ∃ (k : Nat) (vs2 : List Value), k ≤ vs2.length ∧ ii = .int .i64 ((k : Int) - 1) ∧ vs2.length = bl l.length ∧ Mid (fun _ => False) w wr c (.slice none 0 0) (.slice A1 vs2.length cp1) l.length work (fun i => if k ≤ i then bk i l else []) vs2 ∧
        Own wr tE K (.slice A l.length cp) l.length (flat enc l) ∧ RdL (fun g => (Value.slice A l.length cp).ownBlock = some g) enc K wr rest (l.drop (l.length / 2 ^ k * 2 ^ k))) (fun _ ii _ => (intOf ii + 1).toNat)
    case atStart =>
      refine ⟨vs.length, vs, Nat.le_refl _, rfl, HV.out, ?_, HL.out, ?_⟩
      · have hM := HM.out
        exact ⟨hM.hc, hM.mod, hM.blk, hM.own, hM.ob, fun i hi => by rw [if_neg (by omega)]; exact hM.bk i hi, hM.vob⟩
      · have : l.length / 2 ^ vs.length = 0 := by rw [HV.out]; exact Nat.div_eq_of_lt (lt_two_pow_bl _)
        rw [this, Nat.zero_mul, List.drop_zero]
        exact Own.rd HL.out (flat_one _) (fun _ h => h)
    case round =>
      obtain ⟨k, vs2, hk, rfl, hvl, M, hl, hrest⟩ := hrel
      obtain ⟨q0, q1, q2, q3, qf⟩ := M.cs
      have HM := Lib.hid M
      have HV := Lib.hid hvl
      have HL := Lib.hid hl
      have HR := Lib.hid hrest
      have hv20 : vs2.length ≤ 20 := by omega
      rcases Nat.eq_zero_or_pos k with rfl | hkp
      · have qf3 := qf 3
        clear M hvl hl hrest qf
        go_wp2
        go_ret
        have hM := HM.out.put 3 (.int .i64 ((work : Int) + (l.length : Int))) _ (l.length : Int) ((work : Int) + (l.length : Int)) vs2 rfl HM.out.ob HM.out.own HM.out.bk HM.out.vob
        refine ⟨_, rfl, ⟨hln, ?_, vs2, ?_, fun i hi => ?_, .inl rfl, hM.ob.mono (fun g hg => ?_), fun i hi => (hM.vob i hi).mono (fun g hg => hg.elim (fun h => h.elim) .inr)⟩, hM.ob.mono (fun g hg => ?_), hM.mod.mono (fun b _ hb => ?_)⟩
        · have := hM.blk
          rw [this]; simp
        · have := hM.own; rw [← HV.out]; exact this
        · have := hM.bk i hi; rw [if_pos (Nat.zero_le _)] at this; exact this
        · rcases hg with hg | hg
          · simp [Value.ownBlock] at hg
          · exact .inr hg
        · rcases hg with hg | hg
          · simp [Value.ownBlock] at hg
          · exact hg
        · rcases hb with hb | hb
          · exact hb
          · simp [Value.ownBlock] at hb
      · obtain ⟨k, rfl⟩ : ∃ k', k = k' + 1 := ⟨k - 1, by omega⟩
        have e1 : ((k + 1 : Nat) : Int) - 1 = k := by omega
        rw [e1]
        clear M hvl hl hrest qf
        obtain ⟨z, hz⟩ : ∃ z : Nat, z = 2 ^ k := ⟨_, rfl⟩
        have E1 := wrap_pow hz (by omega : k ≤ 20)
        have hzl : z ≤ 1048576 := by rw [hz]; exact Nat.le_trans (Nat.pow_le_pow_right (by decide) (by omega : k ≤ 20)) (by decide)
        have hzp : 0 < z := by rw [hz]; exact Nat.two_pow_pos k
        have E2 := and_pow hz hln (by omega : k ≤ 20)
        have hlo : (l.drop (l.length / 2 ^ (k + 1) * 2 ^ (k + 1))).length = l.length - l.length / 2 ^ (k + 1) * 2 ^ (k + 1) := List.length_drop
        by_cases hbit : l.length / 2 ^ k % 2 = 1
        · rw [if_pos hbit] at E2
          have E3 := ne_zero_of_pos hzp
          obtain ⟨hroom, hstep⟩ := step_pos hz hbit
          have hbk := bk_take hz hbit
          have HStep := Lib.hid hstep
          have hr := HR.out
          have HZ := Lib.hid hz
          clear hstep hz hbit HR
          generalize l.length / 2 ^ (k + 1) * 2 ^ (k + 1) = p at *
          have hzl2 : z ≤ (l.drop p).length := by omega
          have hdz : ((l.drop p).drop z).take ((l.drop p).length - z) = l.drop (p + z) := by rw [List.take_of_length_le (by rw [List.length_drop]; omega), List.drop_drop]
          have hbz : (bk k l).length = z := by rw [hbk, List.length_take]; omega
          clear hlo
          obtain ⟨A2, c2, hs1, hr1⟩ := run_slL etyS enc_len hr 0 z (Nat.zero_le _) hzl2 none (some (.int .i64 z)) (.inl ⟨rfl, rfl⟩) (.inr ⟨_, rfl⟩)
          obtain ⟨A3, c3, hs2, hr2⟩ := run_slL etyS enc_len hr z _ hzl2 (Nat.le_refl _) (some (.int .i64 z)) none (.inr ⟨_, rfl⟩) (.inl ⟨rfl, rfl⟩)
          simp only [Nat.sub_zero, List.drop_zero] at hs1 hr1
          rw [← hbk] at hr1
          rw [hdz] at hr2
          have HBZ := Lib.hid hbz
          clear hdz hbz
          obtain ⟨g1, rfl⟩ := HM.out.own.head (by omega)
          obtain ⟨u, hu⟩ : ∃ u, vs2[k]? = some u := ⟨_, List.getElem?_eq_getElem (by omega)⟩
          have hcell := World.ownsRow.cellAt HM.out.own k (by omega)
          rw [hu] at hcell
          have hfz := World.ownsRow.frozenAt HM.out.own k
          have n1 : c ≠ g1 := fun e => HM.out.bv1_ne g1 rfl e.symm
          have n1' := n1.symm
          have HR1 := Lib.hid hr1
          have HR2 := Lib.hid hr2
          have HB := Lib.hid hbk
          have HU := Lib.hid hu
          have hbl2 : (bk k l).length ≤ 1000000 := by rw [hbk, List.length_take, List.length_drop]; omega
          have hkl : (k : Int) < (vs2.length : Int) := by omega
          clear hr1 hr2 hbk hu hr
          go_upto_region 14 with (fail)
          go_region_held3 (fun w' => w'.cell? ⟨c, 1, none⟩ = some (.slice (some ⟨g1, 0, none⟩) vs2.length cp1))
            (first | go_keep)
            ((go_at_call 36; refine (clone_any (w := wr.drew) (l := bk k l) HR1.out hbl2).mono ?_; rintro e w1 ⟨v', rfl, ho, hob, hbe, _⟩; (have hm : Mod (fun _ => False) wr w1 := ⟨hbe.os, hbe.tape, hbe.output, hbe.size, fun i hi _ => hbe.block i hi⟩); have hM1 := HM.out.keep hm id (fun _ _ h => h) (fun _ _ _ _ h => h) (fun _ _ h => h.elim); obtain ⟨p0, p1, p2, p3, pf⟩ := hM1.cs; (have p4 : w1.cell? ⟨g1, k, none⟩ = some u := by (rw [World.ownsRow.cellAt hM1.own k (by omega), HU.out])); (have p5 : w1.frozen? ⟨g1, k, none⟩ = false := World.ownsRow.frozenAt hM1.own k); obtain ⟨A4, c4, rfl⟩ := ho.slice; have HM1 := Lib.hid hM1; clear hM1; have HMM := Lib.hid hm; clear hm; have HO := Lib.hid ho; clear ho; have HOB := Lib.hid hob; clear hob))
          have hv2 : k < vs2.length := by omega
          have hbuck : Buck w1 (.slice A4 (bk k l).length c4) (bk k l) := ⟨HO.out, fun h => by have := HBZ.out; rw [h] at this; simp at this; omega⟩
          have hM2 := HM1.out.set k _ _ hbuck (fun i => if k ≤ i then bk i l else []) (fun j hj => by
            by_cases h1 : j = k
            · subst h1; rw [if_pos rfl, if_pos (Nat.le_refl _)]
            · rw [if_neg h1]
              by_cases h2 : k + 1 ≤ j
              · rw [if_pos (by omega), if_pos h2]
              · rw [if_neg (by omega), if_neg h2]) hv2 (HOB.out.mono fun g hg => .inr (Nat.le_trans HM.out.mod.size hg))
          have hL1 := HL.out.mod HMM.out (fun _ _ h => h)
          have hne2 : OB (.slice A l.length cp) (· ≠ g1) := fun g hg e => own_ne' hL1 HM1.out.own (by decide) g hg (by rw [e]; rfl)
          have hL2 := hL1.keep (w' := w1.setCell ⟨g1, k, none⟩ (.slice A4 (bk k l).length c4)) (fun g hg => Below.heap_setCell _ _ _ _ (hne2 g hg))
          have hR3 := (HR2.out.mod (by decide) HMM.out (fun _ _ _ h => h)).keep (w' := w1.setCell ⟨g1, k, none⟩ (.slice A4 (bk k l).length c4)) (by decide) (fun b _ hb => Below.heap_setCell _ _ _ _ (hne2 b hb))
          have hlen : (vs2.set k (.slice A4 (bk k l).length c4)).length = vs2.length := List.length_set
          generalize World.setCell w1 _ _ = w3 at *
          generalize vs2.set k _ = vs3 at *
          have HM2 := Lib.hid hM2
          have HLEN := Lib.hid hlen
          have HL2 := Lib.hid hL2
          have HR3 := Lib.hid hR3
          clear hM2 hlen hL2 hR3 hbuck hL1 HM1 HR1 HR2
          go_wp2
          refine ⟨⟨k, vs3, by have := HLEN.out; omega, rfl, by rw [HLEN.out]; exact HV.out, HM2.out, HL2.out, ?_⟩, by simp [intOf]⟩
          rw [HStep.out, show l.length - p = (List.drop p l).length from List.length_drop.symm]
          exact HR3.out
        · rw [if_neg hbit] at E2
          have hbk := bk_nil (l := l) hbit
          have hstep := step_neg hbit
          have HB := Lib.hid hbk
          have HStep := Lib.hid hstep
          clear hstep hz hbit hbk hlo
          go_wp2
          refine ⟨⟨k, vs2, by omega, rfl, HV.out, ?_, HL.out, by rw [HStep.out]; exact HR.out⟩, by simp [intOf]⟩
          have hM := HM.out
          refine ⟨hM.hc, hM.mod, hM.blk, hM.own, hM.ob, fun i hi => ?_, hM.vob⟩
          have := hM.bk i hi
          by_cases h1 : k + 1 ≤ i
          · rw [if_pos h1] at this; rw [if_pos (by omega)]; exact this
          · rw [if_neg h1] at this
            split
            · have : i = k := by omega
              subst this; rw [HB.out]; assumption
            · exact this

end Go.Proofs.Ytecbheeffmhlnaa.CarryI
