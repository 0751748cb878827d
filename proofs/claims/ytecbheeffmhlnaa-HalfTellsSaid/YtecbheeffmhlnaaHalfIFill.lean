/- half's fill: a bucket's tree is built. -/
import Derived.Test.YtecbheeffmhlnaaHalfISteps
namespace Go.Proofs.Ytecbheeffmhlnaa.HalfI
open Go.RowKit Go.Proofs.Ytecbheeffmhlnaa Go.Proofs.Ytecbheeffmhlnaa.Pl Go.Proofs.Ytecbheeffmhlnaa.TrI

/-- how many trees there are, by the half's block -/
def nTrees (h : Nat) (w : World) : Nat := match w.cell? ⟨h, 3, none⟩ with
  | some (.slice _ n _) => n
  | _ => 0

section
variable {w0 w : World} {C0 C : Nat → Nat} {h c bm : Nat} {bv av tv lvv : Value} {L : List (X × Nat)} {work : Nat} {alive : List Bool} {lv : List Nat} {ts : List TV} {m : List (X × Int)} {tl : Nat → Option (Nat × List X)}

theorem HM.nt (H : HM w0 C0 w C h c bm bv av tv lvv L work alive lv ts m tl) : nTrees h w = ts.length := by
  obtain ⟨A, cp, e⟩ := H.rt.slice
  have := H.cs.2.2.2.1
  rw [e] at this
  unfold nTrees
  rw [this]

set_option maxRecDepth 100000 in
set_option maxHeartbeats 4000000 in
theorem fill_any (H : HM w0 C0 w C h c bm bv av tv lvv L work alive lv ts m tl) {cv : Value} {cl : List (X × Nat)} (hcv : Own w CarryI.tE CarryI.K cv cl.length (flat CarryI.enc cl)) (i : Nat) (hi : i ≤ 19) (hts : ts.length ≤ 20) (hcl : cl.length ≤ 2 ^ i)
    (hnum : ∀ p ∈ cl, p.2 < alive.length) (hlv : lv.length = alive.length) (hal : alive.length ≤ 1000000) (htl : tl i = none) :
    Calls Try.prog 26 #[.pointer (some ⟨h, 0, none⟩), .int .i64 i, cv] w fun e w' => e = .returned (.tuple #[]) ∧ ∃ C' tv' ts', ts'.length ≤ 20 ∧ HM w0 C0 w' C' h c bm bv av tv' lvv L work alive (setLv lv cl i) ts' m (fun j => if j = i then some (2 ^ i, lvs alive cl) else tl j) := by
  have hp20 : (2 : Nat) ^ i ≤ 2 ^ 19 := Nat.pow_le_pow_right (by decide) hi
  generalize hP : (2 : Nat) ^ i = P at *
  have hP2 : P ≤ 1000000 := Nat.le_trans hp20 (by decide)
  clear hp20 hP
  obtain ⟨A1, c1, rfl⟩ := hcv.slice
  obtain ⟨Alv, cpv, rfl⟩ := H.rl.slice
  obtain ⟨Aal, cpa, rfl⟩ := H.ra.slice
  have hgl : 0 < alive.length → (∃ g, Alv = some ⟨g, 0, none⟩) ∧ ∃ g, Aal = some ⟨g, 0, none⟩ := fun h0 => ⟨H.rl.head (by omega), H.ra.head h0⟩
  have HGL := Lib.hid hgl
  clear hgl
  have HH := Lib.hid H
  have HCV := Lib.hid hcv
  have HTL := Lib.hid htl
  clear H hcv htl
  go_enter Try.func26, Try.ntmps26
  go_upto_block 0 with (fail)
  go_cut [10] (fun _ wx => ∃ C1 tv1 ts1, i < ts1.length ∧ ts1.length ≤ 20 ∧ HM w0 C0 wx C1 h c bm bv (.slice Aal alive.length cpa) tv1 (.slice Alv lv.length cpv) L work alive lv ts1 m tl ∧ Own wx CarryI.tE CarryI.K (.slice A1 cl.length c1) cl.length (flat CarryI.enc cl))
  case first =>
    go_wp2
    go_loopw [10] (fun _ wr => ∃ C1 tv1 ts1, ts1.length ≤ 20 ∧ HM w0 C0 wr C1 h c bm bv (.slice Aal alive.length cpa) tv1 (.slice Alv lv.length cpv) L work alive lv ts1 m tl ∧ Own wr CarryI.tE CarryI.K (.slice A1 cl.length c1) cl.length (flat CarryI.enc cl)) (fun _ wr => i + 1 - nTrees h wr)
    case atStart => exact ⟨C, tv, ts, hts, HH.out, HCV.out⟩
    case round =>
      obtain ⟨C1, tv1, ts1, hl1, H1, hc1⟩ := hrel
      obtain ⟨q0, q1, q2, q3, q4, q5, q6, qf⟩ := H1.cs
      obtain ⟨A3, c3, rfl⟩ := H1.rt.slice
      have hnt := H1.nt
      have HH1 := Lib.hid H1
      have HC1 := Lib.hid hc1
      clear H1 hc1
      by_cases hlt : ts1.length ≤ i
      · have hlt' : (ts1.length : Int) ≤ (i : Int) := by omega
        go_wp2_with (at_builtin; refine wpList_app1 etyT rfl _ _ rfl (encT ZT).toArray HH1.out.rt rfl rfl rfl (fun u hu => encT_one ZT u (by simpa using hu)) (by omega) ?_; intro g' c' w2 ho hg hob; (have hp := HH1.out.push_tree (z := ZT) hg (by simpa using ho) hob); have hq0 := hp.1.trans HH1.out.blk; (have hq1 : w2.cell? ⟨h, 3, none⟩ = some (.slice A3 ts1.length c3) := by (simp [World.cell?, hq0])); (have hq2 : w2.frozen? ⟨h, 3, none⟩ = false := by (simp [World.frozen?, hq0])); clear hq0; have HP := Lib.hid hp.2; clear hp; clear ho; clear hg; clear hob)
        have hH2 := HP.out.2
        have hnt2 := hH2.nt
        rw [List.length_append, List.length_singleton] at hnt2
        refine ⟨⟨_, _, _, by rw [List.length_append, List.length_singleton]; omega, hH2, HC1.out.mod HP.out.1 fun g hg e => ?_⟩, by omega⟩
        rcases e with e | e
        · exact own_ne' HC1.out HH1.out.rt (by decide) g hg e
        · exact own_ne HC1.out HH1.out.blk (by decide) g hg e
      · go_wp2
        go_meet
        case rel => exact ⟨C1, _, ts1, by omega, hl1, HH1.out, HC1.out⟩
  case rest =>
    obtain ⟨C1, tv1, ts1, hti, hl1, H1, hc1⟩ := hcut
    have HH1 := Lib.hid H1
    have HC1 := Lib.hid hc1
    clear H1 hc1
    go_upto_block 2 with (fail)
    go_cut [7] (fun l wx => ∃ C2, HM w0 C0 wx C2 h c bm bv (.slice Aal alive.length cpa) tv1 (.slice Alv lv.length cpv) L work alive (setLv lv cl i) ts1 m tl ∧ Own wx 2 KX l (lvs alive cl).length (flat encX (lvs alive cl)) ∧ OB l (fun b => C2 b = 1))
    case first =>
      go_wp2
      go_loopw [7, 29] (fun l jj wr => ∃ (j : Nat) (C2 : Nat → Nat), j ≤ cl.length ∧ jj = .int .i64 j ∧ HM w0 C0 wr C2 h c bm bv (.slice Aal alive.length cpa) tv1 (.slice Alv lv.length cpv) L work alive (setLv lv (cl.take j) i) ts1 m tl ∧ Own wr CarryI.tE CarryI.K (.slice A1 cl.length c1) cl.length (flat CarryI.enc cl) ∧
        Own wr 2 KX l (lvs alive (cl.take j)).length (flat encX (lvs alive (cl.take j))) ∧ OB l (fun b => C2 b = 1)) (fun _ jj _ => cl.length - (intOf jj).toNat)
      case atStart => exact ⟨0, C1, Nat.zero_le _, rfl, HH1.out, HC1.out, Own.nil _ _ _, OB.nil _⟩
      case round =>
        clear HH1 HC1
        obtain ⟨j, C2, hj, rfl, H2, hc2, ho, hob⟩ := hrel
        obtain ⟨Al, cpl, rfl⟩ := ho.slice
        by_cases hlt : j < cl.length
        · obtain ⟨g1, rfl⟩ := hc2.head (by omega)
          have hcell := RdL.cell (S := fun _ => True) CarryI.enc_len (Own.rd hc2 (CarryI.flat_one _) (fun _ _ => trivial)) j hlt
          have hnn := hnum _ (List.getElem_mem hlt)
          have hts := keep_take_succ alive cl j hlt
          have hls : setLv lv (cl.take (j + 1)) i = (setLv lv (cl.take j) i).set (cl[j]).2 i := by rw [List.take_succ_eq_append_getElem hlt, setLv_snoc]
          have hcurl : (lvs alive (cl.take j)).length ≤ 1000000 := by
            refine Nat.le_trans (Nat.le_of_eq (List.length_map _)) (Nat.le_trans (List.length_filter_le _ _) ?_)
            rw [List.length_take]; omega
          have hlvs : lvs alive (cl.take (j + 1)) = lvs alive (cl.take j) ++ (if liv alive cl[j].2 then [cl[j].1] else []) := by
            unfold lvs; rw [hts, List.map_append]; split <;> rfl
          have hll : (setLv lv (cl.take j) i).length = alive.length := by rw [setLv_length]; exact hlv
          clear hts
          generalize setLv lv (cl.take j) i = lv2 at *
          generalize lvs alive (cl.take j) = cur at *
          generalize cl[j] = y at *
          obtain ⟨a, n⟩ := y
          simp only at hnn hlvs hls
          have y0 : wr.cell? ⟨g1, j * 2, none⟩ = some (.int .i64 a) := by have := hcell 0 (by decide); rwa [Nat.zero_add] at this
          have y1 : wr.cell? ⟨g1, j * 2 + 1, none⟩ = some (.int .i64 n) := by have := hcell 1 (by decide); rwa [Nat.zero_add] at this
          have HH2 := Lib.hid H2
          have HC2 := Lib.hid hc2
          have HO := Lib.hid ho
          have HOB := Lib.hid hob
          have HLV := Lib.hid hlvs
          have HLS := Lib.hid hls
          have HLL := Lib.hid hll
          clear hcell hc2 H2 ho hob hlvs hls hll
          go_upto_region 7 with (fail)
          have hb2 := (Below.refl wr.heap.size wr).alloc (Nat.le_refl _) (.cells (#[.int .i64 a, .int .i64 n] : Array Value) CarryI.tE)
          have hx2 := heap_alloc_new wr (.cells (#[.int .i64 a, .int .i64 n] : Array Value) CarryI.tE)
          generalize World.alloc wr _ = w2 at *
          have H3 := HH2.out.below hb2 1
          obtain ⟨q0, q1, q2, q3, q4, q5, q6, qf⟩ := H3.cs
          obtain ⟨⟨gl, rfl⟩, ⟨ga, rfl⟩⟩ := HGL.out (by omega)
          have x0 : w2.cell? ⟨wr.heap.size, 0, none⟩ = some (.int .i64 a) := by simp [World.cell?, hx2]
          have x1 : w2.cell? ⟨wr.heap.size, 1, none⟩ = some (.int .i64 n) := by simp [World.cell?, hx2]
          have hrl3 : Own w2 tInt 1 (.slice (some ⟨gl, 0, none⟩) lv2.length cpv) lv2.length (lv2.map fun n : Nat => Value.int .i64 (n : Int)) := by
            have := H3.rl
            rw [hlv, ← HLL.out] at this
            exact this
          obtain ⟨ul, hul⟩ : ∃ u, w2.cell? ⟨gl, n, none⟩ = some u := by
            have := World.ownsRow.cellAt hrl3 n (by have := HLL.out; omega)
            rw [this, List.getElem?_eq_getElem (by have := HLL.out; simp; omega)]
            exact ⟨_, rfl⟩
          have hfl : w2.frozen? ⟨gl, n, none⟩ = false := World.ownsRow.frozenAt hrl3 n
          have hnl : (n : Int) < (lv.length : Int) := by omega
          have hnal : (n : Int) < (alive.length : Int) := by omega
          have hc3 := HC2.out.below hb2
          have ho3 := HO.out.below hb2
          have hob3 : OB (.slice Al cur.length cpl) (fun b => tint C2 wr.heap.size 1 b = 1) := fun g hg => (tint_old (HO.out.lt g hg)).trans (HOB.out g hg)
          have HH3 := Lib.hid H3
          have HC3 := Lib.hid hc3
          have HO3 := Lib.hid ho3
          have HOB3 := Lib.hid hob3
          have HX2 := Lib.hid hx2
          clear hrl3 H3 hc3 ho3 hob3 hx2 hb2 HH2 HC2 HO HOB y0 y1 q0 q1 q2 q3 q6
          generalize tint C2 wr.heap.size 1 = C3 at *
          go_still_tail 7, (by kernel_rfl)
          change wpList _ _ _ _ _ w2.drew
          go_upto_region 8 with (fail)
          have H4 := HH3.out.set_level n i
          have hgb : ∀ {E K' N : Nat} {v : Value} {xs : List Value}, Own w2 E K' v N xs → tInt ≠ E → Own (w2.setCell ⟨gl, n, none⟩ (.int .i64 i)) E K' v N xs := fun hv hne => hv.keep fun g hg => Below.heap_setCell _ _ _ _ (fun e => own_ne' hv HH3.out.rl hne g hg (by rw [e]; rfl))
          have hc4 := hgb HC3.out (by decide)
          have ho4 := hgb HO3.out (by decide)
          have hx4 : (w2.setCell ⟨gl, n, none⟩ (.int .i64 i)).heap[wr.heap.size]? = some (.cells (#[.int .i64 a, .int .i64 n] : Array Value) CarryI.tE) := by
            rw [Below.heap_setCell _ _ _ _ (fun e => own_ne HH3.out.rl HX2.out (by decide) gl rfl e.symm)]
            exact HX2.out
          generalize World.setCell w2 _ _ = w4 at *
          obtain ⟨_, _, _, _, q4, _, _, _⟩ := H4.cs
          have x0 : w4.cell? ⟨wr.heap.size, 0, none⟩ = some (.int .i64 a) := by simp [World.cell?, hx4]
          have x1 : w4.cell? ⟨wr.heap.size, 1, none⟩ = some (.int .i64 n) := by simp [World.cell?, hx4]
          have hca := World.ownsRow.cellAt H4.ra n (by omega)
          rw [List.getElem?_map, List.getElem?_eq_getElem hnn, Option.map_some] at hca
          have hbb : liv alive n = alive[n] := by simp [liv, hnn]
          rw [← hbb] at hca
          have HH4 := Lib.hid H4
          have HC4 := Lib.hid hc4
          have HO4 := Lib.hid ho4
          have HLV2 := HLV
          have hlv2 := HLV.out
          generalize liv alive n = bb at *
          have HLV3 := Lib.hid hlv2
          clear hlv2 HLV HLV2 H4 hc4 ho4 hx4 hgb hbb HH3 HC3 HO3 HX2 hul hfl
          go_quiet (fail)
          cases bb
          · go_wp2
            have hl5 := HLV3.out
            simp only [Bool.false_eq_true, if_false, List.append_nil] at hl5
            refine ⟨⟨j + 1, C3, by omega, by go_num, ?_, HC4.out, ?_, HOB3.out⟩, by simp [intOf]; omega⟩
            · rw [HLS.out]; exact HH4.out.drewN (1 + nq)
            · rw [hl5]; exact HO4.out
          · go_wp2_with (at_builtin; refine wpList_app1 (w := w4.drewN (1 + nq)) etyX rfl _ _ rfl #[.int .i64 a] HO4.out rfl rfl rfl (by simp [Value.oneCell']) (by omega) ?_; intro g' c' w5 ho hg hob; have HO5 := Lib.hid ho; clear ho; have HG := Lib.hid hg; clear hg; have HOB5 := Lib.hid hob; clear hob)
            have hl5 := HLV3.out
            simp only [if_true] at hl5
            have H4' := HH4.out.drewN (1 + nq)
            obtain ⟨t1, t2⟩ := own1 (w := w4.drewN (1 + nq)) HO4.out HOB3.out (T := fun b => (Value.slice Al cur.length cpl).ownBlock = some b) (fun _ e => e)
            have H5 := H4'.foreign (E := tK) (Mod.of_grown HG.out) t1 t2 (by decide) 1
            refine ⟨⟨j + 1, tint C3 w4.heap.size 1, by omega, by go_num, ?_, Own.grown (w := w4.drewN (1 + nq)) HC4.out HG.out fun g hg e => ?_, ?_, ?_⟩, by simp [intOf]; omega⟩
            · rw [HLS.out]; exact H5
            · exact own_ne' HC4.out HO4.out (by decide) g hg e.symm
            · rw [hl5, List.length_append, List.length_singleton, flat_append]
              exact HO5.out
            · refine OB.some_iff.2 ?_
              rcases HOB5.out with e | e
              · exact (tint_old (HO4.out.lt g' e)).trans (HOB3.out g' e)
              · exact tint_new e
        · have hke : j = cl.length := by omega
          subst hke
          go_wp2
          go_meet
          case rel =>
            rw [List.take_length] at H2 ho hob
            exact ⟨C2, H2, by simpa only [List.take_length] using ho, by simpa only [List.take_length] using hob⟩
    case rest =>
      obtain ⟨C2, H2, ho, hob⟩ := hcut
      obtain ⟨Al, cpl, rfl⟩ := ho.slice
      obtain ⟨q0, q1, q2, q3, q4, q5, q6, qf⟩ := H2.cs
      obtain ⟨A3, c3, rfl⟩ := H2.rt.slice
      obtain ⟨g3, rfl⟩ := H2.rt.head (by omega)
      have hbu := build_tr (w := wc.drew) (S := fun _ => True) (l := lvs alive cl) (Own.rd ho (flatX_one _) (fun _ _ => trivial)) (n := P) (Nat.le_trans (Nat.le_of_eq (List.length_map _)) (Nat.le_trans (List.length_filter_le _ _) hcl)) hP2
      have HBU := Lib.hid hbu
      clear hbu
      have HH2 := Lib.hid H2
      have HO := Lib.hid ho
      clear H2 ho
      have hll : (lvs alive cl).length ≤ P := Nat.le_trans (Nat.le_of_eq (List.length_map _)) (Nat.le_trans (List.length_filter_le _ _) hcl)
      have hil : (i : Int) < (ts1.length : Int) := by omega
      have n1 : h ≠ g3 := fun e => own_ne HH2.out.rt HH2.out.blk (by decide) g3 rfl e.symm
      have n1' := n1.symm
      go_upto_region 11 with (fail)
      go_region_held3 (fun w' => w'.cell? ⟨h, 3, none⟩ = some (.slice (some ⟨g3, 0, none⟩) ts1.length c3) ∧ w'.cell? ⟨h, 0, none⟩ = some BV)
        (first | go_keep)
        ((go_at_call 5; refine HBU.out.mono ?_; rintro e w1 ⟨t, rfl, htr, hbe⟩; have H3 := (HH2.out.drewN 1).below hbe (i + 2); obtain ⟨p0, _, _, p3, _, _, _, _⟩ := H3.cs; (obtain ⟨u3, hu3⟩ : ∃ u, w1.cell? ⟨g3, i, none⟩ = some u := (by (have hle := flat_length encT_len ts1); (rw [World.ownsRow.cellAt H3.rt i (by show i < ts1.length * 1; omega), List.getElem?_eq_getElem (by rw [hle]; show i < ts1.length * 1; omega)]); exact ⟨_, rfl⟩)); (have hf3 : w1.frozen? ⟨g3, i, none⟩ = false := World.ownsRow.frozenAt H3.rt i); have HH3 := Lib.hid H3; clear H3; have HTR := Lib.hid htr; clear htr; have HBE := Lib.hid hbe; clear hbe))
      go_end0
      refine ⟨rfl, tint C2 wc.heap.size (i + 2), _, ts1.set i t, by rw [List.length_set]; exact hl1, HH3.out.set_tree i hti (.pointer t) t rfl (fun j q hq hne => by rw [if_neg hne] at hq; exact hq) (fun q hq => ?_)⟩
      rw [if_pos rfl] at hq
      cases hq
      exact HTR.out.mono fun b _ hc => tint_new hc
end
end Go.Proofs.Ytecbheeffmhlnaa.HalfI
