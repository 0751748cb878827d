/- gridironref22's Trees: of each bucket that has any, those that are alive, rising. -/
import Derived.Test.YtecbheeffmhlnaaRef22
import Derived.Deep.OwnRows
namespace Go.Proofs.Ytecbheeffmhlnaa.Ref22
open Go.RowKit Go.Proofs.Ytecbheeffmhlnaa Go.Proofs.Ytecbheeffmhlnaa.Pl Go.Proofs.Ytecbheeffmhlnaa.Law22 Go.Proofs.Ytecbheeffmhlnaa.Ref20

/-- the document's trees -/
def mTr1 (P : List (Int × Bool)) (i : Nat) : List (List Int) := if bk i P = [] then [] else [srt (mAll (bk i P))]
theorem mTr1_nil {P : List (Int × Bool)} {i : Nat} (h : bk i P = []) : mTr1 P i = [] := if_pos h
theorem mTr1_cons {P : List (Int × Bool)} {i : Nat} (h : bk i P ≠ []) : mTr1 P i = [srt (mAll (bk i P))] := if_neg h
def mTrees (P : List (Int × Bool)) : List (List Int) := cat (mTr1 P) 0 (bl P.length)

theorem map_range_get {α : Type} (P : List α) (d : α) : P = (List.range P.length).map (fun j => P.getD j d) := by
  apply List.ext_getElem
  · simp
  · intro i h1 h2
    simp [h1]
theorem bk_places (P : List (Int × Bool)) (i : Nat) : bk i P = (bk i (List.range P.length)).map (fun j => P.getD j (0, false)) := by
  rw [← bk_map, ← map_range_get]
theorem bk_ints (n i : Nat) : bk i ((List.range n).map (fun j : Nat => (j : Int))) = (bk i (List.range n)).map (fun j : Nat => (j : Int)) := bk_map _ _ _
theorem bk_lt {n i p : Nat} (h : p ∈ bk i (List.range n)) : p < n := by
  unfold bk at h
  split at h
  · exact List.mem_range.1 (List.mem_of_mem_drop (List.mem_of_mem_take h))
  · cases h

theorem own_made {w : World} (n : Nat) (hn : n ≤ 400000) : Own (w.alloc (.cells (madeCells #[.int .i64 0] n) tI)) tI 1 (.slice (some ⟨w.heap.size, 0, none⟩) n n) n (madeCells #[.int .i64 0] n).toList := by
  refine ⟨by simp [size_madeCells], .inr ⟨w.heap.size, n, _, rfl, Nat.zero_le _, heap_alloc_new w _, Nat.le_refl _, by unfold maxLen; omega, by simp [size_madeCells], ?_⟩⟩
  rw [List.take_of_length_le]
  simp [size_madeCells]

theorem Rows.mono {M N : Nat} {w : World} {out : Value} {vs : List Value} {f : Nat → List Int} (h : Ref20.Rows N w out vs f) (hM : M ≤ N) : Ref20.Rows M w out vs f :=
  ⟨h.own, h.ob.mono fun _ h => Nat.le_trans hM h, fun i hi => ⟨(h.row i hi).1, (h.row i hi).2.1.mono fun _ h => Nat.le_trans hM h, (h.row i hi).2.2⟩⟩

set_option maxRecDepth 100000 in
set_option maxHeartbeats 8000000 in
theorem trees_any {S : Nat → Prop} {w : World} {lv av : Value} {P : List (Int × Bool)} (h : Md S w lv av P) (wk : Int) (hP : P.length ≤ 400000) :
    Calls Try.prog 18 #[.agg #[lv, av, .int .i64 wk]] w fun e w' => ∃ v' vs, e = .returned v' ∧ Below w.heap.size w w' ∧ Ref20.Rows w.heap.size w' v' vs (fun i => (mTrees P).getD i []) ∧ vs.length = (mTrees P).length := by
  obtain ⟨A, c, B, d, rfl, rfl, hcell⟩ := h.old.form
  have HC := Lib.hid hcell
  clear hcell h
  have hmk := fun W => run_make_row' (P := Try.prog) tIs tI (.int .i64 0) 8 (by kernel_rfl) (by kernel_rfl) rfl .i64 .i64 P.length (by omega) (by omega) W
  go_enter Try.func18, Try.ntmps18
  go_upto_block 0 with (fail)
  have hb0 : Below w.heap.size w (w.alloc (.cells #[.slice A P.length c, .slice B P.length d, .int .i64 wk] tMd)) := (Below.refl _ w).alloc (Nat.le_refl _) _
  have hx0 := heap_alloc_new w (.cells (#[.slice A P.length c, .slice B P.length d, .int .i64 wk] : Array Value) tMd)
  have hs0 : (w.alloc (.cells #[.slice A P.length c, .slice B P.length d, .int .i64 wk] tMd)).heap.size = w.heap.size + 1 := by simp
  rw [← hs0]
  generalize World.alloc w _ = w1 at *
  have hx1 := hx0
  rw [← Below.heap_alloc w1 (.cells (madeCells #[.int .i64 0] P.length) tI) _ (show w.heap.size < w1.heap.size by omega)] at hx1
  have ho1 := own_made (w := w1) P.length hP
  have hb1 := hb0.alloc (show w.heap.size ≤ w1.heap.size by omega) (.cells (madeCells #[.int .i64 0] P.length) tI)
  have hg1 : w.heap.size < w1.heap.size := by omega
  generalize World.alloc w1 _ = w2 at *
  clear hx0 hb0 hmk hs0
  generalize w1.heap.size = g1 at *
  have hml : (madeCells #[.int .i64 0] P.length).toList.length = P.length := by simp [size_madeCells]
  generalize (madeCells #[.int .i64 0] P.length).toList = xs0 at *
  have HX1 := Lib.hid hx1
  have HO1 := Lib.hid ho1
  have HB1 := Lib.hid hb1
  have HML := Lib.hid hml
  clear hx1 ho1 hb1 hml
  go_cut [4] (fun _ wx => Below w.heap.size w wx ∧ wx.heap[w.heap.size]? = some (.cells #[.slice A P.length c, .slice B P.length d, .int .i64 wk] tMd (0, 0)) ∧ Own wx tI 1 (.slice (some ⟨g1, 0, none⟩) P.length P.length) P.length (((List.range P.length).map (fun j : Nat => (j : Int))).map (Value.int .i64)))
  case first =>
    go_wp2
    go_loopw [4] (fun ii wr => ∃ (k : Nat) (xs : List Value), k ≤ P.length ∧ ii = .int .i64 k ∧ xs.length = P.length ∧ xs.take k = ((List.range k).map (fun j : Nat => (j : Int))).map (Value.int .i64) ∧ Below w.heap.size w wr ∧ wr.heap[w.heap.size]? = some (.cells #[.slice A P.length c, .slice B P.length d, .int .i64 wk] tMd (0, 0)) ∧ Own wr tI 1 (.slice (some ⟨g1, 0, none⟩) P.length P.length) P.length xs) (fun ii _ => P.length - (intOf ii).toNat)
    case atStart => exact ⟨0, xs0, Nat.zero_le _, rfl, HML.out, by simp, HB1.out, HX1.out, HO1.out⟩
    case round =>
      clear HX1 HO1 HB1 HML
      obtain ⟨k, xs, hk, rfl, hxl, htk, hb, hx, ho⟩ := hrel
      have HXL := Lib.hid hxl
      have HTK := Lib.hid htk
      have HB := Lib.hid hb
      have HX := Lib.hid hx
      have HO := Lib.hid ho
      clear hxl htk hb hx ho
      by_cases hlt : k < P.length
      · obtain ⟨u, hu⟩ : ∃ u, xs[k]? = some u := ⟨_, List.getElem?_eq_getElem (by rw [HXL.out]; exact hlt)⟩
        have hcell := World.ownsRow.cellAt HO.out k (by omega)
        rw [hu] at hcell
        have hfz := World.ownsRow.frozenAt HO.out k
        clear hu
        go_wp2
        refine ⟨⟨k + 1, xs.set k (.int .i64 k), by omega, by go_num, by rw [List.length_set]; exact HXL.out, ?_, HB.out.setCell (p := ⟨g1, k, none⟩) (Nat.le_of_lt hg1) _, ?_, (World.ownsRow.stored HO.out k (.int .i64 k)).1⟩, by simp [intOf]; omega⟩
        · rw [List.range_succ, List.map_append, List.map_append, List.take_succ_eq_append_getElem (by rw [List.length_set, HXL.out]; exact hlt), List.getElem_set_self, List.take_set_of_le (Nat.le_refl _), HTK.out]
          rfl
        · rw [Below.heap_setCell _ _ _ _ (by show w.heap.size ≠ g1; omega)]; exact HX.out
      · have hke : k = P.length := by omega
        subst hke
        go_wp2
        go_meet
        case rel =>
          have e := HTK.out
          rw [List.take_of_length_le (by rw [HXL.out]; exact Nat.le_refl _)] at e
          rw [← e]
          exact ⟨HB.out, HX.out, HO.out⟩
  case rest =>
    clear HX1 HO1 HB1 HML xs0
    obtain ⟨hb, hx, ho⟩ := hcut
    have hrd : RdL (fun _ => True) encI 1 wc (.slice (some ⟨g1, 0, none⟩) P.length P.length) ((List.range P.length).map (fun j : Nat => (j : Int))) := by
      have := Own.rd ho (fun u hu => by simp at hu; obtain ⟨_, _, rfl⟩ := hu; rfl) (S := fun _ => True) (fun _ _ => trivial)
      unfold RdL
      rw [flatI, List.length_map, List.length_range]
      exact this
    have hbu := buckets_any hrd (by rw [List.length_map, List.length_range]; exact hP)
    have HB := Lib.hid hb
    have HX := Lib.hid hx
    have HBU := Lib.hid hbu
    clear hrd hbu hb hx ho
    have hbl : bl P.length ≤ 19 := bl_le_of_lt (by omega)
    go_upto_block 2 with ((go_at_call 31; refine HBU.out.mono ?_; rintro e w3 ⟨bv, vs, rfl, hb3, R, hvl⟩; have HB3 := Lib.hid hb3; clear hb3; (obtain ⟨Ab, cb, rfl⟩ := R.own.slice); have HR := Lib.hid R; clear R; (rw [List.length_map, List.length_range] at hvl); (have hvs20 : vs.length ≤ 19 := (by (rw [hvl]; exact hbl))); have HVL := Lib.hid hvl; clear hvl))
    have hb3 : Below w.heap.size w w3 := then_below HB.out HB3.out HB.out.size
    have hszc : w.heap.size < wc.heap.size := (Array.getElem?_eq_some_iff.1 HX.out).1
    have hx3 : w3.heap[w.heap.size]? = some (.cells #[.slice A P.length c, .slice B P.length d, .int .i64 wk] tMd (0, 0)) := (HB3.out.block _ hszc).trans HX.out
    have hsz3 : w.heap.size < w3.heap.size := (Array.getElem?_eq_some_iff.1 hx3).1
    have x0 : w3.cell? ⟨w.heap.size, 0, none⟩ = some (.slice A P.length c) := by simp [World.cell?, hx3]
    have x1 : w3.cell? ⟨w.heap.size, 1, none⟩ = some (.slice B P.length d) := by simp [World.cell?, hx3]
    have hmod : ∀ p (hp : p < P.length), ∃ b o b' o', A = some ⟨b, o, none⟩ ∧ B = some ⟨b', o', none⟩ ∧ b < w3.heap.size ∧ b' < w3.heap.size ∧ w3.cell? ⟨b, o + p, none⟩ = some (.int .i64 P[p].1) ∧ w3.cell? ⟨b', o' + p, none⟩ = some (.bool P[p].2) := fun p hp => by
      obtain ⟨b, o, b', o', e1, e2, h1, h2, h3, h4⟩ := HC.out p hp
      exact ⟨b, o, b', o', e1, e2, by omega, by omega, (hb3.cell (p := ⟨b, o + p, none⟩) h1).trans h3, (hb3.cell (p := ⟨b', o' + p, none⟩) h2).trans h4⟩
    have hbuk : ∀ i (hi : i < vs.length), ∃ gb Av cv, Ab = some ⟨gb, 0, none⟩ ∧ gb < w3.heap.size ∧ w3.cell? ⟨gb, i, none⟩ = some (.slice Av (bk i (List.range P.length)).length cv) ∧
        ∀ j (hj : j < (bk i (List.range P.length)).length), ∃ gv, Av = some ⟨gv, 0, none⟩ ∧ gv < w3.heap.size ∧ w3.cell? ⟨gv, j, none⟩ = some (.int .i64 ((bk i (List.range P.length))[j] : Nat)) := fun i hi => by
      obtain ⟨gb, rfl⟩ := HR.out.own.head (by omega)
      obtain ⟨r1, _, _⟩ := HR.out.row i hi
      simp only [bk_ints, List.length_map] at r1
      obtain ⟨Av, cv, hv⟩ := r1.slice
      have hc := World.ownsRow.cellAt HR.out.own i (by omega)
      rw [List.getElem?_eq_getElem hi, hv] at hc
      rw [hv] at r1
      refine ⟨gb, Av, cv, rfl, HR.out.own.lt gb rfl, hc, fun j hj => ?_⟩
      obtain ⟨gv, rfl⟩ := r1.head (by omega)
      refine ⟨gv, rfl, r1.lt gv rfl, ?_⟩
      have := World.ownsRow.cellAt r1 j (by omega)
      rw [this]; simp [hj]
    have HMO := Lib.hid hmod
    have HBK := Lib.hid hbuk
    have HB3' := Lib.hid hb3
    clear hmod hbuk hx3 hb3 HR HX HB HC HBU HB3
    have n1 : (0 : Int) ≤ (vs.length : Int) := by omega
    go_wp2
    go_loopw [6, 7] (fun out ii wr => ∃ (k : Nat) (us : List Value), k ≤ vs.length ∧ ii = .int .i64 ((k : Int) - 1) ∧ Below w3.heap.size w3 wr ∧ Ref20.Rows w3.heap.size wr out us (fun i => (cat (mTr1 P) k (bl P.length - k)).getD i []) ∧ us.length = (cat (mTr1 P) k (bl P.length - k)).length) (fun _ ii _ => (intOf ii + 1).toNat)
    case atStart => exact ⟨vs.length, [], Nat.le_refl _, rfl, Below.refl _ _, Ref20.Rows.nil _ _ _, by rw [HVL.out, Nat.sub_self]; rfl⟩
    case round =>
      obtain ⟨k, us, hk, rfl, hb, R, hul⟩ := hrel
      obtain ⟨Ao, co, rfl⟩ := R.own.slice
      have HR := Lib.hid R
      have HB := Lib.hid hb
      have HUL := Lib.hid hul
      clear R hul
      rcases Nat.eq_zero_or_pos k with rfl | hkp
      · go_wp2
        go_ret
        exact ⟨_, us, rfl, then_below HB3'.out (HB.out) (Nat.le_of_lt hsz3), Rows.mono HR.out (Nat.le_of_lt hsz3), HUL.out⟩
      · obtain ⟨k, rfl⟩ : ∃ k', k = k' + 1 := ⟨k - 1, by omega⟩
        have e1 : ((k + 1 : Nat) : Int) - 1 = k := by omega
        rw [e1]
        have hcat : cat (mTr1 P) k (bl P.length - k) = cat (mTr1 P) (k + 1) (bl P.length - (k + 1)) ++ mTr1 P k := by
          rw [show bl P.length - k = (bl P.length - (k + 1)) + 1 by have := HVL.out; omega, cat]
        have hpb := bk_places P k
        have hlt' : ∀ p ∈ bk k (List.range P.length), p < P.length := fun p hp => bk_lt hp
        obtain ⟨gb, Av, cv, rfl, hgb, r5, hvc⟩ := HBK.out k (by omega)
        have hBKl : (bk k (List.range P.length)).length ≤ 400000 := by
          have : (bk k P).length ≤ P.length := by rw [bk_length]; split; have := bs_room ‹_›; omega; omega
          rw [hpb, List.length_map] at this; omega
        generalize bk k (List.range P.length) = BK at *
        have s5 := (hb.cell (p := ⟨gb, k, none⟩) hgb).trans r5
        have s0 := (hb.cell (p := ⟨w.heap.size, 0, none⟩) hsz3).trans x0
        have s1 := (hb.cell (p := ⟨w.heap.size, 1, none⟩) hsz3).trans x1
        have hkv : (k : Int) < (vs.length : Int) := by omega
        have HCAT := Lib.hid hcat
        have HPB := Lib.hid hpb
        have HLT := Lib.hid hlt'
        have HVC := Lib.hid hvc
        clear hcat hpb hlt' hvc e1 r5
        have hus20 : us.length ≤ 400000 := by
          rw [HUL.out]
          have : ∀ d i, (cat (mTr1 P) i d).length ≤ d := by
            intro d
            induction d with
            | zero => intro i; exact Nat.le_refl _
            | succ d ih =>
              intro i
              rw [cat, List.length_append]
              have := ih (i + 1)
              have h1 : (mTr1 P i).length ≤ 1 := by unfold mTr1; split <;> simp
              omega
          have := this (bl P.length - (k + 1)) (k + 1)
          omega
        by_cases hne : BK = []
        · subst hne
          have d1 : ((List.length ([] : List Nat) : Int) == 0) = true := rfl
          go_wp2
          have e : cat (mTr1 P) k (bl P.length - k) = cat (mTr1 P) (k + 1) (bl P.length - (k + 1)) := by
            rw [HCAT.out, mTr1_nil (by have := HPB.out; simpa using this), List.append_nil]
          refine ⟨⟨k, us, by omega, rfl, HB.out, ?_, ?_⟩, by simp [intOf]⟩
          · rw [e]; exact HR.out
          · rw [e]; exact HUL.out
        · have hpos : 0 < BK.length := List.length_pos_iff.2 hne
          have d1 : ((BK.length : Int) == 0) = false := by simp; omega
          have HNE := Lib.hid hne
          clear hne
          obtain ⟨wo, rfl⟩ : ∃ wo : World, wo = wr := ⟨_, rfl⟩
          have hwo := hb.size
          have hpbl : (bk k P).length = BK.length := by rw [HPB.out, List.length_map]
          have HPL := Lib.hid hpbl
          clear hpbl
          go_wp2
          go_loopw [8, 9] (fun out jj wr => ∃ j : Nat, j ≤ BK.length ∧ jj = .int .i64 j ∧ Below wo.heap.size wo wr ∧ Own wr tI 1 out (srt (mAll ((bk k P).take j))).length ((srt (mAll ((bk k P).take j))).map (Value.int .i64)) ∧ OB out (wo.heap.size ≤ ·) ∧ ((mAll ((bk k P).take j)).length = 0 → out = .slice none 0 0)) (fun _ jj _ => BK.length - (intOf jj).toNat)
          case atStart => exact ⟨0, Nat.zero_le _, rfl, Below.refl _ _, Own.nil _ _ _, OB.nil _, fun _ => rfl⟩
          case round =>
            obtain ⟨j, hj, rfl, hbi, ho, hob, hnl⟩ := hrel
            obtain ⟨Al, cl, rfl⟩ := ho.slice
            have HNL := Lib.hid hnl
            clear hnl
            have HBI := Lib.hid hbi
            have HO := Lib.hid ho
            have t5 := (hbi.cell (p := ⟨gb, k, none⟩) (Nat.lt_of_lt_of_le hgb hwo)).trans s5
            have t0 := (hbi.cell (p := ⟨w.heap.size, 0, none⟩) (Nat.lt_of_lt_of_le hsz3 hwo)).trans s0
            have t1 := (hbi.cell (p := ⟨w.heap.size, 1, none⟩) (Nat.lt_of_lt_of_le hsz3 hwo)).trans s1
            by_cases hlt : j < BK.length
            · obtain ⟨gv, rfl, hgv, r6⟩ := HVC.out j hlt
              have hpl : BK[j] < P.length := HLT.out _ (List.getElem_mem hlt)
              have hpbj : (bk k P)[j]'(by rw [HPL.out]; exact hlt) = P[BK[j]] := by
                simp only [HPB.out, List.getElem_map]
                simp [hpl]
              have hsu := mAll_succ (bk k P) j (by rw [HPL.out]; exact hlt)
              rw [hpbj] at hsu
              clear hpbj
              generalize BK[j] = p at *
              obtain ⟨b, o, b', o', rfl, rfl, hbl1, hbl2, y0, y1⟩ := HMO.out p hpl
              have t6 := (hbi.cell (p := ⟨gv, j, none⟩) (Nat.lt_of_lt_of_le hgv hwo)).trans ((hb.cell (p := ⟨gv, j, none⟩) hgv).trans r6)
              have t7 := (hbi.cell (p := ⟨b, o + p, none⟩) (Nat.lt_of_lt_of_le hbl1 hwo)).trans ((hb.cell (p := ⟨b, o + p, none⟩) hbl1).trans y0)
              have t8 := (hbi.cell (p := ⟨b', o' + p, none⟩) (Nat.lt_of_lt_of_le hbl2 hwo)).trans ((hb.cell (p := ⟨b', o' + p, none⟩) hbl2).trans y1)
              have hjv : (j : Int) < (BK.length : Int) := by omega
              have hpv : (p : Int) < (P.length : Int) := by omega
              have hsl : (mAll ((bk k P).take j)).length ≤ 400000 := Nat.le_trans (mAll_len _) (by rw [List.length_take]; omega)
              generalize P[p] = q at *
              obtain ⟨x, bb⟩ := q
              generalize mAll ((bk k P).take j) = m0 at *
              have hso := srt_srtd m0
              have hsn := srt_length m0
              have hsx := srt_snoc m0 x
              have hsl2 : (srt m0).length ≤ 400000 := by omega
              generalize hacc : srt m0 = acc at *
              have HACC := Lib.hid hacc
              clear hacc
              have HSU := Lib.hid hsu
              have HSO := Lib.hid hso
              have HSX := Lib.hid hsx
              clear hsu hso hsx hsn r6 y0 y1 ho hbi
              simp only at t7 t8
              have HO4 := Lib.hid (show ∀ n, Own (wr.drewN n) tI 1 (.slice Al acc.length cl) acc.length (acc.map (Value.int .i64)) from fun n => HO.out)
              cases bb
              · go_wp2
                go_quiet (fail)
                go_wp2
                have hs := HSU.out
                simp only [Bool.false_eq_true, if_false, List.append_nil] at hs
                refine ⟨⟨j + 1, by omega, by go_num, drewN_below HBI.out nq, ?_, hob, ?_⟩, by simp [intOf]; omega⟩
                · rw [hs, HACC.out]; exact HO.out
                · rw [hs]; exact HNL.out
              · go_wp2
                go_quiet (fail)
                go_wp2
                go_quiet (fail)
                go_upto_block 6 with (at_builtin; refine wpList_app1 (w := wr.drewN _) etyI rfl _ _ rfl #[.int .i64 x] (HO4.out _) rfl rfl rfl (by simp [Value.oneCell']) (by omega) ?_; intro g' c' w5 ho hg hob5; have hb5 := Below.grown (w := wr.drewN _) (drewN_below HBI.out _) hg HBI.out.size hob; have HB5 := Lib.hid hb5; clear hb5; have HO5 := Lib.hid ho; clear ho; (have hgo : wo.heap.size ≤ g' := hob5.elim (fun e => hob g' e) (fun h => Nat.le_trans HBI.out.size h)); clear hg; clear hob5)
                clear HO4 t0 t1 t5 t6 t7 t8
                go_wp2
                go_loopw [11] (fun ii wi => ∃ (q : Nat) (arr : List Int), ii = .int .i64 q ∧ Shift acc x q arr ∧ Own wi tI 1 (.slice (some ⟨g', 0, none⟩) (acc.length + 1) c') (acc.length + 1) (arr.map (Value.int .i64)) ∧ Below wo.heap.size wo wi) (fun ii _ => (intOf ii).toNat)
                case atStart => exact ⟨acc.length, acc ++ [x], rfl, Shift.start _ _, by have := HO5.out; simpa using this, HB5.out⟩
                case round =>
                  clear HO5 HB5
                  obtain ⟨q, arr, rfl, hsh, ho, hbq⟩ := hrel
                  have hle := hsh.le
                  have hal := hsh.len
                  have harr : q < arr.length := by omega
                  have HH := Lib.hid hsh
                  have HO := Lib.hid ho
                  have HBQ := Lib.hid hbq
                  have hcj := World.ownsRow.cellAt ho q (by omega)
                  obtain ⟨u, hu⟩ : ∃ u, (arr.map (Value.int .i64))[q]? = some u := ⟨_, List.getElem?_eq_getElem (by simpa using harr)⟩
                  rw [hu] at hcj
                  have hfj := World.ownsRow.frozenAt ho q
                  have hqv : (q : Int) < (acc.length : Int) + 1 := by omega
                  have hal2 : arr.length ≤ acc.length + 1 := by omega
                  have fin : (∀ (_ : 0 < q) (h2 : q - 1 < acc.length), acc[q - 1] ≤ x) → Own (wr.setCell ⟨g', q, none⟩ (.int .i64 x)) tI 1 (.slice (some ⟨g', 0, none⟩) (acc.length + 1) c') (srt (mAll ((bk k P).take (j + 1)))).length ((srt (mAll ((bk k P).take (j + 1)))).map (Value.int .i64)) := fun hx => by
                    have hs := HSU.out
                    simp only [if_true] at hs
                    have := (World.ownsRow.stored HO.out q (.int .i64 x)).1
                    rw [← List.map_set, HH.out.done HSO.out hx] at this
                    rw [hs, HSX.out, ins_length]
                    exact this
                  have HF := Lib.hid fin
                  clear fin hu hal
                  rcases Nat.eq_zero_or_pos q with rfl | hqp
                  · clear hsh ho hbq
                    go_wp2
                    refine ⟨⟨j + 1, by omega, by go_num, HBQ.out.setCell (p := ⟨g', 0, none⟩) hgo _, HF.out (by omega), OB.some_iff.2 hgo, fun e => by have hs := HSU.out; simp only [if_true] at hs; rw [hs] at e; simp at e⟩, by simp [intOf]; omega⟩
                  · obtain ⟨i, rfl⟩ : ∃ i, q = i + 1 := ⟨q - 1, by omega⟩
                    have hia : i < arr.length := by omega
                    have hil : i < acc.length := by omega
                    have hci := World.ownsRow.cellAt ho i (by omega)
                    rw [List.getElem?_eq_getElem (by simpa using hia), List.getElem_map, hsh.get hia hil] at hci
                    have e1 : ((i + 1 : Nat) : Int) = (i : Int) + 1 := by omega
                    rw [e1]
                    have hst := hsh.step hil
                    have HST := Lib.hid hst
                    have HX := HF.out
                    clear hsh hst ho hbq
                    generalize hy : acc[i] = y at *
                    have HY := Lib.hid hy
                    clear hy
                    by_cases hxy : x < y
                    · have wi2 : (i : Int) < (acc.length : Int) + 1 := by omega
                      have wi3 : (i : Int) + 1 < (acc.length : Int) + 1 := by omega
                      go_wp2
                      have hso2 := (World.ownsRow.stored HO.out (i + 1) (.int .i64 y)).1
                      rw [← List.map_set] at hso2
                      refine ⟨⟨i, _, rfl, HST.out hxy, hso2, HBQ.out.setCell (p := ⟨g', i + 1, none⟩) hgo _⟩, by simp [intOf]⟩
                    · go_wp2
                      refine ⟨⟨j + 1, by omega, by go_num, HBQ.out.setCell (p := ⟨g', i + 1, none⟩) hgo _, HX (fun _ _ => ?_), OB.some_iff.2 hgo, fun e => by have hs := HSU.out; simp only [if_true] at hs; rw [hs] at e; simp at e⟩, by simp [intOf]; omega⟩
                      have := HY.out
                      simp only [Nat.add_sub_cancel]
                      omega
            · have hje : j = BK.length := by omega
              have e : (bk k P).take j = bk k P := List.take_of_length_le (by rw [HPL.out]; omega)
              rw [e] at ho HNL
              rw [e]
              have hsl : (srt (mAll (bk k P))).length ≤ 400000 := by
                rw [srt_length]; exact Nat.le_trans (mAll_len _) (by rw [HPL.out]; omega)
              have hnn : srt (mAll (bk k P)) = [] → (mAll (bk k P)).length = 0 := fun h => by rw [← srt_length, h]; rfl
              have hm1 : mTr1 P k = [srt (mAll (bk k P))] := mTr1_cons (fun h => by have := HPL.out; rw [h] at this; simp at this; omega)
              rw [e] at hob
              generalize srt (mAll (bk k P)) = acc at *
              have HNN := Lib.hid hnn
              have HM1 := Lib.hid hm1
              have HO' := Lib.hid ho
              have hR2 := HR.out.below hbi
              have HR2 := Lib.hid hR2
              clear ho e t0 t1 hbi hnn hR2 HO hm1
              subst hje
              go_wp2_with (at_builtin; refine wpList_app1 etyIss rfl _ _ rfl #[.slice Al acc.length cl] HR2.out.own rfl rfl rfl (by simp [Value.oneCell']) (by omega) ?_; intro g' c' w5 ho5 hg hob5; have HO5 := Lib.hid ho5; have HG := Lib.hid hg; have HOB5 := Lib.hid hob5; clear ho5 hg hob5)
              have hbr : Below w3.heap.size w3 wr := then_below HB.out HBI.out hwo
              have hb5 : Below w3.heap.size w3 w5 := Below.grown (w := wr) hbr HG.out hbr.size HR2.out.ob
              have hp := HR2.out.push (l := acc) hbr.size HG.out HO5.out HOB5.out HO'.out (hob.mono fun _ h => Nat.le_trans hwo h) (fun h => HNL.out (HNN.out h)) (fun i => (cat (mTr1 P) k (bl P.length - k)).getD i []) (fun i hi => by
                rw [HCAT.out]; simp only [List.getD_eq_getElem?_getD]; rw [List.getElem?_append_left (by rw [← HUL.out]; exact hi)]) (by
                rw [HCAT.out, HM1.out]; simp only [List.getD_eq_getElem?_getD]; rw [List.getElem?_append_right (by rw [HUL.out]; exact Nat.le_refl _), HUL.out, Nat.sub_self]; rfl)
              rw [List.length_append, List.length_singleton] at hp
              refine ⟨⟨k, us ++ [.slice Al acc.length cl], by omega, rfl, hb5, ?_, ?_⟩, by simp [intOf]⟩
              · exact hp
              · rw [HCAT.out, HM1.out, List.length_append, List.length_append, HUL.out]; rfl
end Go.Proofs.Ytecbheeffmhlnaa.Ref22
