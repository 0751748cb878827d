/- half's cells: those that are alive, that of the greatest bucket first. -/
import Derived.Test.YtecbheeffmhlnaaHalfI
namespace Go.Proofs.Ytecbheeffmhlnaa.HalfI
open Go.RowKit Go.Proofs.Ytecbheeffmhlnaa Go.Proofs.Ytecbheeffmhlnaa.Pl Go.Proofs.Ytecbheeffmhlnaa.TrI

theorem cat_keep {alive : List Bool} {f : Nat → List (X × Nat)} : ∀ d i, cat (fun j => keep alive (f j)) i d = keep alive (cat f i d)
  | 0, i => rfl
  | d + 1, i => by rw [cat, cat, keep_append, cat_keep d (i + 1)]
theorem keep_take_succ (alive : List Bool) (l : List (X × Nat)) (j : Nat) (h : j < l.length) : keep alive (l.take (j + 1)) = keep alive (l.take j) ++ (if liv alive l[j].2 then [l[j]] else []) := by
  rw [List.take_succ_eq_append_getElem h, keep_append]
  congr 1
  unfold keep
  by_cases hl : liv alive l[j].2 = true
  · simp only [hl, if_true, List.filter_cons_of_pos, List.filter_nil]
  · rw [if_neg hl, List.filter_cons_of_neg (by simpa using hl), List.filter_nil]
theorem bk_sub {α : Type} {i : Nat} {l : List α} {x : α} (h : x ∈ bk i l) : x ∈ l := by
  unfold bk at h
  split at h
  · exact List.mem_of_mem_drop (List.mem_of_mem_take h)
  · simp at h

section
variable {w0 w : World} {C0 C : Nat → Nat} {h c bm : Nat} {bv av tv lvv : Value} {L : List (X × Nat)} {work : Nat} {alive : List Bool} {lv : List Nat} {ts : List TV} {m : List (X × Int)} {tl : Nat → Option (Nat × List X)}

set_option maxRecDepth 100000 in
set_option maxHeartbeats 4000000 in
theorem cells_any (H : HM w0 C0 w C h c bm bv av tv lvv L work alive lv ts m tl) (hnum : ∀ p ∈ L, p.2 < alive.length) :
    Calls Try.prog 29 #[.pointer (some ⟨h, 0, none⟩)] w fun e w' => ∃ v', e = .returned v' ∧ Own w' CarryI.tE CarryI.K v' (keep alive L).length (flat CarryI.enc (keep alive L)) ∧ OB v' (w.heap.size ≤ ·) ∧ Below w.heap.size w w' := by
  have hL := H.car.1
  obtain ⟨_, _, c2, _, c4, _, _, _⟩ := H.cs
  have hhl : h < w.heap.size := (Array.getElem?_eq_some_iff.1 H.blk).1
  obtain ⟨Aa, ca, rfl⟩ := H.ra.slice
  have hal : ∀ n (h : n < alive.length), ∃ ga, Aa = some ⟨ga, 0, none⟩ ∧ ga < w.heap.size ∧ w.cell? ⟨ga, n, none⟩ = some (.bool alive[n]) := fun n hn => by
    obtain ⟨ga, rfl⟩ := H.ra.head (by omega)
    refine ⟨ga, rfl, H.ra.lt ga rfl, ?_⟩
    have := World.ownsRow.cellAt H.ra n (by omega)
    rw [this]; simp [hn]
  have hbl : bl L.length ≤ 20 := bl_le_of_lt (by omega)
  have HA := Lib.hid hal
  have HH := Lib.hid H
  have hlv := CarryI.levels_any H.car
  clear hal H
  go_enter Try.func29, Try.ntmps29
  go_wp2_with (go_at_call 34; refine hlv.mono ?_; rintro e w' ⟨rfl, rfl⟩)
  clear hlv
  go_loopw [3, 4] (fun out ii wr => ∃ k : Nat, k ≤ bl L.length ∧ ii = .int .i64 ((k : Int) - 1) ∧ Below w.heap.size w wr ∧ Own wr CarryI.tE CarryI.K out (cat (fun j => keep alive (bk j L)) k (bl L.length - k)).length (flat CarryI.enc (cat (fun j => keep alive (bk j L)) k (bl L.length - k))) ∧ OB out (w.heap.size ≤ ·)) (fun _ ii _ => (intOf ii + 1).toNat)
  case atStart => exact ⟨bl L.length, Nat.le_refl _, rfl, Below.refl _ _, by rw [Nat.sub_self]; exact Own.nil _ _ _, OB.nil _⟩
  case round =>
    obtain ⟨k, hk, rfl, hb, ho, hob⟩ := hrel
    obtain ⟨Ao, co, rfl⟩ := ho.slice
    rcases Nat.eq_zero_or_pos k with rfl | hkp
    · have e : cat (fun j => keep alive (bk j L)) 0 (bl L.length - 0) = keep alive L := by rw [Nat.sub_zero, cat_keep, cat_all L _ (Nat.le_refl _)]
      generalize cat (fun j => keep alive (bk j L)) 0 (bl L.length - 0) = acc at *
      subst e
      have HO := Lib.hid ho
      clear ho
      go_wp2
      go_ret
      exact ⟨_, rfl, HO.out, hob, hb⟩
    · obtain ⟨k, rfl⟩ : ∃ k', k = k' + 1 := ⟨k - 1, by omega⟩
      have e1 : ((k + 1 : Nat) : Int) - 1 = k := by omega
      rw [e1]
      have r2 := (hb.cell (p := ⟨h, 2, none⟩) hhl).trans c2
      have hAt : CarryI.At (fun b => C b = 1) wr c bv L work := HH.out.car.keep fun b cs E fr _ hc _ => hb.block b (Array.getElem?_eq_some_iff.1 hc).1
      have hbk := CarryI.bucket_any hAt k (by omega)
      have HO := Lib.hid ho
      have HBK := Lib.hid hbk
      have hlen : (bk k L).length ≤ 1000000 := by rw [bk_length]; split; have := bs_room ‹_›; omega; omega
      clear ho hAt hbk
      go_wp2_with (go_at_call 35; refine HBK.out.mono ?_; rintro e w1 ⟨v', rfl, ho1, hob1, hbe1⟩; obtain ⟨A1, c1, rfl⟩ := ho1.slice; have HO1 := Lib.hid ho1; clear ho1)
      have hb1 := then_below hb hbe1 hb.size
      have hsr := hb.size
      have hob1' := OB.mono hob1 (fun g hg => Nat.le_trans hsr hg)
      have HB1 := Lib.hid hb1
      have ho2 := HO.out.below hbe1
      have hne : OB (.slice Ao (cat (fun j => keep alive (bk j L)) (k + 1) (bl L.length - (k + 1))).length co) (fun g => Value.ownBlock (.slice A1 (bk k L).length c1) ≠ some g) := fun g hg e => by
        have h1 := HO.out.lt g hg
        have h2 := hob1 g e
        omega
      have hcat : cat (fun j => keep alive (bk j L)) (k + 1) (bl L.length - (k + 1)) ++ keep alive (bk k L) = cat (fun j => keep alive (bk j L)) k (bl L.length - k) := by
        rw [show bl L.length - k = (bl L.length - (k + 1)) + 1 by omega, cat]
      have hcl : (cat (fun j => keep alive (bk j L)) (k + 1) (bl L.length - (k + 1))).length ≤ 1000000 := by
        rw [cat_keep, cat_from L _ _ (by omega)]
        refine Nat.le_trans (List.length_filter_le _ _) ?_
        rw [List.length_take]; omega
      have HC := Lib.hid hcat
      have HN := Lib.hid hne
      have HO2 := Lib.hid ho2
      clear hcat HO HBK ho2 hne hb1
      generalize cat (fun j => keep alive (bk j L)) (k + 1) (bl L.length - (k + 1)) = acc at *
      go_loopw [3, 24] (fun out jj wi => ∃ j : Nat, j ≤ (bk k L).length ∧ jj = .int .i64 j ∧ Below w.heap.size w wi ∧ Own wi CarryI.tE CarryI.K (.slice A1 (bk k L).length c1) (bk k L).length (flat CarryI.enc (bk k L)) ∧ Own wi CarryI.tE CarryI.K out (acc ++ keep alive ((bk k L).take j)).length (flat CarryI.enc (acc ++ keep alive ((bk k L).take j))) ∧ OB out (w.heap.size ≤ ·) ∧ OB out (fun g => Value.ownBlock (.slice A1 (bk k L).length c1) ≠ some g)) (fun _ jj _ => (bk k L).length - (intOf jj).toNat)
      case atStart => exact ⟨0, Nat.zero_le _, rfl, HB1.out, HO1.out, by simpa [keep] using HO2.out, hob, HN.out⟩
      case round =>
        clear HB1 HO1 HO2 hob HN
        obtain ⟨j, hj, rfl, hbi, hoi, ho, hob, hne⟩ := hrel
        obtain ⟨Ac, cc, rfl⟩ := ho.slice
        have HI := Lib.hid hoi
        have HO := Lib.hid ho
        have HN := Lib.hid hne
        have HBI := Lib.hid hbi
        have r4 := (hbi.cell (p := ⟨h, 4, none⟩) hhl).trans c4
        by_cases hlt : j < (bk k L).length
        · obtain ⟨g1, rfl⟩ := HI.out.head (by omega)
          have hg1 : g1 < wr.heap.size := hoi.lt g1 rfl
          have hcell := RdL.cell (S := fun _ => True) CarryI.enc_len (Own.rd hoi (CarryI.flat_one _) (fun _ _ => trivial)) j hlt
          have hmem : (bk k L)[j] ∈ L := bk_sub (List.getElem_mem hlt)
          have hnn := hnum _ hmem
          have hts := congrArg (acc ++ ·) (keep_take_succ alive (bk k L) j hlt)
          simp only [← List.append_assoc] at hts
          have hal2 : (acc ++ keep alive ((bk k L).take j)).length ≤ 2000000 := by
            have : (keep alive ((bk k L).take j)).length ≤ ((bk k L).take j).length := List.length_filter_le _ _
            rw [List.length_append]; rw [List.length_take] at this; omega
          generalize acc ++ keep alive ((bk k L).take j) = cur at *
          generalize (bk k L)[j] = y at *
          obtain ⟨a, n⟩ := y
          have y0 : wr.cell? ⟨g1, j * 2, none⟩ = some (.int .i64 a) := by have := hcell 0 (by decide); rwa [Nat.zero_add] at this
          have y1 : wr.cell? ⟨g1, j * 2 + 1, none⟩ = some (.int .i64 n) := by have := hcell 1 (by decide); rwa [Nat.zero_add] at this
          obtain ⟨ga, hga, hgl, ra⟩ := HA.out n hnn
          subst hga
          have r5 := (hbi.cell (p := ⟨ga, n, none⟩) hgl).trans ra
          have HT := Lib.hid hts
          clear hts hcell hoi ho hne hbi hmem
          have hnn' : (n : Int) < (alive.length : Int) := by omega
          have hbb : liv alive n = alive[n] := by simp [liv, hnn]
          rw [← hbb] at r5
          generalize liv alive n = bb at *
          clear hbb ra
          go_upto_region 8 with (fail)
          have hb2 := (Below.refl wr.heap.size wr).alloc (Nat.le_refl _) (.cells (#[.int .i64 a, .int .i64 n] : Array Value) CarryI.tE)
          have hx2 := heap_alloc_new wr (.cells (#[.int .i64 a, .int .i64 n] : Array Value) CarryI.tE)
          generalize World.alloc wr _ = w2 at *
          have s4 := (hb2.cell (p := ⟨h, 4, none⟩) (Nat.lt_of_lt_of_le hhl HBI.out.size)).trans r4
          have s5 := (hb2.cell (p := ⟨ga, n, none⟩) (Nat.lt_of_lt_of_le hgl HBI.out.size)).trans r5
          have x0 : w2.cell? ⟨wr.heap.size, 0, none⟩ = some (.int .i64 a) := by simp [World.cell?, hx2]
          have x1 : w2.cell? ⟨wr.heap.size, 1, none⟩ = some (.int .i64 n) := by simp [World.cell?, hx2]
          have hown2 := HO.out.below hb2
          have hbk2 := HI.out.below hb2
          have hb3 := then_below HBI.out hb2 HBI.out.size
          have HB2 := Lib.hid hb2
          have HO2 := Lib.hid hown2
          have HK2 := Lib.hid hbk2
          have HB3 := Lib.hid hb3
          have hsz2 : wr.heap.size ≤ w2.heap.size := hb2.size
          have hszi : w.heap.size ≤ wr.heap.size := HBI.out.size
          clear hb2 hx2 hown2 hbk2 hb3 r4 r5 y0 y1 HO HI HBI
          go_quiet (fail)
          cases bb
          · go_wp2
            have ht := HT.out
            simp only [Bool.false_eq_true, if_false, List.append_nil] at ht
            refine ⟨⟨j + 1, by omega, by go_num, drewN_below HB3.out nq, HK2.out, ?_, hob, HN.out⟩, by simp [intOf]; omega⟩
            rw [ht]
            exact HO2.out
          · go_wp2_with (at_builtin; refine wpList_app1 (w := w2.drewN nq) CarryI.etyS rfl _ _ rfl #[.int .i64 a, .int .i64 n] HO2.out rfl rfl rfl (by simp [Value.oneCell']) (by omega) ?_; intro g' c' w3 ho hg hob3; have HO3 := Lib.hid ho; clear ho; have HG := Lib.hid hg; clear hg; have HOB := Lib.hid hob3; clear hob3)
            have ht := HT.out
            simp only [if_true] at ht
            refine ⟨⟨j + 1, by omega, by go_num, (drewN_below HB3.out nq).grown HG.out HB3.out.size hob, Own.grown (w := w2.drewN nq) HK2.out HG.out fun g hg e => ?_, ?_, ?_, ?_⟩, by simp [intOf]; omega⟩
            · cases hg
              exact HN.out g1 e.symm rfl
            · rw [ht, List.length_append, List.length_singleton, flat_append]
              simpa [flat, CarryI.enc] using HO3.out
            · exact OB.some_iff.2 (HOB.out.elim (fun e => hob g' e) (fun h => by have : w2.heap.size ≤ g' := h; omega))
            · refine OB.some_iff.2 fun e => ?_
              cases e
              exact HOB.out.elim (fun e => HN.out _ e rfl) (fun h => by have : w2.heap.size ≤ g1 := h; omega)
        · have hke : j = (bk k L).length := by omega
          subst hke
          go_wp2
          rw [List.take_length, HC.out] at ho
          rw [List.take_length, HC.out] at hob
          refine ⟨⟨k, by omega, rfl, hbi, ?_, ?_⟩, by simp [intOf]⟩
          · rw [List.take_length, HC.out]; exact ho
          · rw [List.take_length, HC.out]; exact hob
end
end Go.Proofs.Ytecbheeffmhlnaa.HalfI
