/- half's Trees: one of each bucket that has any, that of the greatest bucket first. -/
import Derived.Test.YtecbheeffmhlnaaHalfIDrop
namespace Go.Proofs.Ytecbheeffmhlnaa.HalfI
open Go.RowKit Go.Proofs.Ytecbheeffmhlnaa Go.Proofs.Ytecbheeffmhlnaa.Pl Go.Proofs.Ytecbheeffmhlnaa.TrI

/-- a bucket's tree, if it has any, and what it is the tree of -/
def pr1 (L : List (X × Nat)) (alive : List Bool) (ts : List TV) (i : Nat) : List (TV × (Nat × List X)) := if bk i L = [] then [] else [(ts.getD i ZT, (2 ^ i, lvs alive (bk i L)))]
/-- those of all buckets -/
def prs (L : List (X × Nat)) (alive : List Bool) (ts : List TV) : List (TV × (Nat × List X)) := cat (pr1 L alive ts) 0 (bl L.length)

section
variable {w0 w : World} {C0 C : Nat → Nat} {h c bm : Nat} {bv av tv lvv : Value} {L : List (X × Nat)} {work : Nat} {alive : List Bool} {lv : List Nat} {ts : List TV} {m : List (X × Int)}

theorem prs_tr (H : HM w0 C0 w C h c bm bv av tv lvv L work alive lv ts m (tlOf L alive)) : ∀ p ∈ prs L alive ts, ∃ i, Tr (fun b => C b = i + 2) w p.1 p.2.1 p.2.2 := by
  intro p hp
  obtain ⟨i, _, _, hi⟩ := mem_cat_inv _ _ hp
  unfold pr1 at hi
  by_cases h1 : bk i L = []
  · rw [if_pos h1] at hi; cases hi
  · rw [if_neg h1] at hi
    rw [List.mem_singleton] at hi
    subst hi
    obtain ⟨h2, h3⟩ := H.tr i (2 ^ i, lvs alive (bk i L)) (if_neg h1)
    refine ⟨i, ?_⟩
    have : ts.getD i ZT = ts[i] := by simp [List.getD_eq_getElem?_getD, h2]
    simp only [this]
    exact h3

set_option maxRecDepth 100000 in
set_option maxHeartbeats 4000000 in
theorem trees_any (H : HM w0 C0 w C h c bm bv av tv lvv L work alive lv ts m (tlOf L alive)) (hL : L.length ≤ 400000) :
    Calls Try.prog 30 #[.pointer (some ⟨h, 0, none⟩)] w fun e w' => ∃ v', e = .returned v' ∧ Own w' tTr KT v' (prs L alive ts).length (flat encT ((prs L alive ts).map (·.1))) ∧ OB v' (w.heap.size ≤ ·) ∧ Below w.heap.size w w' := by
  have hn := none_any H.cs.2.2.1
  obtain ⟨_, _, c2, c3, _, _, _, _⟩ := H.cs
  have hhl : h < w.heap.size := (Array.getElem?_eq_some_iff.1 H.blk).1
  obtain ⟨At, ct, rfl⟩ := H.rt.slice
  have hbl : bl L.length ≤ 19 := bl_le_of_lt (by omega)
  have htc : ∀ i, bk i L ≠ [] → i < ts.length ∧ ∃ gt, At = some ⟨gt, 0, none⟩ ∧ gt < w.heap.size ∧ w.cell? ⟨gt, i, none⟩ = some (.pointer (ts.getD i ZT)) := fun i hi => by
    obtain ⟨h2, _⟩ := H.tr i (2 ^ i, lvs alive (bk i L)) (if_neg hi)
    obtain ⟨gt, rfl⟩ := H.rt.head (by omega)
    refine ⟨h2, gt, rfl, H.rt.lt gt rfl, ?_⟩
    have h0 := RdL.cell (S := fun _ => True) (enc := encT) (k := KT) encT_len (Own.rd H.rt (flatT_one ts) (fun _ _ => trivial)) i h2 0 (by decide)
    have : ts.getD i ZT = ts[i] := by simp [List.getD_eq_getElem?_getD, h2]
    rw [this]
    simpa [encT] using h0
  have HTC := Lib.hid htc
  have HH := Lib.hid H
  have hlv := CarryI.levels_any H.car
  clear htc H
  go_enter Try.func30, Try.ntmps30
  go_wp2_with (first | (go_at_call 21; refine hn.mono ?_; rintro e w' ⟨rfl, rfl⟩) | (go_at_call 34; refine hlv.mono ?_; rintro e w' ⟨rfl, rfl⟩))
  clear hlv hn
  go_loopw [3, 4] (fun out ii wr => ∃ k : Nat, k ≤ bl L.length ∧ ii = .int .i64 ((k : Int) - 1) ∧ Below w.heap.size w wr ∧ Own wr tTr KT out (cat (pr1 L alive ts) k (bl L.length - k)).length (flat encT ((cat (pr1 L alive ts) k (bl L.length - k)).map (·.1))) ∧ OB out (w.heap.size ≤ ·)) (fun _ ii _ => (intOf ii + 1).toNat)
  case atStart => exact ⟨bl L.length, Nat.le_refl _, rfl, Below.refl _ _, by rw [Nat.sub_self]; exact Own.nil _ _ _, OB.nil _⟩
  case round =>
    obtain ⟨k, hk, rfl, hb, ho, hob⟩ := hrel
    rcases Nat.eq_zero_or_pos k with rfl | hkp
    · have e : cat (pr1 L alive ts) 0 (bl L.length - 0) = prs L alive ts := rfl
      rw [e] at ho
      have HO := Lib.hid ho
      clear ho
      go_wp2
      go_ret
      exact ⟨_, rfl, HO.out, hob, hb⟩
    · obtain ⟨k, rfl⟩ : ∃ k', k = k' + 1 := ⟨k - 1, by omega⟩
      have e1 : ((k + 1 : Nat) : Int) - 1 = k := by omega
      rw [e1]
      have hcat : cat (pr1 L alive ts) k (bl L.length - k) = cat (pr1 L alive ts) (k + 1) (bl L.length - (k + 1)) ++ pr1 L alive ts k := by
        rw [show bl L.length - k = (bl L.length - (k + 1)) + 1 by omega, cat]
      have hcl : (cat (pr1 L alive ts) (k + 1) (bl L.length - (k + 1))).length ≤ 20 := by
        have : ∀ d i, (cat (pr1 L alive ts) i d).length ≤ d := by
          intro d
          induction d with
          | zero => intro i; exact Nat.le_refl _
          | succ d ih =>
            intro i
            rw [cat, List.length_append]
            have := ih (i + 1)
            have h1 : (pr1 L alive ts i).length ≤ 1 := by unfold pr1; split <;> simp
            omega
        have := this (bl L.length - (k + 1)) (k + 1)
        omega
      have r2 := (hb.cell (p := ⟨h, 2, none⟩) hhl).trans c2
      have hAt : CarryI.At (fun b => C b = 1) wr c bv L work := HH.out.car.keep fun b cs E fr _ hc _ => hb.block b (Array.getElem?_eq_some_iff.1 hc).1
      have hbk := CarryI.bucket_any hAt k (by omega)
      have HO := Lib.hid ho
      have HBK := Lib.hid hbk
      have HCAT := Lib.hid hcat
      clear ho hAt hbk hcat
      generalize cat (pr1 L alive ts) (k + 1) (bl L.length - (k + 1)) = acc at *
      obtain ⟨Ao, co, rfl⟩ := HO.out.slice
      by_cases hne : bk k L = []
      · have d0 : (bk k L).length = 0 := by rw [hne]; rfl
        have d1 : (bk k L).length ≤ 0 := Nat.le_of_eq d0
        have HNE := Lib.hid hne
        clear hne d0
        go_wp2_with (go_at_call 35; refine HBK.out.mono ?_; rintro e w1 ⟨v', rfl, ho1, hob1, hbe1⟩; obtain ⟨A1, c1, rfl⟩ := ho1.slice; clear ho1)
        refine ⟨⟨k, by omega, rfl, then_below hb hbe1 hb.size, ?_, hob⟩, by simp [intOf]⟩
        rw [HCAT.out]
        unfold pr1
        rw [if_pos HNE.out, List.append_nil]
        exact HO.out.below hbe1
      · obtain ⟨hil, gt, rfl, hgl, r5⟩ := HTC.out k hne
        have d1 : 0 < (bk k L).length := List.length_pos_iff.2 hne
        have HNE := Lib.hid hne
        have hkv : (k : Int) < (ts.length : Int) := by omega
        obtain ⟨t0, ht0⟩ : ∃ t0, t0 = ts.getD k ZT := ⟨_, rfl⟩
        rw [← ht0] at r5
        have HT0 := Lib.hid ht0
        clear hne ht0
        go_wp2_with (first | (go_at_call 35; refine HBK.out.mono ?_; rintro e w1 ⟨v', rfl, ho1, hob1, hbe1⟩; obtain ⟨A1, c1, rfl⟩ := ho1.slice; clear ho1; have hb1 := then_below hb hbe1 hb.size; have s3 := (hb1.cell (p := ⟨h, 3, none⟩) hhl).trans c3; have s5 := (hb1.cell (p := ⟨gt, k, none⟩) hgl).trans r5; have HO1 := Lib.hid (HO.out.below hbe1); have HB1 := Lib.hid hb1; clear hb1; have HBE := Lib.hid hbe1; clear hbe1) | (at_builtin; refine wpList_app1 etyT rfl _ _ rfl #[.pointer t0] HO1.out rfl rfl rfl (by simp [Value.oneCell']) (by omega) ?_; intro g' c' w2 ho hg hob2; have HO2 := Lib.hid ho; clear ho; have HG := Lib.hid hg; clear hg; have HOB := Lib.hid hob2; clear hob2))
        refine ⟨⟨k, by omega, rfl, HB1.out.grown HG.out HB1.out.size hob, ?_, ?_⟩, by simp [intOf]⟩
        · have e : cat (pr1 L alive ts) k (bl L.length - k) = acc ++ [(t0, (2 ^ k, lvs alive (bk k L)))] := by
            rw [HCAT.out, HT0.out]
            unfold pr1
            rw [if_neg HNE.out]
          rw [e, List.length_append, List.length_singleton, List.map_append, flat_append]
          exact HO2.out
        · have := HB1.out.size
          have h3 : w.heap.size ≤ w1.heap.size := this
          exact OB.some_iff.2 (HOB.out.elim (fun e => hob g' e) (fun h => Nat.le_trans h3 h))
end
end Go.Proofs.Ytecbheeffmhlnaa.HalfI
