/- half's anew: those that are alive are set. -/
import Derived.Test.YtecbheeffmhlnaaHalfIAdd
namespace Go.Proofs.Ytecbheeffmhlnaa.HalfI
open Go.RowKit Go.Proofs.Ytecbheeffmhlnaa Go.Proofs.Ytecbheeffmhlnaa.Pl Go.Proofs.Ytecbheeffmhlnaa.TrI

section
variable {w0 w : World} {C0 C : Nat → Nat} {h c bm : Nat} {bv av tv lvv : Value} {L : List (X × Nat)} {work : Nat} {alive : List Bool} {lv : List Nat} {ts : List TV} {m : List (X × Int)} {tl : Nat → Option (Nat × List X)}

/-- the levels behind a bucket's turn -/
theorem lv_next {L : List (X × Nat)} {lv : List Nat} {j : Nat} (hn : (L.map (·.2)).Nodup) (hnum : ∀ p ∈ L, p.2 < lv.length) (h : ∀ i, i < j → ∀ p ∈ bk i L, lv[p.2]? = some i) : ∀ i, i < j + 1 → ∀ p ∈ bk i L, (setLv lv (bk j L) j)[p.2]? = some i := by
  intro i hi p hp
  rw [setLv_get _ _ _ _ (hnum p (bk_sub hp))]
  by_cases h2 : i = j
  · subst h2
    rw [if_pos (List.mem_map.2 ⟨p, hp, rfl⟩)]
  · rw [if_neg]
    · exact h i (by omega) p hp
    · intro hc
      obtain ⟨q, hq, he⟩ := List.mem_map.1 hc
      exact bk_disj hn (show i < j by omega) hp hq he.symm

set_option maxRecDepth 100000 in
set_option maxHeartbeats 4000000 in
theorem anew_any (H : HM w0 C0 w C h c bm bv av tv lvv L work alive lv ts m tl) (hnum : ∀ p ∈ L, p.2 < alive.length) (hnd : (L.map (·.2)).Nodup) (hlv : lv.length = alive.length) (hL : L.length ≤ 400000) (hA : alive.length ≤ 400000) (hW : work ≤ 100000000000) :
    Calls Try.prog 23 #[.pointer (some ⟨h, 0, none⟩)] w fun e w' => e = .returned (.int .i64 (keep alive L).length) ∧ ∃ C' bv' tv' lv' ts',
      HM w0 C0 w' C' h c bm bv' av tv' lvv (keep alive L) (work + (keep alive L).length) alive lv' ts' m (tlOf (keep alive L) alive) ∧ LvOK (keep alive L) alive lv' ∧ ts'.length ≤ 20 := by
  have hnum' : ∀ p ∈ keep alive L, p.2 < alive.length := fun p hp => hnum p (List.mem_filter.1 hp).1
  have hnd' : ((keep alive L).map (·.2)).Nodup := keep_nd hnd
  have hL' : (keep alive L).length ≤ 400000 := Nat.le_trans (List.length_filter_le _ _) hL
  obtain ⟨c0, c1, c2, c3, c4, c5, c6, _⟩ := H.cs
  have hce := cells_any (w := w.drew) (H.drewN 1) hnum
  obtain ⟨K, hK⟩ : ∃ K, K = keep alive L := ⟨_, rfl⟩
  rw [← hK] at hnum' hnd' hL' hce ⊢
  have HK := Lib.hid hK
  have HND := Lib.hid hnd'
  have HNU := Lib.hid hnum'
  have HLV := Lib.hid hlv
  have HH := Lib.hid H
  have HCE := Lib.hid hce
  clear H hce hK hnd' hnum' hnum hnd hlv
  go_enter Try.func23, Try.ntmps23
  go_upto_region 1 with (fail)
  go_cut [3] (fun s3 wx => s3 = .int .i64 K.length ∧ ∃ C1 bv', HM w0 C0 wx C1 h c bm bv' av tv lvv K (work + K.length) alive lv ts m tl)
  case first =>
    go_region_held3 (fun w' => w'.cell? ⟨h, 2, none⟩ = some (.pointer (some ⟨c, 0, none⟩)))
      (first | go_keep)
      ((first
        | (go_at_call 29; refine HCE.out.mono ?_; rintro e w1 ⟨v', rfl, ho, hob, hbe⟩; have H2 := (HH.out.drewN 1).below hbe 1; obtain ⟨_, _, p2, _, _, _, _, _⟩ := H2.cs; have HH2 := Lib.hid H2; clear H2; have HO := Lib.hid ho; clear ho; have HOB := Lib.hid hob; clear hob; clear hbe)
        | (go_at_call 33; refine (CarryI.set_any HH2.out.car HO.out (by omega) (by omega)).mono ?_; rintro e w2 ⟨bv', rfl, hat, hobv, hmod⟩; have hcc := HH2.out.car.2.2; have H3 := HH2.out.set_carry hmod (fun b hb => .inl hb) hat (fun b hb e => e.elim (fun e => by (obtain ⟨vs, _, _, h1, _⟩ := hcc; (rw [e]; exact h1))) (fun e => absurd hb (Nat.not_lt.2 e))); obtain ⟨_, _, p2, _, _, _, _, _⟩ := H3.cs; have HH3 := Lib.hid H3; clear H3; clear hat; clear hmod; clear hobv; clear hcc)))
    go_wp2
    go_meet
    case rel => exact ⟨rfl, _, _, HH3.out⟩
  case rest =>
    obtain ⟨rfl, C1, bv', H1⟩ := hcut
    obtain ⟨q0, q1, q2, q3, q4, q5, q6, qf⟩ := H1.cs
    have HH1 := Lib.hid H1
    clear H1 HCE HH c0 c1 c2 c3 c4 c5 c6
    have hbl : bl K.length ≤ 19 := bl_le_of_lt (by omega)
    go_upto_region 3 with (fail)
    have H2 := (HH1.out.fewer (tl' := fun _ => none) (fun _ _ h => by cases h)).set_field 3 (.slice none 0 0) (tv' := .slice none 0 0) (ts' := []) (by simp) HH1.out.ra HH1.out.ca HH1.out.rl HH1.out.cl (Own.nil _ _ _) (OB.nil _) (fun _ _ h => by cases h)
    clear q0 q1 q2 q3 q4 q5 q6 qf
    generalize World.setCell wc _ _ = w2 at *
    obtain ⟨_, _, p2, _, _, _, _, _⟩ := H2.cs
    have hle := CarryI.levels_any H2.car
    have HH2 := Lib.hid H2
    have HLE := Lib.hid hle
    clear H2 hle HH1
    go_wp2_with (go_at_call 34; refine HLE.out.mono ?_; rintro e w' ⟨rfl, rfl⟩)
    clear p2 HLE
    go_loopw [21] (fun jj wr => ∃ (j : Nat) (C3 : Nat → Nat) (tv3 : Value) (lv3 : List Nat) (ts3 : List TV), j ≤ bl K.length ∧ jj = .int .i64 j ∧ ts3.length ≤ 20 ∧ HM w0 C0 wr C3 h c bm bv' av tv3 lvv K (work + K.length) alive lv3 ts3 m (fun i => if i < j then tlOf K alive i else none) ∧
      lv3.length = alive.length ∧ ∀ i, i < j → ∀ p ∈ bk i K, lv3[p.2]? = some i) (fun jj _ => bl K.length - (intOf jj).toNat)
    case atStart => exact ⟨0, C1, .slice none 0 0, lv, [], Nat.zero_le _, rfl, Nat.zero_le _, HH2.out.fewer (tl' := fun i => if i < 0 then tlOf K alive i else none) (fun i q hq => by rw [if_neg (Nat.not_lt_zero _)] at hq; cases hq), HLV.out, fun i hi => absurd hi (Nat.not_lt_zero _)⟩
    case round =>
      clear HH2
      obtain ⟨j, C3, tv3, lv3, ts3, hj, rfl, hl3, H3, hlv3, hok3⟩ := hrel
      obtain ⟨q0, q1, q2, q3, q4, q5, q6, qf⟩ := H3.cs
      have HLV3 := Lib.hid hlv3
      have HOK3 := Lib.hid hok3
      clear hlv3 hok3
      by_cases hlt : j < bl K.length
      · have hbu := CarryI.bucket_any H3.car j hlt
        have HBU := Lib.hid hbu
        have HH3 := Lib.hid H3
        clear H3 hbu
        have hbkl : (bk j K).length = if K.length / 2 ^ j % 2 = 1 then 2 ^ j else 0 := bk_length j K
        have hbk2 : (bk j K).length ≤ 2 ^ j := by (rw [hbkl]; split; exact Nat.le_refl _; exact Nat.zero_le _)
        have HB2 := Lib.hid hbk2
        clear hbkl hbk2
        go_wp2_with (go_at_call 35; refine HBU.out.mono ?_; rintro e w4 ⟨v', rfl, ho, hob, hbe⟩; obtain ⟨A4, k4, rfl⟩ := ho.slice; have H4 := HH3.out.below hbe 1; have HH4 := Lib.hid H4; clear H4; have HO := Lib.hid ho; clear ho; clear hob; clear hbe)
        · have hfill := fill_any HH4.out HO.out j (by omega) hl3 HB2.out (fun p hp => HNU.out p (bk_sub hp)) HLV3.out (by omega) (if_neg (Nat.lt_irrefl _))
          have hne : bk j K ≠ [] := fun e => by
            have h1 : 0 < (bk j K).length := by assumption
            rw [e] at h1; exact absurd h1 (Nat.lt_irrefl _)
          have HNE := Lib.hid hne
          have HFI := Lib.hid hfill
          clear hfill hne
          refine HFI.out.mono ?_
          rintro e w5 ⟨rfl, C5, tv5, ts5, hl5, H5⟩
          have HH5 := Lib.hid H5
          clear H5
          go_wp2
          refine ⟨⟨j + 1, C5, tv5, _, ts5, by omega, by go_num, hl5, HH5.out.fewer (tl' := fun i => if i < j + 1 then tlOf K alive i else none) (fun i q hq => ?_), by rw [setLv_length]; exact HLV3.out, lv_next HND.out (fun p hp => by rw [HLV3.out]; exact HNU.out p hp) HOK3.out⟩, by simp [intOf]; omega⟩
          by_cases h1 : i = j
          · subst h1
            rw [if_pos (Nat.lt_succ_self _)] at hq
            unfold tlOf at hq
            rw [if_neg HNE.out] at hq
            rw [if_pos rfl]; exact hq
          · rw [if_neg h1]
            by_cases h2 : i < j
            · rw [if_pos h2]; rw [if_pos (by omega)] at hq; exact hq
            · rw [if_neg (by omega)] at hq; cases hq
        · have hne : bk j K = [] := List.eq_nil_of_length_eq_zero (by have h1 : ¬ 0 < (bk j K).length := by assumption
                                                                      omega)
          refine ⟨⟨j + 1, _, tv3, lv3, ts3, by omega, by go_num, hl3, HH4.out.fewer (tl' := fun i => if i < j + 1 then tlOf K alive i else none) (fun i q hq => ?_), HLV3.out, fun i hi p hp => ?_⟩, by simp [intOf]; omega⟩
          · by_cases h1 : i = j
            · subst h1
              rw [if_pos (Nat.lt_succ_self _)] at hq
              unfold tlOf at hq
              rw [if_pos hne] at hq; cases hq
            · by_cases h2 : i < j
              · rw [if_pos h2]; rw [if_pos (by omega)] at hq; exact hq
              · rw [if_neg (by omega)] at hq; cases hq
          · by_cases h1 : i = j
            · subst h1; rw [hne] at hp; cases hp
            · exact HOK3.out i (by omega) p hp
      · have hjb : j = bl K.length := by omega
        subst hjb
        have HH3 := Lib.hid H3
        clear H3
        go_wp2
        go_ret
        refine ⟨rfl, C3, bv', tv3, lv3, ts3, HH3.out.fewer fun i q hq => ?_, ⟨HLV3.out, fun i p hp => ?_⟩, hl3⟩
        · by_cases h1 : i < bl K.length
          · rw [if_pos h1]; exact hq
          · unfold tlOf at hq
            rw [if_pos (bk_high (by omega))] at hq; cases hq
        · by_cases h1 : i < bl K.length
          · exact HOK3.out i h1 p hp
          · rw [bk_high (by omega)] at hp; cases hp
end
end Go.Proofs.Ytecbheeffmhlnaa.HalfI
