/- gridironref20: how many things an addition places; buckets. -/
import Derived.Test.YtecbheeffmhlnaaLaw22
import Derived.Test.YtecbheeffmhlnaaPlCarry
namespace Go.Proofs.Ytecbheeffmhlnaa.Ref20
open Go.RowKit Go.Proofs.Ytecbheeffmhlnaa Go.Proofs.Ytecbheeffmhlnaa.Pl Go.Proofs.Ytecbheeffmhlnaa.Law22

theorem t1_pow_le (N : Nat) : 2 ^ t1 N ≤ N + 1 := by
  have h1 := mod_pow_t1 N
  have h2 := Nat.mod_le N (2 ^ t1 N)
  have : 0 < 2 ^ t1 N := Nat.two_pow_pos _
  omega
theorem placed_lt {N k : Nat} (hk : k < t1 N) : (N + 1) % (2 * 2 ^ k) = 0 := by
  have h1 := mod_pow_t1 N
  obtain ⟨d, hd⟩ : ∃ d, t1 N = k + 1 + d := ⟨t1 N - k - 1, by omega⟩
  have hp : 0 < 2 ^ t1 N := Nat.two_pow_pos _
  have hdm := Nat.div_add_mod N (2 ^ t1 N)
  have e : 2 ^ t1 N = 2 * 2 ^ k * 2 ^ d := by rw [hd, Nat.pow_add, Nat.pow_succ, Nat.mul_comm (2 ^ k) 2]
  have : N + 1 = 2 ^ t1 N * (N / 2 ^ t1 N + 1) := by rw [Nat.mul_add]; omega
  rw [this]
  generalize N / 2 ^ t1 N + 1 = q
  rw [e, Nat.mul_assoc]
  exact Nat.mul_mod_right _ _
theorem placed_eq (N : Nat) : (N + 1) % (2 * 2 ^ t1 N) ≠ 0 := by
  have h1 := succ_bit_t1 N
  rw [Nat.mul_comm, Nat.mod_mul, h1]
  have : 0 < 2 ^ t1 N := Nat.two_pow_pos _
  omega
theorem rem_cast (a b : Nat) : Int.tmod (a : Int) (b : Int) = ((a % b : Nat) : Int) := by
  rw [Int.tmod_eq_emod_of_nonneg (by omega)]; rfl

set_option maxHeartbeats 1000000 in
theorem placed_any (N P0 : Nat) (hP0 : P0 = 2 ^ t1 N) (w : World) (hN : N ≤ 400000) : Calls Try.prog 27 #[.int .i64 ((N : Int) + 1)] w fun e w' => e = .returned (.int .i64 P0) ∧ w = w' := by
  have hle := t1_pow_le N
  have HP0 := Lib.hid hP0
  clear hP0
  go_enter Try.func27, Try.ntmps27
  go_wp2
  go_loop [3] (fun s => ∃ k P : Nat, k ≤ t1 N ∧ P = 2 ^ k ∧ s = .int .i64 P) (fun s => 1000000 - (intOf s).toNat)
  case atStart => exact ⟨0, 1, Nat.zero_le _, rfl, rfl⟩
  case round =>
    obtain ⟨k, P, hk, hP, rfl⟩ := hrel
    have hpl : P ≤ 2 ^ t1 N := by rw [hP]; exact Nat.pow_le_pow_right (by decide) hk
    have hp0 : 0 < P := by rw [hP]; exact Nat.two_pow_pos _
    have hP4 : P ≤ 400001 := by omega
    have hr : ((N : Int) + 1) % (2 * (P : Int)) = (((N + 1) % (2 * P) : Nat) : Int) := by simp
    have HP := Lib.hid hP
    have HLE := Lib.hid hle
    have n1 : (0 : Int) ≤ 2 * (P : Int) := by omega
    clear hle hpl
    by_cases hlt : k < t1 N
    · have d1 : (((N : Int) + 1) % (2 * (P : Int)) == 0) = true := by rw [hr, HP.out, placed_lt hlt]; rfl
      have HLT := Lib.hid hlt
      clear hP hr hlt
      go_wp2
      refine ⟨⟨k + 1, P * 2, HLT.out, by rw [HP.out, Nat.pow_succ], by go_num⟩, by simp [intOf]; omega⟩
    · have hke : k = t1 N := by omega
      have d1 : (((N : Int) + 1) % (2 * (P : Int)) == 0) = false := by
        rw [hr, HP.out, hke]
        have := placed_eq N
        simp only [beq_eq_false_iff_ne, ne_eq]
        omega
      have HKE := Lib.hid hke
      clear hP hr hke
      go_wp2
      go_ret
      exact ⟨by rw [HP0.out, ← HKE.out, ← HP.out]; rfl, rfl⟩

abbrev tIss : Nat := 42
theorem etyIss : ETy tIss tIs 1 := .mk' (by_ := 24) (z := .slice none 0 0) (by kernel_rfl) (by kernel_rfl) rfl (by decide) (by decide)

/-- a row of rows of the call's own (all behind block N) -/
structure Rows (N : Nat) (w : World) (out : Value) (vs : List Value) (f : Nat → List Int) : Prop where
  own : Own w tIs 1 out vs.length vs
  ob : OB out (N ≤ ·)
  row : ∀ i (h : i < vs.length), Own w tI 1 vs[i] (f i).length ((f i).map (Value.int .i64)) ∧ OB vs[i] (N ≤ ·) ∧ (f i = [] → vs[i] = .slice none 0 0)

theorem Rows.keep {N : Nat} {w w' : World} {out : Value} {vs : List Value} {f : Nat → List Int} (h : Rows N w out vs f) (hk : ∀ b, N ≤ b → b < w.heap.size → w'.heap[b]? = w.heap[b]?) : Rows N w' out vs f :=
  ⟨h.own.keep fun g hg => hk g (h.ob g hg) (h.own.lt g hg), h.ob, fun i hi => ⟨(h.row i hi).1.keep fun g hg => hk g ((h.row i hi).2.1 g hg) ((h.row i hi).1.lt g hg), (h.row i hi).2⟩⟩
theorem Rows.below {N : Nat} {w w' : World} {out : Value} {vs : List Value} {f : Nat → List Int} (h : Rows N w out vs f) (hb : Below w.heap.size w w') : Rows N w' out vs f := h.keep fun b _ hl => hb.block b hl
theorem Rows.drewN {N : Nat} {w : World} {out : Value} {vs : List Value} {f : Nat → List Int} (h : Rows N w out vs f) (n : Nat) : Rows N (w.drewN n) out vs f := h.keep fun _ _ _ => rfl
theorem Rows.nil (N : Nat) (w : World) (f : Nat → List Int) : Rows N w (.slice none 0 0) [] f := ⟨Own.nil _ _ _, OB.nil _, fun i hi => by simp at hi⟩
/-- one more -/
theorem Rows.push {N : Nat} {w w1 : World} {out u : Value} {vs : List Value} {f : Nat → List Int} {g c' : Nat} {l : List Int} (h : Rows N w out vs f) (hN : N ≤ w.heap.size) (hg : w.grownBy w1 out.ownBlock) (ho : Own w1 tIs 1 (.slice (some ⟨g, 0, none⟩) (vs.length + 1) c') (vs.length + 1) (vs ++ [u]))
    (hob : out.ownBlock = some g ∨ w.heap.size ≤ g) (hu : Own w tI 1 u l.length (l.map (Value.int .i64))) (hub : OB u (N ≤ ·)) (hn : l = [] → u = .slice none 0 0) (f2 : Nat → List Int) (hf : ∀ j, j < vs.length → f2 j = f j) (hf2 : f2 vs.length = l) : Rows N w1 (.slice (some ⟨g, 0, none⟩) (vs ++ [u]).length c') (vs ++ [u]) f2 := by
  have hlen : (vs ++ [u]).length = vs.length + 1 := by simp
  have ne : ∀ {v : Value} {n : Nat} {xs : List Value}, Own w tI 1 v n xs → OB v fun k => some k ≠ out.ownBlock := fun hv k hk e => own_ne' hv h.own (by decide) k hk e.symm
  refine ⟨by rw [hlen]; exact ho, OB.some_iff.2 (hob.elim (fun e => h.ob g e) (fun e => Nat.le_trans hN e)), fun i hi => ?_⟩
  rw [hlen] at hi
  rcases Nat.lt_or_ge i vs.length with h' | h'
  · rw [List.getElem_append_left h', hf i h']
    obtain ⟨r1, r2, r3⟩ := h.row i h'
    exact ⟨r1.grown hg (ne r1), r2, r3⟩
  · have : i = vs.length := by omega
    subst this
    rw [List.getElem_append_right (Nat.le_refl _)]
    simp only [Nat.sub_self, List.getElem_cons_zero, hf2]
    exact ⟨hu.grown hg (ne hu), hub, hn⟩
/-- one turned -/
theorem Rows.set {N : Nat} {w : World} {vs : List Value} {f : Nat → List Int} {g c' : Nat} (h : Rows N w (.slice (some ⟨g, 0, none⟩) vs.length c') vs f) (k : Nat) (u : Value) {l : List Int} (hu : Own w tI 1 u l.length (l.map (Value.int .i64))) (hub : OB u (N ≤ ·)) (hn : l = [] → u = .slice none 0 0) (f2 : Nat → List Int) (hf : ∀ j, j < vs.length → f2 j = if j = k then l else f j) :
    Rows N (w.setCell ⟨g, k, none⟩ u) (.slice (some ⟨g, 0, none⟩) (vs.set k u).length c') (vs.set k u) f2 := by
  have ne : ∀ {v : Value} {n : Nat} {xs : List Value}, Own w tI 1 v n xs → OB v (· ≠ g) := fun hv b hb e => own_ne' hv h.own (by decide) b hb (by rw [e]; rfl)
  have hst := (World.ownsRow.stored h.own k u).1
  refine ⟨by rw [List.length_set]; exact hst, h.ob, fun i hi => ?_⟩
  rw [List.length_set] at hi
  rw [hf i hi]
  by_cases hik : i = k
  · subst hik
    rw [if_pos rfl, List.getElem_set_self]
    exact ⟨hu.keep fun b hb => Below.heap_setCell _ _ _ _ (ne hu b hb), hub, hn⟩
  · rw [if_neg hik, List.getElem_set_ne (fun e => hik e.symm)]
    obtain ⟨r1, r2, r3⟩ := h.row i hi
    exact ⟨r1.keep fun b hb => Below.heap_setCell _ _ _ _ (ne r1 b hb), r2, r3⟩

set_option maxRecDepth 100000 in
set_option maxHeartbeats 4000000 in
theorem buckets_any {S : Nat → Prop} {w : World} {lv : Value} {l : List Int} (hl : RdL S encI 1 w lv l) (hln : l.length ≤ 400000) :
    Calls Try.prog 31 #[lv] w fun e w' => ∃ v' vs, e = .returned v' ∧ Below w.heap.size w w' ∧ Rows w.heap.size w' v' vs (fun i => bk i l) ∧ vs.length = bl l.length := by
  have hl0 : RdL (· < w.heap.size) encI 1 w lv l := hl.old (by decide)
  have hl' := hl0
  obtain ⟨_, _, A, c, rfl, hlc, hc, _⟩ := hl'
  have HL := Lib.hid hl0
  clear hl hl0
  go_enter Try.func31, Try.ntmps31
  go_upto_block 0 with (fail)
  go_cut [3] (fun s3 wx => ∃ vs, Below w.heap.size w wx ∧ Rows w.heap.size wx s3 vs (fun _ => []) ∧ vs.length = bl l.length)
  case first =>
    go_wp2
    go_loopw [3, 4] (fun out n wr => ∃ (m : Nat) (vs : List Value), n = .int .i64 m ∧ m ≤ 1000000 ∧ vs.length + bl m = bl l.length ∧ Below w.heap.size w wr ∧ Rows w.heap.size wr out vs (fun _ => [])) (fun _ n _ => (intOf n).toNat)
    case atStart => exact ⟨l.length, [], rfl, by omega, by simp, Below.refl _ _, Rows.nil _ _ _⟩
    case round =>
      obtain ⟨m, vs, rfl, hm, hvl, hb, R⟩ := hrel
      rcases Nat.eq_zero_or_pos m with rfl | hmp
      · have HR := Lib.hid R
        have HV := Lib.hid hvl
        clear R hvl
        go_wp2
        go_meet
        case rel => exact ⟨vs, hb, HR.out, by have := HV.out; rw [bl_zero] at this; omega⟩
      · have HV := Lib.hid hvl
        have HR := Lib.hid R
        have HB := Lib.hid hb
        have hbl : vs.length ≤ 20 := by
          have : bl l.length ≤ 20 := bl_le_of_lt (by omega)
          omega
        obtain ⟨A1, cp1, rfl⟩ := R.own.slice
        clear R hvl hb
        go_wp2_with (at_builtin; refine wpList_app1 etyIss rfl _ _ rfl #[.slice none 0 0] HR.out.own rfl rfl rfl (by simp [Value.oneCell']) (by omega) ?_; intro g' c' w2 ho hg hob; have hp := HR.out.push HB.out.size hg ho hob (l := []) (Own.nil _ _ _) (OB.nil _) (fun _ => rfl) (fun _ => []) (fun _ _ => rfl) rfl; have HP := Lib.hid hp; clear hp; have hb2 := HB.out.grown hg HB.out.size HR.out.ob; have HB2 := Lib.hid hb2; clear hb2; clear ho hob; clear hg)
        refine ⟨⟨m / 2, vs ++ [.slice none 0 0], congrArg (Value.int IntKind.i64) (by omega), by omega, ?_, HB2.out, by have := HP.out; rwa [List.length_append, List.length_singleton] at this⟩, by simp [intOf]; omega⟩
        have := HV.out
        rw [bl_pos hmp] at this
        rw [List.length_append, List.length_singleton]; omega
  case rest =>
    obtain ⟨vs, hb, R, hvl⟩ := hcut
    obtain ⟨A1, cp1, rfl⟩ := R.own.slice
    have hbl : bl l.length ≤ 20 := bl_le_of_lt (by omega)
    have HR0 := Lib.hid R
    have HV0 := Lib.hid hvl
    have HB0 := Lib.hid hb
    have hvs20 : vs.length ≤ 20 := by omega
    clear R hvl hb
    go_wp2
    go_loopw [5, 6] (fun at_ ii wr => ∃ (k : Nat) (vs2 : List Value), k ≤ vs2.length ∧ ii = .int .i64 ((k : Int) - 1) ∧ at_ = .int .i64 ((l.length / 2 ^ k * 2 ^ k : Nat) : Int) ∧ vs2.length = bl l.length ∧ vs2.length = vs.length ∧ Below w.heap.size w wr ∧ Rows w.heap.size wr (.slice A1 vs2.length cp1) vs2 (fun i => if k ≤ i then bk i l else [])) (fun _ ii _ => (intOf ii + 1).toNat)
    case atStart =>
      refine ⟨vs.length, vs, Nat.le_refl _, rfl, ?_, HV0.out, rfl, HB0.out, HR0.out.own, HR0.out.ob, fun i hi => ?_⟩
      · rw [HV0.out, Nat.div_eq_of_lt (lt_two_pow_bl _), Nat.zero_mul]; rfl
      · rw [if_neg (show ¬ vs.length ≤ i by omega)]
        exact HR0.out.row i hi
    case round =>
      clear HR0 HV0 HB0
      obtain ⟨k, vs2, hk, rfl, rfl, hvl, hvv, hb, R⟩ := hrel
      have HVV := Lib.hid hvv
      have hvv2 : vs2.length ≤ vs.length := by omega
      have hvv3 : vs.length ≤ vs2.length := by omega
      clear hvv
      have HR := Lib.hid R
      have HV := Lib.hid hvl
      have HB := Lib.hid hb
      have hv20 : vs2.length ≤ 20 := by omega
      clear R hvl hb
      rcases Nat.eq_zero_or_pos k with rfl | hkp
      · go_wp2
        go_ret
        refine ⟨_, vs2, rfl, HB.out, ⟨by have := HR.out.own; rw [HVV.out] at this ⊢; exact this, by have := HR.out.ob; rw [HVV.out] at this; exact this, fun i hi => ?_⟩, HV.out⟩
        have := HR.out.row i hi
        rw [if_pos (Nat.zero_le _)] at this
        exact this
      · obtain ⟨k, rfl⟩ : ∃ k', k = k' + 1 := ⟨k - 1, by omega⟩
        have e1 : ((k + 1 : Nat) : Int) - 1 = k := by omega
        rw [e1]
        obtain ⟨p, hp⟩ : ∃ p, p = l.length / 2 ^ (k + 1) * 2 ^ (k + 1) := ⟨_, rfl⟩
        rw [← hp]
        have hple : p ≤ l.length := by rw [hp]; exact Nat.div_mul_le_self _ _
        have HPP := Lib.hid hp
        clear hp e1
        obtain ⟨wo, rfl⟩ : ∃ wo : World, wo = wr := ⟨_, rfl⟩
        go_wp2
        go_loop [7, 8] (fun sz jj => ∃ j Z : Nat, j ≤ k ∧ jj = .int .i64 j ∧ Z = 2 ^ j ∧ sz = .int .i64 Z) (fun _ jj => k - (intOf jj).toNat)
        case atStart => exact ⟨0, 1, Nat.zero_le _, rfl, rfl, rfl⟩
        case round =>
          obtain ⟨j, Z, hj, rfl, hZ, rfl⟩ := hrel
          have hzl : Z ≤ 1048576 := by rw [hZ]; exact Nat.le_trans (Nat.pow_le_pow_right (by decide) (by omega : j ≤ 20)) (by decide)
          have hzp : 0 < Z := by rw [hZ]; exact Nat.two_pow_pos j
          have HZ := Lib.hid hZ
          clear hZ
          by_cases hjk : j < k
          · go_wp2
            exact ⟨⟨j + 1, Z * 2, by omega, by go_num, by rw [HZ.out, Nat.pow_succ], by go_num⟩, by simp [intOf]; omega⟩
          · have hjk' : j = k := by omega
            subst hjk'
            obtain ⟨q, hq, hqz⟩ : ∃ q : Nat, (l.length : Int) / (Z : Int) = (q : Int) ∧ q = l.length / 2 ^ j := ⟨l.length / Z, by simp, by rw [HZ.out]⟩
            have hql : q ≤ 400000 := by rw [hqz]; exact Nat.le_trans (Nat.div_le_self _ _) hln
            have q1 : (q : Int) % 2 = ((l.length / 2 ^ j % 2 : Nat) : Int) := by rw [hqz]; simp
            clear hqz
            by_cases hbit : l.length / 2 ^ j % 2 = 1
            · have d1 : (((q : Int)) % 2 == 1) = true := by rw [q1, hbit]; rfl
              have hpr : p + Z ≤ l.length ∧ l.length / 2 ^ j * 2 ^ j = p + Z := by
                have h1 := bs_step l.length j
                have h2 := bs_room hbit
                unfold bs at h1 h2
                rw [hbit, Nat.one_mul] at h1
                rw [HZ.out, HPP.out]
                exact ⟨h2, h1.symm⟩
              have hbk : bk j l = (l.drop p).take Z := by
                rw [HPP.out, HZ.out]
                show bk j l = (l.drop (bs l.length j)).take (2 ^ j)
                unfold bk
                rw [if_pos hbit]
              obtain ⟨hroom, hstep⟩ := hpr
              have hL : RdL (· < w.heap.size) encI 1 wo (.slice A l.length c) l := Rd.below' HL.out (by decide) HB.out
              obtain ⟨A3, c3, hs1, hr1⟩ := run_slL etyI encI_len hL p (p + Z) (by omega) hroom (some (.int .i64 (p : Int))) (some (.int .i64 ((p : Int) + (Z : Int)))) (.inr ⟨.i64, rfl⟩) (.inr ⟨.i64, by rw [show ((p + Z : Nat) : Int) = (p : Int) + (Z : Int) from by omega]⟩)
              rw [show p + Z - p = Z by omega, ← hbk] at hr1
              rw [show p + Z - p = Z by omega] at hs1
              have hjv : j < vs2.length := by omega
              have hnil : vs2[j] = .slice none 0 0 := (HR.out.row j hjv).2.2 (by rw [if_neg (by omega)])
              obtain ⟨g1, rfl⟩ := HR.out.own.head (by omega)
              have hcell := World.ownsRow.cellAt HR.out.own j (by omega)
              rw [List.getElem?_eq_getElem hjv, hnil] at hcell
              have hfz := World.ownsRow.frozenAt HR.out.own j
              have hbl2 : (bk j l).length = Z := by rw [hbk, List.length_take, List.length_drop]; omega
              have HBL := Lib.hid hbl2
              have HNIL := Lib.hid hnil
              have HR1 := Lib.hid hr1
              have HST := Lib.hid hstep
              have HLL := Lib.hid hL
              have hjv2 : (j : Int) < (vs.length : Int) := by omega
              have wpz : IntKind.i64.wrap ((p : Int) + (Z : Int)) = (p : Int) + (Z : Int) := by rw [IntKind.wrap_i64]; omega
              have hbll : Z ≤ 1000000 := by omega
              clear q1 hbit hbk hr1 hbl2 hstep hL hnil
              go_upto_region 16 with (fail)
              go_region_law (refine step_app (w := wo.drew) (v := .slice none 0 0) (n := 0) (m := (bk j l).length) etyI rfl _ _ rfl (xs := []) (news := flat encI (bk j l)) (Own.nil _ _ _) rfl (src_of_rd (w := wo.drew) etyI.und HR1.out) rfl (by rw [HBL.out]; omega) ?_; intro A' c' w1 ho hg hob; have hR1 := HR.out.keep (w' := w1) (fun b _ hb => hg.block b hb (fun e => by cases e)); (have hc1 : w1.cell? ⟨g1, j, none⟩ = some (.slice none 0 0) := (by (rw [World.ownsRow.cellAt hR1.own j (by omega), List.getElem?_eq_getElem hjv, HNIL.out]))); (have hf1 : w1.frozen? ⟨g1, j, none⟩ = false := World.ownsRow.frozenAt hR1.own j); have HRR := Lib.hid hR1; clear hR1; have HO1 := Lib.hid ho; clear ho; have HG1 := Lib.hid hg; clear hg; have HOB1 := Lib.hid hob; clear hob)
              all_goals
                go_wp2
                have ho1 := HO1.out
                have hob1 := HOB1.out
                simp only [Nat.zero_add, List.nil_append, flatI] at ho1 hob1
                have hset := HRR.out.set j _ (l := bk j l) ho1 (fun g hg => (hob1 g hg).elim (fun e => by cases e) (fun h => Nat.le_trans HB.out.size h)) (fun e => by have := HBL.out; rw [e] at this; simp at this; omega) (fun i => if j ≤ i then bk i l else []) (fun i _ => by
                  by_cases h1 : i = j
                  · subst h1; rw [if_pos (Nat.le_refl _), if_pos rfl]
                  · rw [if_neg h1]
                    by_cases h2 : j + 1 ≤ i
                    · rw [if_pos (by omega), if_pos h2]
                    · rw [if_neg (by omega), if_neg h2])
                have hlen : (vs2.set j (.slice A' (bk j l).length c')).length = vs2.length := List.length_set
                have hbel : Below w.heap.size w (w1.setCell ⟨g1, j, none⟩ (.slice A' (bk j l).length c')) := (Below.grown (w := wo.drew) (w' := w1) (row := none) (drewN_below HB.out 1) HG1.out HB.out.size (fun k hk => by cases hk)).setCell (p := ⟨g1, j, none⟩) (HR.out.ob g1 rfl) _
                refine ⟨⟨j, _, by rw [hlen]; omega, rfl, by rw [HST.out]; go_num, by rw [hlen]; exact HV.out, by rw [hlen]; exact HVV.out, hbel, hset⟩, by simp [intOf]⟩
            · have d1 : (((q : Int)) % 2 == 1) = false := by rw [q1]; simp only [beq_eq_false_iff_ne, ne_eq]; omega
              have hstep : l.length / 2 ^ j * 2 ^ j = p := by
                have h1 := bs_step l.length j
                unfold bs at h1
                rw [show l.length / 2 ^ j % 2 = 0 by omega, Nat.zero_mul, Nat.add_zero] at h1
                rw [HPP.out]; exact h1.symm
              have hbk : bk j l = [] := by unfold bk; rw [if_neg hbit]
              have HST := Lib.hid hstep
              have HBI := Lib.hid hbk
              clear q1 hbit hstep hbk
              go_wp2
              refine ⟨⟨j, vs2, by omega, rfl, by rw [HST.out], HV.out, HVV.out, HB.out, HR.out.own, HR.out.ob, fun i hi => ?_⟩, by simp [intOf]⟩
              have h1 := HR.out.row i hi
              by_cases h2 : j ≤ i
              · rw [if_pos h2]
                by_cases h3 : j + 1 ≤ i
                · rw [if_pos h3] at h1; exact h1
                · have : i = j := by omega
                  subst this
                  rw [if_neg h3] at h1
                  rw [HBI.out]; exact h1
              · rw [if_neg h2]
                rw [if_neg (by omega)] at h1; exact h1
end Go.Proofs.Ytecbheeffmhlnaa.Ref20
