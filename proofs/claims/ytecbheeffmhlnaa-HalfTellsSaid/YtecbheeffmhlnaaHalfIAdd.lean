/- half's Add: a thing more. -/
import Derived.Test.YtecbheeffmhlnaaHalfISteps2
import Derived.Test.YtecbheeffmhlnaaThreads
namespace Go.Proofs.Ytecbheeffmhlnaa.HalfI
open Go.RowKit Go.Proofs.Ytecbheeffmhlnaa Go.Proofs.Ytecbheeffmhlnaa.Pl Go.Proofs.Ytecbheeffmhlnaa.TrI

/-- which trees there are: one of each bucket that has any -/
def tlOf (L : List (X × Nat)) (alive : List Bool) : Nat → Option (Nat × List X) := fun i => if bk i L = [] then none else some (2 ^ i, lvs alive (bk i L))

theorem tl_add {L : List (X × Nat)} {alive : List Bool} {x : X} (hn : ∀ p ∈ L, p.2 < alive.length) {j : Nat} (hj : j ≤ t1 L.length) : ∀ i q, tlOf (L ++ [(x, alive.length)]) (alive ++ [true]) i = some q →
    (if i = t1 L.length then some (2 ^ t1 L.length, lvs (alive ++ [true]) (bk (t1 L.length) (L ++ [(x, alive.length)]))) else if i < j then none else tlOf L alive i) = some q := by
  intro i q hq
  unfold tlOf at hq
  by_cases h1 : bk i (L ++ [(x, alive.length)]) = []
  · rw [if_pos h1] at hq; cases hq
  · rw [if_neg h1] at hq
    by_cases h2 : i = t1 L.length
    · subst h2; rw [if_pos rfl]; exact hq
    · rw [if_neg h2]
      have h3 : t1 L.length < i := by
        rcases Nat.lt_or_ge (t1 L.length) i with h | h
        · exact h
        · exact absurd (bk_snoc_low L _ (by omega)) h1
      have h4 : bk i (L ++ [(x, alive.length)]) = bk i L := bk_snoc_high L _ h3
      rw [h4] at h1 hq
      rw [if_neg (by omega)]
      unfold tlOf
      rw [if_neg h1, ← hq]
      unfold lvs
      rw [keep_push fun p hp => hn p (bk_sub hp)]
theorem mem_cat {α : Type} {g : Nat → List α} {a : α} {k : Nat} : ∀ (d i : Nat), a ∈ g k → i ≤ k → k < i + d → a ∈ cat g i d := by
  intro d
  induction d with
  | zero => intro i _ h1 h2; omega
  | succ d ih =>
    intro i ha h1 h2
    rw [cat, List.mem_append]
    by_cases h : k = i
    · subst h; exact .inr ha
    · exact .inl (ih (i + 1) ha (by omega) (by omega))
theorem cat_disj {α β : Type} {f : α → β} {g : Nat → List α} {a b : α} {i j : Nat} (hij : i < j) (ha : a ∈ g i) (hb : b ∈ g j) : ∀ (d i0 : Nat), i0 ≤ i → j < i0 + d → ((cat g i0 d).map f).Nodup → f a ≠ f b := by
  intro d
  induction d with
  | zero => intro i0 h1 h2; omega
  | succ d ih =>
    intro i0 h1 h2 hn
    rw [cat, List.map_append, List.nodup_append] at hn
    by_cases h : i = i0
    · subst h
      exact fun e => hn.2.2 (f b) (List.mem_map.2 ⟨b, mem_cat d (i + 1) hb (by omega) (by omega), rfl⟩) (f a) (List.mem_map.2 ⟨a, ha, rfl⟩) e.symm
    · exact ih (i0 + 1) (by omega) (by omega) hn.1
theorem bk_disj {α β : Type} {f : α → β} {l : List α} {a b : α} {i j : Nat} (hn : (l.map f).Nodup) (hij : i < j) (ha : a ∈ bk i l) (hb : b ∈ bk j l) : f a ≠ f b := by
  refine cat_disj (g := fun k => bk k l) hij ha hb (j + 1 + bl l.length) 0 (Nat.zero_le _) (by omega) ?_
  rw [cat_all l _ (by omega)]
  exact hn
theorem lv_add {L : List (X × Nat)} {alive : List Bool} {lv : List Nat} {m : List (X × Int)} {x : X} (V : LvOK L alive lv) (W : WF L alive m) :
    LvOK (L ++ [(x, alive.length)]) (alive ++ [true]) (setLv (lv ++ [t1 L.length]) (bk (t1 L.length) (L ++ [(x, alive.length)])) (t1 L.length)) := by
  refine ⟨by rw [setLv_length, List.length_append, List.length_append, V.1]; rfl, fun i p hp => ?_⟩
  have hnum : ∀ p ∈ L ++ [(x, alive.length)], p.2 < (lv ++ [t1 L.length]).length := fun p hp => by
    rw [List.length_append, List.length_singleton, V.1]
    rcases List.mem_append.1 hp with hp | hp
    · have := W.num p hp; omega
    · simp at hp; subst hp; simp
  rw [setLv_get _ _ _ _ (hnum p (bk_sub hp))]
  by_cases h2 : i = t1 L.length
  · subst h2
    rw [if_pos (List.mem_map.2 ⟨p, hp, rfl⟩)]
  · have h3 : t1 L.length < i := by
      rcases Nat.lt_or_ge (t1 L.length) i with h | h
      · exact h
      · rw [bk_snoc_low L _ (by omega)] at hp; cases hp
    have h4 : bk i (L ++ [(x, alive.length)]) = bk i L := bk_snoc_high L _ h3
    rw [h4] at hp
    have hpL := bk_sub hp
    have hpn := W.num p hpL
    rw [if_neg]
    · rw [List.getElem?_append_left (by rw [V.1]; exact hpn)]
      exact V.2 i p hp
    · intro hc
      obtain ⟨q, hq, he⟩ := List.mem_map.1 hc
      rcases List.mem_append.1 (bk_sub hq) with hqL | hqL
      · have hpq : q = p := nodup_inj W.nd hqL hpL he
        subst hpq
        have hnd : ((L ++ [(x, alive.length)]).map (·.2)).Nodup := by
          rw [List.map_append, List.nodup_append]
          refine ⟨W.nd, by simp, fun a ha b hb => ?_⟩
          simp at hb
          subst hb
          obtain ⟨p, hp, rfl⟩ := List.mem_map.1 ha
          have := W.num p hp
          omega
        exact bk_disj hnd h3 hq (by rw [h4]; exact hp) rfl
      · simp at hqL; subst hqL; simp at he; omega

section
variable {w : World} {C : Nat → Nat} {h c bm : Nat} {bv av tv lvv : Value} {L : List (X × Nat)} {work : Nat} {alive : List Bool} {lv : List Nat} {ts : List TV} {m : List (X × Int)}

set_option maxRecDepth 100000 in
set_option maxHeartbeats 4000000 in
theorem add_no (H : HM w C w C h c bm bv av tv lvv L work alive lv ts m (tlOf L alive)) (W : WF L alive m) {x : X} (hx : x ∈ lvs alive L) :
    Calls Try.prog 9 #[.pointer (some ⟨h, 0, none⟩), ek x] w fun e w' => e = .returned (.tuple #[.int .i64 0, .bool false]) ∧ w = w' := by
  have hn := none_any H.cs.2.2.1
  obtain ⟨_, _, _, _, _, _, c6, _⟩ := H.cs
  obtain ⟨p, hp, rfl⟩ := List.mem_map.1 ((W.mem x).2 hx)
  obtain ⟨x, k⟩ := p
  have hl := H.rm.look_in kty undM hp W.nodup
  clear H W
  go_enter Try.func9, Try.ntmps9
  go_wp2_with (go_at_call 21; refine hn.mono ?_; rintro e w' ⟨rfl, rfl⟩)
  go_ret2
  exact ⟨rfl, rfl⟩

/-- the two appends of an addition: operations 6, 7 and 13, 14 of their region -/
def addPlan : Plan := ⟨[6, 7, 13, 14], [5, 11], fun i => if i = 5 then 7 else if i = 11 then 14 else i, fun i => i + 49, fun i => [i + 49], fun i => if i = 7 then [5, 6] else if i = 14 then [11, 13] else []⟩
theorem eval_tmp (a : Act) (t : Nat) : a.eval (.tmp t) = a.tmps.getD t undef := rfl
set_option maxHeartbeats 1000000 in
theorem add_region {ops : Array Oper} {Q : Exit → Act → World → Prop} {S : World → Prop} {T : List Nat} {L0 L1 : Array Bool} {a : Act} {w0 : World} {fuel : Nat} {md : Region.Mode}
    (hok : addPlan.ok md ops L0 L1 = true) {o6 o7 o13 o14 : Oper}
    (h6 : ops[6]? = some o6) (g6 : o6.guard = none) (d6 : o6.dst = some 55) (e6 : o6.op = .buildSlice tBools 1 #[(0, .const (.bool true))])
    (h7 : ops[7]? = some o7) (g7 : o7.guard = none) (d7 : o7.dst = some 56) (e7 : o7.op = .call { callee := .builtin .append, args := #[.tmp 54, .tmp 55], argTypes := #[tBools, tBools] })
    (h13 : ops[13]? = some o13) (g13 : o13.guard = none) (d13 : o13.dst = some 62) (e13 : o13.op = .buildSlice tInts 1 #[(0, .tmp 61)])
    (h14 : ops[14]? = some o14) (g14 : o14.guard = none) (d14 : o14.dst = some 63) (e14 : o14.op = .call { callee := .builtin .append, args := #[.tmp 60, .tmp 62], argTypes := #[tInts, tInts] })
    {va vl : Value} {na nl i : Nat} {xa xl : List Value} (h54 : a.tmps.getD 54 undef = va) (h60 : a.tmps.getD 60 undef = vl) (h61 : a.tmps.getD 61 undef = .int .i64 i) (hsz : 64 ≤ a.tmps.size)
    (ra : Own w0 tBool 1 va na xa) (rl : Own w0 tInt 1 vl nl xl) (hna : na ≤ 1000000) (hnl : nl ≤ 1000000)
    (hS : ∀ w', Mod (fun b => va.ownBlock = some b ∨ vl.ownBlock = some b) w0 w' → S w')
    (hend : ∀ (v55 v62 : Value) (A1 : Option Addr) (c1 : Nat) (A2 : Option Addr) (c2 : Nat) (w : World), Mod (fun b => va.ownBlock = some b ∨ vl.ownBlock = some b) w0 w →
      Own w tBool 1 (.slice A1 (na + 1) c1) (na + 1) (xa ++ [.bool true]) → OB (.slice A1 (na + 1) c1) (fun g => va.ownBlock = some g ∨ w0.heap.size ≤ g) →
      Own w tInt 1 (.slice A2 (nl + 1) c2) (nl + 1) (xl ++ [.int .i64 i]) → OB (.slice A2 (nl + 1) c2) (fun g => vl.ownBlock = some g ∨ w0.heap.size ≤ g) →
      wpAnyG Try.prog md ops Q S T fuel L1 ((((a.put (some 55) v55).put (some 56) (.slice A1 (na + 1) c1)).put (some 62) v62).put (some 63) (.slice A2 (nl + 1) c2)) w) :
    wpAnyG Try.prog md ops Q S T (4 + fuel) L0 a w0 := by
  have hn45 : ∀ g, vl.ownBlock = some g → va.ownBlock ≠ some g := own_ne' rl ra (by decide)
  obtain ⟨C0, hC0⟩ : ∃ C0 : Nat → Nat, C0 = fun b => if va.ownBlock = some b then 7 else if vl.ownBlock = some b then 14 else 0 := ⟨_, rfl⟩
  have hC1 : ∀ b, va.ownBlock = some b → C0 b = 7 := fun b hb => by rw [hC0]; exact if_pos hb
  have hC2 : ∀ b, vl.ownBlock = some b → C0 b = 14 := fun b hb => by rw [hC0]; simp only; rw [if_neg (hn45 b hb), if_pos hb]
  have hC3 : ∀ b, C0 b ≠ 0 → va.ownBlock = some b ∧ C0 b = 7 ∨ vl.ownBlock = some b ∧ C0 b = 14 := fun b hb => by
    by_cases h1 : va.ownBlock = some b
    · exact .inl ⟨h1, hC1 b h1⟩
    · by_cases h2 : vl.ownBlock = some b
      · exact .inr ⟨h2, hC2 b h2⟩
      · rw [hC0] at hb
        simp only at hb
        rw [if_neg h1, if_neg h2] at hb
        exact absurd rfl hb
  have hM : ∀ w', Mod (fun b => C0 b ≠ 0) w0 w' → Mod (fun b => va.ownBlock = some b ∨ vl.ownBlock = some b) w0 w' := fun w' hm => hm.mono fun b _ hb => (hC3 b hb).imp (·.1) (·.1)
  clear hC0
  obtain ⟨F, hF⟩ : ∃ F : Nat → Fact, F = fun k => if k = 5 then .rowAt tBool 1 na xa va else if k = 11 then .rowAt tInt 1 nl xl vl else if k = 6 then .lit tBool 1 #[.bool true] else if k = 13 then .lit tInt 1 #[.int .i64 (i : Nat)]
      else if k = 7 then .row tBool 1 (na + 1) (xa ++ [.bool true]) else .row tInt 1 (nl + 1) (xl ++ [.int .i64 (i : Nat)]) := ⟨_, rfl⟩
  have F5 : F 5 = .rowAt tBool 1 na xa va := by rw [hF]; rfl
  have F11 : F 11 = .rowAt tInt 1 nl xl vl := by rw [hF]; rfl
  have F6 : F 6 = .lit tBool 1 #[.bool true] := by rw [hF]; rfl
  have F13 : F 13 = .lit tInt 1 #[.int .i64 (i : Nat)] := by rw [hF]; rfl
  have F7 : F 7 = .row tBool 1 (na + 1) (xa ++ [.bool true]) := by rw [hF]; rfl
  have F14 : F 14 = .row tInt 1 (nl + 1) (xl ++ [.int .i64 (i : Nat)]) := by rw [hF]; rfl
  clear hF
  refine wpAnyG_threads (fuel := fuel) addPlan F L0 L1 hok (C0 := C0) (fun w' hm => hS w' (hM w' hm)) (by decide) ?_ ?_ ?_
  · intro k hk
    have hk' : k = 5 ∨ k = 11 := by simpa [addPlan] using hk
    rcases hk' with rfl | rfl
    · rw [F5]
      exact ⟨h54, ra, hC1⟩
    · rw [F11]
      exact ⟨h60, rl, hC2⟩
  · intro k hk vals C w _ hus
    have hk' : k = 6 ∨ k = 7 ∨ k = 13 ∨ k = 14 := by simpa [addPlan] using hk
    have gd : ∀ t, t ∉ [55, 56, 62, 63] → (mkD a (addPlan.U.map addPlan.dst) vals).tmps.getD t undef = a.tmps.getD t undef := fun t ht => by
      simp only [List.mem_cons, List.not_mem_nil, or_false, not_or] at ht
      show ((((a.put (some 55) (vals 55)).put (some 56) (vals 56)).put (some 62) (vals 62)).put (some 63) (vals 63)).tmps.getD t undef = _
      simp only [Act.put]
      rw [Array.getD_eq_getD_getElem?, Array.getElem?_setIfInBounds_ne (fun e => ht.2.2.2 e.symm), Array.getElem?_setIfInBounds_ne (fun e => ht.2.2.1 e.symm), Array.getElem?_setIfInBounds_ne (fun e => ht.2.1 e.symm), Array.getElem?_setIfInBounds_ne (fun e => ht.1 e.symm), Array.getD_eq_getD_getElem?]
    have g55 : (mkD a (addPlan.U.map addPlan.dst) vals).tmps.getD 55 undef = vals 55 := by
      show ((((a.put (some 55) (vals 55)).put (some 56) (vals 56)).put (some 62) (vals 62)).put (some 63) (vals 63)).tmps.getD 55 undef = _
      simp [Act.put, show 55 < a.tmps.size by omega]
    have g62 : (mkD a (addPlan.U.map addPlan.dst) vals).tmps.getD 62 undef = vals 62 := by
      show ((((a.put (some 55) (vals 55)).put (some 56) (vals 56)).put (some 62) (vals 62)).put (some 63) (vals 63)).tmps.getD 62 undef = _
      simp [Act.put, show 62 < a.tmps.size by omega]
    have hrow : ∀ {E k n : Nat} {xs : List Value} {t c s : Nat} {v : Value}, (Fact.row E k n xs).holds ([s].map vals) (fun b => C b = t) w → vals s = v → True := fun _ _ => trivial
    clear hrow
    have g54 := (eval_tmp (mkD a (addPlan.U.map addPlan.dst) vals) 54).trans ((gd 54 (by decide)).trans h54)
    have g60 := (eval_tmp (mkD a (addPlan.U.map addPlan.dst) vals) 60).trans ((gd 60 (by decide)).trans h60)
    have g61 := (eval_tmp (mkD a (addPlan.U.map addPlan.dst) vals) 61).trans ((gd 61 (by decide)).trans h61)
    have g55' := (eval_tmp (mkD a (addPlan.U.map addPlan.dst) vals) 55).trans g55
    have g62' := (eval_tmp (mkD a (addPlan.U.map addPlan.dst) vals) 62).trans g62
    clear g55 g62 gd
    generalize mkD a (addPlan.U.map addPlan.dst) vals = am at *
    rcases hk' with rfl | rfl | rfl | rfl
    · rw [F6]
      exact thr_lit1 etyBo h6 g6 d6 _ e6 rfl rfl
    · have u5 := hus 5 (by decide)
      have u6 := hus 6 (by decide)
      rw [F5] at u5
      rw [F6] at u6
      rw [F7]
      obtain ⟨u5, e5⟩ := Fact.rowAt_row (s := 54) u5
      exact thr_app (s := 54) (d := 56) etyBo h7 g7 d7 _ _ e7 u5 (g54.trans e5.symm) g55' (src_lit etyBo.und u6 rfl (by simp [Value.oneCell'])) (by omega)
    · rw [F13]
      exact thr_lit1 etyN h13 g13 d13 _ e13 g61 rfl
    · have u11 := hus 11 (by decide)
      have u13 := hus 13 (by decide)
      rw [F11] at u11
      rw [F13] at u13
      rw [F14]
      obtain ⟨u11, e11⟩ := Fact.rowAt_row (s := 60) u11
      exact thr_app (s := 60) (d := 63) etyN h14 g14 d14 _ _ e14 u11 (g60.trans e11.symm) g62' (src_lit etyN.und u13 rfl (by simp [Value.oneCell'])) (by omega)
  · intro vals C w hm hC hF
    have f7 := hF 7 (by decide) (by decide)
    have f14 := hF 14 (by decide) (by decide)
    rw [F7] at f7
    rw [F14] at f14
    obtain ⟨r7, b7⟩ := f7
    obtain ⟨r14, b14⟩ := f14
    have e7' : (List.map vals (addPlan.sl 7)).headD undef = vals 56 := rfl
    have e14' : (List.map vals (addPlan.sl 14)).headD undef = vals 63 := rfl
    rw [e7'] at r7 b7
    rw [e14'] at r14 b14
    have hlt7 := r7.lt
    have hlt14 := r14.lt
    obtain ⟨A1, c1, e56⟩ := r7.slice
    obtain ⟨A2, c2, e63⟩ := r14.slice
    show wpAnyG Try.prog md ops Q S T fuel L1 ((((a.put (some 55) (vals 55)).put (some 56) (vals 56)).put (some 62) (vals 62)).put (some 63) (vals 63)) w
    rw [e56] at r7 b7 hlt7 ⊢
    rw [e63] at r14 b14 hlt14 ⊢
    have col : ∀ g t, C g = t → t ≠ 0 → (g < w0.heap.size → C0 g = t) := fun g t hg _ hlt => (hC g hlt).symm.trans hg
    refine hend _ _ A1 c1 A2 c2 w (hM w hm) r7 (fun g hg => ?_) r14 (fun g hg => ?_)
    · by_cases hlt : g < w0.heap.size
      · have h1 := (hC g hlt).symm.trans (b7 g hg)
        have h2 : addPlan.th 7 = 7 := by decide
        rw [h2] at h1
        rcases hC3 g (by omega) with h | h
        · exact .inl h.1
        · omega
      · exact .inr (by omega)
    · by_cases hlt : g < w0.heap.size
      · have h1 := (hC g hlt).symm.trans (b14 g hg)
        have h2 : addPlan.th 14 = 14 := by decide
        rw [h2] at h1
        rcases hC3 g (by omega) with h | h
        · omega
        · exact .inl h.1
      · exact .inr (by omega)

set_option maxRecDepth 100000 in
set_option maxHeartbeats 4000000 in
theorem add_yes (H : HM w C w C h c bm bv av tv lvv L work alive lv ts m (tlOf L alive)) (W : WF L alive m) (V : LvOK L alive lv) {x : X} (hx : x ∉ lvs alive L) (hts : ts.length ≤ 20) (hL : L.length ≤ 400000) (hA : alive.length ≤ 400000) (hW : work ≤ 100000000000) :
    Calls Try.prog 9 #[.pointer (some ⟨h, 0, none⟩), ek x] w fun e w' => e = .returned (.tuple #[.int .i64 (2 ^ t1 L.length : Nat), .bool true]) ∧ ∃ C' bv' av' tv' lvv' lv' ts' m',
      HM w C w' C' h c bm bv' av' tv' lvv' (L ++ [(x, alive.length)]) (work + 2 ^ t1 L.length) (alive ++ [true]) lv' ts' m' (tlOf (L ++ [(x, alive.length)]) (alive ++ [true])) ∧ WF (L ++ [(x, alive.length)]) (alive ++ [true]) m' ∧ LvOK (L ++ [(x, alive.length)]) (alive ++ [true]) lv' ∧ ts'.length ≤ 20 := by
  have hn := none_any H.cs.2.2.1
  obtain ⟨c0, c1, c2, c3, c4, c5, c6, _⟩ := H.cs
  have hxm : x ∉ m.map (·.1) := fun e => hx ((W.mem x).1 e)
  have hl := H.rm.look_out kty undM (zeroN w) hxm
  obtain ⟨wm, hput, hmm, hmd, hsz⟩ := (show MapAt ek w.drew bm m from H.rm).put kty undM (alive.length : Int) hxm
  obtain ⟨Aa, ca, rfl⟩ := H.ra.slice
  have HH := Lib.hid H
  have HW := Lib.hid W
  have HV := Lib.hid V
  clear H W V
  go_enter Try.func9, Try.ntmps9
  go_wp2_with (go_at_call 21; refine hn.mono ?_; rintro e w' ⟨rfl, rfl⟩)
  go_still_tail 10, (by kernel_rfl)
  change wpList _ _ _ _ _ w.drew
  go_upto_region 7 with (fail)
  have H1 := (HH.out.drewN 1).set_map hmd hmm
  clear hput hl c0 c1 c2 c3 c4 c5 c6 hmd hmm
  generalize tint C _ 1 = C1 at *
  obtain ⟨_, _, c2, _, c4, _, _, _⟩ := H1.cs
  have hadd := CarryI.add_any (w := wm.drew) (H1.drewN 1).car (x, alive.length) (by omega) (by omega)
  have HADD := Lib.hid hadd
  have HH1 := Lib.hid H1
  clear H1 hadd
  go_region_held3 (fun w' => w'.cell? ⟨h, 2, none⟩ = some (.pointer (some ⟨c, 0, none⟩)) ∧ w'.cell? ⟨h, 4, none⟩ = some (.slice Aa alive.length ca))
    (first | go_keep)
    ((go_at_call 25; refine HADD.out.mono ?_; rintro e w1 ⟨bv', v', rfl, hat, hobv, hmod, hv, hobv'⟩; obtain ⟨A1, k1, rfl⟩ := hv.slice; have H2 := (HH1.out.drewN 1).set_carry hmod (fun _ e => e) hat (fun b hb e => e.resolve_right (Nat.not_le.2 hb)); obtain ⟨_, _, p2, p3, p4, p5, _, _⟩ := H2.cs; have HH2 := Lib.hid H2; clear H2; clear hat; clear hmod; have HV1 := Lib.hid hv; clear hv; have HOBV' := Lib.hid hobv'; clear hobv; clear hobv'))
  generalize tint C1 _ 1 = C2 at *
  obtain ⟨Al, cl, rfl⟩ : ∃ A c, lvv = .slice A lv.length c := HH2.out.rl.slice
  obtain ⟨P, hP⟩ : ∃ P, P = 2 ^ t1 L.length := ⟨_, rfl⟩
  have HP := Lib.hid hP
  rw [← hP] at HV1 HOBV' HH2
  rw [← hP]
  clear hP HADD HH1 HH
  obtain ⟨cs0, hcs0⟩ : ∃ cs0, cs0 = bk (t1 L.length) (L ++ [(x, alive.length)]) := ⟨_, rfl⟩
  rw [← hcs0] at HV1
  obtain rfl : P = cs0.length := by rw [HP.out, hcs0, bk_snoc_at_length]
  have HCS := Lib.hid hcs0
  clear hcs0
  go_upto_region 8 with (fail)
  go_cut [8] (fun s8 wx => s8 = .int .i64 (t1 L.length) ∧ ∃ C5 A1' c1' A2' c2', HM w C wx C5 h c bm bv' (.slice A1' (alive.length + 1) c1') tv (.slice A2' (lv.length + 1) c2') (L ++ [(x, alive.length)]) (work + cs0.length) (alive ++ [true]) (lv ++ [t1 L.length]) ts (m ++ [(x, (alive.length : Int))]) (tlOf L alive) ∧ Own wx CarryI.tE CarryI.K (.slice A1 cs0.length k1) cs0.length (flat CarryI.enc cs0))
  case first =>
    refine wp_region_G (fun w' => w'.cell? ⟨h, 4, none⟩ = some (.slice Aa alive.length ca) ∧ w'.cell? ⟨h, 5, none⟩ = some (.slice Al lv.length cl)) [15, 16, 17, 18, 19, 20] (by kernel_rfl) ?_
    have hHeld : (fun w' : World => w'.cell? ⟨h, 4, none⟩ = some (.slice Aa alive.length ca) ∧ w'.cell? ⟨h, 5, none⟩ = some (.slice Al lv.length cl)) w1.drew := ⟨p4, p5⟩
    refine wpAnyG_free 0 (v := ?_) rfl (by kernel_rfl) (by kernel_rfl) (by kernel_rfl) (fun _ _ _ h => h) (Or.inl ⟨by rfl, ?_⟩) ?_
    rotate_left
    · intro w hSw; (try dsimp only at hSw); go_simp; try with_reducible rfl
    set_option linter.unusedSimpArgs false in simp only [List.getElem_toArray, List.getElem_cons_zero, List.getElem_cons_succ, Act.put, List.setIfInBounds_toArray, List.set_cons_zero, List.set_cons_succ]
    refine wpAnyG_free 1 (v := ?_) rfl (by kernel_rfl) (by kernel_rfl) (by kernel_rfl) (fun _ _ _ h => h) (Or.inl ⟨by rfl, ?_⟩) ?_
    rotate_left
    · intro w hSw; (try dsimp only at hSw); go_simp; try with_reducible rfl
    set_option linter.unusedSimpArgs false in simp only [List.getElem_toArray, List.getElem_cons_zero, List.getElem_cons_succ, Act.put, List.setIfInBounds_toArray, List.set_cons_zero, List.set_cons_succ]
    refine wpAnyG_free 2 (v := ?_) rfl (by kernel_rfl) (by kernel_rfl) (by kernel_rfl) (fun _ _ _ h => h) (Or.inl ⟨by rfl, ?_⟩) ?_
    rotate_left
    · intro w hSw; (try dsimp only at hSw); go_simp; try with_reducible rfl
    set_option linter.unusedSimpArgs false in simp only [List.getElem_toArray, List.getElem_cons_zero, List.getElem_cons_succ, Act.put, List.setIfInBounds_toArray, List.set_cons_zero, List.set_cons_succ]
    refine wpAnyG_free 3 (v := ?_) rfl (by kernel_rfl) (by kernel_rfl) (by kernel_rfl) (fun _ _ _ h => h) (Or.inl ⟨by rfl, ?_⟩) ?_
    rotate_left
    · intro w hSw; (try dsimp only at hSw); go_simp; try with_reducible rfl
    set_option linter.unusedSimpArgs false in simp only [List.getElem_toArray, List.getElem_cons_zero, List.getElem_cons_succ, Act.put, List.setIfInBounds_toArray, List.set_cons_zero, List.set_cons_succ]
    refine wpAnyG_free 4 (v := ?_) rfl (by kernel_rfl) (by kernel_rfl) (by kernel_rfl) (fun _ _ _ h => h) (Or.inl ⟨by rfl, ?_⟩) ?_
    rotate_left
    · intro w hSw; (try dsimp only at hSw); go_simp; try with_reducible rfl
    set_option linter.unusedSimpArgs false in simp only [List.getElem_toArray, List.getElem_cons_zero, List.getElem_cons_succ, Act.put, List.setIfInBounds_toArray, List.set_cons_zero, List.set_cons_succ]
    refine wpAnyG_take 5 (v := ?_) rfl (by kernel_rfl) (by kernel_rfl) (by kernel_rfl) (by kernel_rfl) (fun _ _ _ h => h) (Or.inl ⟨by rfl, ?_⟩) (by assumption) ?_
    rotate_left
    · intro w hSw; (try dsimp only at hSw); go_simp; try with_reducible rfl
    set_option linter.unusedSimpArgs false in simp only [List.getElem_toArray, List.getElem_cons_zero, List.getElem_cons_succ, Act.put, List.setIfInBounds_toArray, List.set_cons_zero, List.set_cons_succ]
    refine wpAnyG_free 8 (v := ?_) rfl (by kernel_rfl) (by kernel_rfl) (by kernel_rfl) (fun _ _ _ h => h) (Or.inl ⟨by rfl, ?_⟩) ?_
    rotate_left
    · intro w hSw; (try dsimp only at hSw); go_simp; try with_reducible rfl
    set_option linter.unusedSimpArgs false in simp only [List.getElem_toArray, List.getElem_cons_zero, List.getElem_cons_succ, Act.put, List.setIfInBounds_toArray, List.set_cons_zero, List.set_cons_succ]
    refine wpAnyG_free 9 (v := ?_) rfl (by kernel_rfl) (by kernel_rfl) (by kernel_rfl) (fun _ _ _ h => h) (Or.inl ⟨by rfl, ?_⟩) ?_
    rotate_left
    · intro w hSw; (try dsimp only at hSw); go_simp; try with_reducible rfl
    set_option linter.unusedSimpArgs false in simp only [List.getElem_toArray, List.getElem_cons_zero, List.getElem_cons_succ, Act.put, List.setIfInBounds_toArray, List.set_cons_zero, List.set_cons_succ]
    refine wpAnyG_free 10 (v := ?_) rfl (by kernel_rfl) (by kernel_rfl) (by kernel_rfl) (fun _ _ _ h => h) (Or.inl ⟨by rfl, ?_⟩) ?_
    rotate_left
    · intro w hSw; (try dsimp only at hSw); go_simp; try with_reducible rfl
    set_option linter.unusedSimpArgs false in simp only [List.getElem_toArray, List.getElem_cons_zero, List.getElem_cons_succ, Act.put, List.setIfInBounds_toArray, List.set_cons_zero, List.set_cons_succ]
    refine wpAnyG_take 11 (v := ?_) rfl (by kernel_rfl) (by kernel_rfl) (by kernel_rfl) (by kernel_rfl) (fun _ _ _ h => h) (Or.inl ⟨by rfl, ?_⟩) (by assumption) ?_
    rotate_left
    · intro w hSw; (try dsimp only at hSw); go_simp; try with_reducible rfl
    set_option linter.unusedSimpArgs false in simp only [List.getElem_toArray, List.getElem_cons_zero, List.getElem_cons_succ, Act.put, List.setIfInBounds_toArray, List.set_cons_zero, List.set_cons_succ]
    refine wpAnyG_free 12 (v := ?_) rfl (by kernel_rfl) (by kernel_rfl) (by kernel_rfl) (fun _ _ _ h => h) (Or.inl ⟨by rfl, ?_⟩) ?_
    rotate_left
    · intro w hSw; (try dsimp only at hSw); go_simp; try with_reducible rfl
    set_option linter.unusedSimpArgs false in simp only [List.getElem_toArray, List.getElem_cons_zero, List.getElem_cons_succ, Act.put, List.setIfInBounds_toArray, List.set_cons_zero, List.set_cons_succ]
    have H2 := HH2.out.drewN 1
    have hne4 := own_ne H2.ra H2.blk (by decide)
    have hne5 := own_ne H2.rl H2.blk (by decide)
    have hlvl : lv.length ≤ 400000 := by have := HV.out.1; omega
    have hhs : h < w1.heap.size := World.block_lt_of_cell? w1 _ p4
    have hSS : ∀ w', Mod (fun b => (Value.slice Aa alive.length ca).ownBlock = some b ∨ (Value.slice Al lv.length cl).ownBlock = some b) w1.drew w' → w'.cell? ⟨h, 4, none⟩ = some (.slice Aa alive.length ca) ∧ w'.cell? ⟨h, 5, none⟩ = some (.slice Al lv.length cl) := by
      intro w' hm
      have hb : w'.heap[h]? = w1.drew.heap[h]? := hm.block h hhs (fun e => e.elim (fun e => hne4 h e rfl) (fun e => hne5 h e rfl))
      exact ⟨(World.cell?_of_block (a := ⟨h, 4, none⟩) hb).trans p4, (World.cell?_of_block (a := ⟨h, 5, none⟩) hb).trans p5⟩
    have HSS := Lib.hid hSS
    have HH3 := Lib.hid H2
    clear hSS H2 hne4 hne5 HH2
    refine add_region (fuel := 6) (i := t1 L.length) (L1 := #[true, true, true, true, true, true, true, true, true, true, true, true, true, true, true, false, false, false, false, false, false]) ?_ rfl rfl rfl rfl rfl rfl rfl rfl rfl rfl rfl rfl rfl rfl rfl rfl ?_ ?_ ?_ ?_ HH3.out.ra HH3.out.rl (by omega) (by omega) (fun w' hm => HSS.out w' hm) ?_
    · kernel_rfl
    · simp
    · simp
    · simp
    · simp
    intro v55 v62 A1' c1' A2' c2' w2 hm o1 ob1 o2 ob2
    obtain ⟨hh2, hpush⟩ := HH3.out.push_al hm o1 ob1 o2 ob2
    have hcv5 : Own ((w2.setCell ⟨h, 4, none⟩ (.slice A1' (alive.length + 1) c1')).setCell ⟨h, 5, none⟩ (.slice A2' (lv.length + 1) c2')) CarryI.tE CarryI.K (.slice A1 cs0.length k1) cs0.length (flat CarryI.enc cs0) := by
      have h2 : Own w2 CarryI.tE CarryI.K (.slice A1 cs0.length k1) cs0.length (flat CarryI.enc cs0) := Own.mod (w := w1.drew) HV1.out hm fun g hg e => e.elim (own_ne' (w := w1.drew) HV1.out HH3.out.ra (by decide) g hg) (own_ne' (w := w1.drew) HV1.out HH3.out.rl (by decide) g hg)
      have h3 := own_ne h2 (hh2.trans HH3.out.blk) (by decide)
      exact h2.keep fun g hg => by rw [Below.heap_setCell _ _ _ _ (h3 g hg), Below.heap_setCell _ _ _ _ (h3 g hg)]
    have HPU := Lib.hid hpush
    have HCV5 := Lib.hid hcv5
    clear hpush hcv5 hm o1 ob1 o2 ob2
    have hb2 := hh2.trans HH3.out.blk
    have r4 : w2.cell? ⟨h, 4, none⟩ = some (.slice Aa alive.length ca) := by simp [World.cell?, hb2]
    have r5 : w2.cell? ⟨h, 5, none⟩ = some (.slice Al lv.length cl) := by simp [World.cell?, hb2]
    have rf : ∀ j, w2.frozen? ⟨h, j, none⟩ = false := fun j => by simp [World.frozen?, hb2]
    clear hb2 hh2
    simp only [Act.put]
    refine wpAnyG_seq (List.drop 15 (Array.toList _)) 15 (fun j => by rw [List.getElem?_drop, Array.getElem?_toList]) (by kernel_rfl) ?_ (fun j h1 h2 => ?_)
    case refine_2 =>
      have h3 : j < 21 := h2
      have h4 : j = 15 ∨ j = 16 ∨ j = 17 ∨ j = 18 ∨ j = 19 ∨ j = 20 := by omega
      rcases h4 with rfl | rfl | rfl | rfl | rfl | rfl <;> rfl
    simp only [List.drop_succ_cons, List.drop_zero]
    go_wp2
    go_meet
    case rel => exact ⟨rfl, _, _, _, _, _, HPU.out, HCV5.out⟩
  case rest =>
    clear p2 p3 p4 p5 HV1 HOBV' HH2
    obtain ⟨rfl, C5, A1', c1', A2', c2', H5, hcv5⟩ := hcut
    obtain ⟨q0, q1, q2, q3, q4, q5, q6, qf⟩ := H5.cs
    obtain ⟨At, ct, rfl⟩ := H5.rt.slice
    have HH5 := Lib.hid H5
    have HC5 := Lib.hid hcv5
    clear H5 hcv5
    go_upto_block 0 with (fail)
    obtain ⟨M, hM, hM1, hM2⟩ : ∃ M : Nat, (if ts.length < t1 L.length then (ts.length : Int) else (t1 L.length : Int)) = (M : Int) ∧ M ≤ t1 L.length ∧ M ≤ ts.length := by
      by_cases h1 : ts.length < t1 L.length
      · exact ⟨ts.length, by rw [if_pos h1], by omega, by omega⟩
      · exact ⟨t1 L.length, by rw [if_neg h1], by omega, by omega⟩
    rw [hM]
    have ht20 : t1 L.length ≤ 19 := Nat.le_trans (t1_le_bl _) (bl_le_of_lt (by omega))
    clear hM q0 q1 q2 q3 q4 q5 q6 qf
    go_wp2
    go_loopw [75] (fun jj wr => ∃ (j : Nat) (ts1 : List TV), j ≤ M ∧ jj = .int .i64 j ∧ ts.length ≤ ts1.length ∧ ts1.length ≤ 20 ∧ HM w C wr C5 h c bm bv' (.slice A1' (alive.length + 1) c1') (.slice At ts1.length ct) (.slice A2' (lv.length + 1) c2') (L ++ [(x, alive.length)]) (work + cs0.length) (alive ++ [true]) (lv ++ [t1 L.length]) ts1 (m ++ [(x, (alive.length : Int))]) (fun i => if i < j then none else tlOf L alive i) ∧
      Own wr CarryI.tE CarryI.K (.slice A1 cs0.length k1) cs0.length (flat CarryI.enc cs0)) (fun jj _ => M - (intOf jj).toNat)
    case atStart => exact ⟨0, ts, Nat.zero_le _, rfl, Nat.le_refl _, hts, HH5.out.fewer fun i q hq => by rw [if_neg (Nat.not_lt_zero _)] at hq; exact hq, HC5.out⟩
    case round =>
      clear HH5 HC5
      obtain ⟨j, ts1, hj, rfl, htl, htl2, H1, hc1⟩ := hrel
      obtain ⟨q0, q1, q2, q3, q4, q5, q6, qf⟩ := H1.cs
      have HH1 := Lib.hid H1
      have HC1 := Lib.hid hc1
      clear H1 hc1
      by_cases hlt : j < M
      · obtain ⟨g, rfl⟩ := HH1.out.rt.head (by omega)
        have hle := flat_length encT_len ts1
        obtain ⟨u3, hu3⟩ : ∃ u, wr.cell? ⟨g, j, none⟩ = some u := by
          rw [World.ownsRow.cellAt HH1.out.rt j (by show j < ts1.length * 1; omega), List.getElem?_eq_getElem (by rw [hle]; show j < ts1.length * 1; omega)]
          exact ⟨_, rfl⟩
        have hf3 : wr.frozen? ⟨g, j, none⟩ = false := World.ownsRow.frozenAt HH1.out.rt j
        have hjl : (j : Int) < (ts1.length : Int) := by omega
        clear hle
        go_wp2
        have hne := own_ne' HC1.out HH1.out.rt (by decide)
        refine ⟨⟨j + 1, ts1.set j ZT, by omega, by go_num, by rw [List.length_set]; exact htl, by rw [List.length_set]; exact htl2, ?_, ?_⟩, by simp [intOf]; omega⟩
        · rw [List.length_set]
          exact HH1.out.set_tree j (by omega) _ ZT rfl (fun i q hq hne => by
            by_cases h1 : i < j + 1
            · rw [if_pos h1] at hq; cases hq
            · rw [if_neg h1] at hq; rw [if_neg (by omega)]; exact hq) (fun q hq => by rw [if_pos (by omega)] at hq; cases hq)
        · exact HC1.out.keep fun g' hg' => Below.heap_setCell _ _ _ _ (fun e => hne g' hg' (by rw [e]; rfl))
      · have hjM : j = M := by omega
        subst hjM
        have hcs := HCS.out
        have hn' : ∀ p ∈ cs0, p.2 < (alive ++ [true]).length := fun p hp => by
          rw [hcs] at hp
          have hp := bk_sub hp
          rw [List.length_append, List.length_singleton]
          rcases List.mem_append.1 hp with hp | hp
          · have := HW.out.num p hp; omega
          · simp at hp; subst hp; simp
        have hnone : tlOf L alive (t1 L.length) = none := by
          unfold tlOf
          rw [if_pos]
          exact List.eq_nil_of_length_eq_zero (by rw [bk_length, if_neg (by have := bit_at_t1 L.length; omega)])
        have hfill := fill_any HH1.out HC1.out (t1 L.length) ht20 htl2 (Nat.le_of_eq HP.out) hn' (by rw [List.length_append, List.length_append, HV.out.1]; rfl) (by rw [List.length_append, List.length_singleton]; omega) (by rw [hnone]; split <;> rfl)
        have HFI := Lib.hid hfill
        have HN := Lib.hid hn'
        clear hfill hn' hnone hcs
        go_wp2_with (go_at_call 26; refine HFI.out.mono ?_; rintro e w1 ⟨rfl, hres⟩; have HR := Lib.hid hres; clear hres)
        go_ret2
        obtain ⟨C', tv', ts', hl', hH⟩ := HR.out
        rw [HP.out] at hH
        refine ⟨by rw [← HP.out]; rfl, C', _, _, tv', _, _, ts', _, hH.fewer ?_, HW.out.add hx, ?_, hl'⟩
        · rw [HCS.out]
          exact tl_add HW.out.num hM1
        · rw [HCS.out]
          exact lv_add HV.out HW.out
end
end Go.Proofs.Ytecbheeffmhlnaa.HalfI
