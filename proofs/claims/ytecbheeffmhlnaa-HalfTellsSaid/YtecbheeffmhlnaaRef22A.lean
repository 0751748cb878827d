/- gridironref22's Add and Drop. -/
import Derived.Test.YtecbheeffmhlnaaRef22
namespace Go.Proofs.Ytecbheeffmhlnaa.Ref22
open Go.RowKit Go.Proofs.Ytecbheeffmhlnaa Go.Proofs.Ytecbheeffmhlnaa.Pl Go.Proofs.Ytecbheeffmhlnaa.Law22 Go.Proofs.Ytecbheeffmhlnaa.Ref20

theorem run_allocMd (W : World) : Sem.run Try.prog (Instr.alloc tMd true (.tuple #[])) W = .ok (.pointer (some ⟨W.heap.size, 0, none⟩)) (W.alloc (.cells #[.slice none 0 0, .slice none 0 0, .int .i64 0] tMd)) := by kernel_rfl
theorem run_buildMd2 (A B : Option Addr) (n c m d : Nat) (W : World) : Sem.run Try.prog (Instr.build tMd #[(0, .slice A n c), (1, .slice B m d)]) W = .ok (.agg #[.slice A n c, .slice B m d, .int .i64 0]) W := by kernel_rfl
theorem run_buildMd3 (A B : Option Addr) (n c m d : Nat) (k : Int) (W : World) : Sem.run Try.prog (Instr.build tMd #[(0, .slice A n c), (1, .slice B m d), (2, .int .i64 k)]) W = .ok (.agg #[.slice A n c, .slice B m d, .int .i64 k]) W := by kernel_rfl

section
variable {ops : Array Oper} {Q : Exit → Act → World → Prop} {C : Nat → Nat} {vals : Nat → Value} {t d i : Nat} {o : Oper} {a : Act} {w : World}

theorem thr_allocMd (hi : ops[i]? = some o) (hg : o.guard = none) (hd : o.dst = some d) (ho : o.op = .alloc tMd) :
    wpOp Try.prog ops Q i (fun a' w' => ∃ v, a' = a.put (some d) v ∧ Mod (fun b => C b = t) w w' ∧ (Fact.var tMd #[.slice none 0 0, .slice none 0 0, .int .i64 0]).holds ([d].map (upd vals d v)) (fun b => tint C w.heap.size t b = t) w') a w := by
  refine wpOp_of hi hg ?_
  unfold Oper.wp execOp
  simp only [ho, Sem.run_bind, run_allocMd, Result.andThen_ok]
  show (∃ v, a.put o.dst (.pointer (some ⟨w.heap.size, 0, none⟩)) = a.put (some d) v ∧ _)
  rw [hd]
  exact ⟨_, rfl, Mod.of_below _ ((Below.refl _ w).alloc (Nat.le_refl _) _), w.heap.size, upd_same _ _ _, tint_new (Nat.le_refl _), heap_alloc_new w _⟩

theorem thr_build2 {A B : Option Addr} {n c m k s1 s2 : Nat} (hi : ops[i]? = some o) (hg : o.guard = none) (hd : o.dst = some d) (x y : Operand) (ho : o.op = .build tMd #[(0, x), (1, y)]) (hx : a.eval x = vals s1) (hy : a.eval y = vals s2) (h1 : vals s1 = .slice A n c) (h2 : vals s2 = .slice B m k) (hn1 : s1 ≠ d) (hn2 : s2 ≠ d) :
    wpOp Try.prog ops Q i (fun a' w' => ∃ v, a' = a.put (some d) v ∧ Mod (fun b => C b = t) w w' ∧ (Fact.vals fun vs => ∃ u v, vs = [.agg #[u, v, .int .i64 0], u, v]).holds ([d, s1, s2].map (upd vals d v)) (fun b => tint C w.heap.size t b = t) w') a w := by
  refine wpOp_of hi hg ?_
  unfold Oper.wp execOp
  simp only [ho, Sem.run_bind, List.map_toArray, List.map_cons, List.map_nil, hx, hy, h1, h2, run_buildMd2, Result.andThen_ok]
  show (∃ v, a.put o.dst _ = a.put (some d) v ∧ _)
  rw [hd]
  refine ⟨_, rfl, Mod.refl _ _, .slice A n c, .slice B m k, ?_⟩
  simp [upd, hn1, hn2, h1, h2]
end
/-- the literal of an addition: its operations' threads -/
def addP : Plan := ⟨[0, 3, 5, 6, 7, 10, 11, 12, 13, 14], [], fun i => if i = 0 then 1 else if i = 3 then 1 else if i = 6 then 1 else if i = 10 then 7 else if i = 12 then 7 else i, fun i => if i = 14 then 7 else i + 14,
  fun i => if i = 13 then [27, 20, 26] else if i = 14 then [7] else [i + 14], fun i => if i = 3 then [0] else if i = 6 then [3, 5] else if i = 10 then [7] else if i = 12 then [10, 11] else if i = 13 then [6, 12] else []⟩

set_option maxHeartbeats 2000000 in
theorem add_region {ops : Array Oper} {Q : Exit → Act → World → Prop} {S : World → Prop} {T : List Nat} {L0 L1 : Array Bool} {a : Act} {w0 : World} {fuel : Nat} {md : Region.Mode} (hok : addP.ok md ops L0 L1 = true)
    {o0 : Oper} (h0 : ops[0]? = some o0) (g0 : o0.guard = none) (d0 : o0.dst = some 14) (e0 : o0.op = .buildSlice tIs 0 #[])
    {o3 : Oper} (h3 : ops[3]? = some o3) (g3 : o3.guard = none) (d3 : o3.dst = some 17) (e3 : o3.op = .call { callee := .builtin .append, args := #[.tmp 14, .tmp 16], argTypes := #[tIs, tIs] })
    {o5 : Oper} (h5 : ops[5]? = some o5) (g5 : o5.guard = none) (d5 : o5.dst = some 19) (e5 : o5.op = .buildSlice tIs 1 #[(0, .tmp 18)])
    {o6 : Oper} (h6 : ops[6]? = some o6) (g6 : o6.guard = none) (d6 : o6.dst = some 20) (e6 : o6.op = .call { callee := .builtin .append, args := #[.tmp 17, .tmp 19], argTypes := #[tIs, tIs] })
    {o7 : Oper} (h7 : ops[7]? = some o7) (g7 : o7.guard = none) (d7 : o7.dst = some 21) (e7 : o7.op = .buildSlice tBs 0 #[])
    {o10 : Oper} (h10 : ops[10]? = some o10) (g10 : o10.guard = none) (d10 : o10.dst = some 24) (e10 : o10.op = .call { callee := .builtin .append, args := #[.tmp 21, .tmp 23], argTypes := #[tBs, tBs] })
    {o11 : Oper} (h11 : ops[11]? = some o11) (g11 : o11.guard = none) (d11 : o11.dst = some 25) (e11 : o11.op = .buildSlice tBs 1 #[(0, .const (.bool true))])
    {o12 : Oper} (h12 : ops[12]? = some o12) (g12 : o12.guard = none) (d12 : o12.dst = some 26) (e12 : o12.op = .call { callee := .builtin .append, args := #[.tmp 24, .tmp 25], argTypes := #[tBs, tBs] })
    {o13 : Oper} (h13 : ops[13]? = some o13) (g13 : o13.guard = none) (d13 : o13.dst = some 27) (e13 : o13.op = .build tMd #[(0, .tmp 20), (1, .tmp 26)])
    {o14 : Oper} (h14 : ops[14]? = some o14) (g14 : o14.guard = none) (d14 : o14.dst = some 7) (e14 : o14.op = .alloc tMd)
    {lv av : Value} {x : Int} {P : List (Int × Bool)} (h16 : a.tmps.getD 16 undef = lv) (h18 : a.tmps.getD 18 undef = .int .i64 x) (h23 : a.tmps.getD 23 undef = av) (hsz : 28 ≤ a.tmps.size)
    (hM : Md (· < w0.heap.size) w0 lv av P) (hP : P.length ≤ 400000) (hS : ∀ w', Below w0.heap.size w0 w' → S w')
    (hend : ∀ (vals : Nat → Value) (g : Nat) (A1 : Option Addr) (c1 : Nat) (A2 : Option Addr) (c2 : Nat) (w : World), Below w0.heap.size w0 w → w0.heap.size ≤ g → vals 7 = .pointer (some ⟨g, 0, none⟩) → vals 27 = .agg #[.slice A1 (P.length + 1) c1, .slice A2 (P.length + 1) c2, .int .i64 0] →
      w.heap[g]? = some (.cells #[.slice none 0 0, .slice none 0 0, .int .i64 0] tMd (0, 0)) →
      Own w tI 1 (.slice A1 (P.length + 1) c1) (P.length + 1) (flat encI (P.map (·.1)) ++ [.int .i64 x]) → OB (.slice A1 (P.length + 1) c1) (w0.heap.size ≤ ·) →
      Own w tB 1 (.slice A2 (P.length + 1) c2) (P.length + 1) (flat encB (P.map (·.2)) ++ [.bool true]) → OB (.slice A2 (P.length + 1) c2) (w0.heap.size ≤ ·) →
      wpAnyG Try.prog md ops Q S T fuel L1 (mkD a [14, 17, 19, 20, 21, 24, 25, 26, 27, 7] vals) w) :
    wpAnyG Try.prog md ops Q S T (10 + fuel) L0 a w0 := by
  have hB : ∀ w', Mod (fun b => (0 : Nat) ≠ 0) w0 w' → Below w0.heap.size w0 w' := fun w' hm => hm.below (Nat.le_refl _) fun _ _ h => h rfl
  obtain ⟨F, hF⟩ : ∃ F : Nat → Fact, F = fun k => if k = 0 then .row tI 1 0 [] else if k = 3 then .row tI 1 (0 + (P.map (·.1)).length) ([] ++ flat encI (P.map (·.1))) else if k = 5 then .lit tI 1 #[.int .i64 x] else if k = 6 then .row tI 1 (0 + (P.map (·.1)).length + 1) ([] ++ flat encI (P.map (·.1)) ++ [.int .i64 x])
      else if k = 7 then .row tB 1 0 [] else if k = 10 then .row tB 1 (0 + (P.map (·.2)).length) ([] ++ flat encB (P.map (·.2))) else if k = 11 then .lit tB 1 #[.bool true] else if k = 12 then .row tB 1 (0 + (P.map (·.2)).length + 1) ([] ++ flat encB (P.map (·.2)) ++ [.bool true])
      else if k = 13 then .vals (fun vs => ∃ u v, vs = [.agg #[u, v, .int .i64 0], u, v]) else .var tMd #[.slice none 0 0, .slice none 0 0, .int .i64 0] := ⟨_, rfl⟩
  have F0 : F 0 = .row tI 1 0 [] := by rw [hF]; rfl
  have F3 : F 3 = .row tI 1 (0 + (P.map (·.1)).length) ([] ++ flat encI (P.map (·.1))) := by rw [hF]; rfl
  have F5 : F 5 = .lit tI 1 #[.int .i64 x] := by rw [hF]; rfl
  have F6 : F 6 = .row tI 1 (0 + (P.map (·.1)).length + 1) ([] ++ flat encI (P.map (·.1)) ++ [.int .i64 x]) := by rw [hF]; rfl
  have F7 : F 7 = .row tB 1 0 [] := by rw [hF]; rfl
  have F10 : F 10 = .row tB 1 (0 + (P.map (·.2)).length) ([] ++ flat encB (P.map (·.2))) := by rw [hF]; rfl
  have F11 : F 11 = .lit tB 1 #[.bool true] := by rw [hF]; rfl
  have F12 : F 12 = .row tB 1 (0 + (P.map (·.2)).length + 1) ([] ++ flat encB (P.map (·.2)) ++ [.bool true]) := by rw [hF]; rfl
  have F13 : F 13 = .vals (fun vs => ∃ u v, vs = [.agg #[u, v, .int .i64 0], u, v]) := by rw [hF]; rfl
  have F14 : F 14 = .var tMd #[.slice none 0 0, .slice none 0 0, .int .i64 0] := by rw [hF]; rfl
  clear hF
  refine wpAnyG_threads (fuel := fuel) addP F L0 L1 hok (C0 := fun _ => 0) (fun w' hm => hS w' (hB w' hm)) (by decide) (fun k hk => by cases hk) ?_ ?_
  · intro k hk vals C w hm hus
    have hk' : k = 0 ∨ k = 3 ∨ k = 5 ∨ k = 6 ∨ k = 7 ∨ k = 10 ∨ k = 11 ∨ k = 12 ∨ k = 13 ∨ k = 14 := by simpa [addP] using hk
    have hMw := hM.below' (hB w hm)
    have gs : ∀ t, t ∈ addP.U.map addP.dst → (mkD a (addP.U.map addP.dst) vals).eval (.tmp t) = vals t := fun t ht => mkD_slot _ _ (by decide) ht (by
      have h1 : t ∈ [14, 17, 19, 20, 21, 24, 25, 26, 27, 7] := ht
      simp at h1; omega)
    have e16 := (mkD_other (vals := vals) (t := 16) (addP.U.map addP.dst) a (by decide)).trans h16
    have e18 := (mkD_other (vals := vals) (t := 18) (addP.U.map addP.dst) a (by decide)).trans h18
    have e23 := (mkD_other (vals := vals) (t := 23) (addP.U.map addP.dst) a (by decide)).trans h23
    have q14 := gs 14 (by decide)
    have q17 := gs 17 (by decide)
    have q19 := gs 19 (by decide)
    have q20 := gs 20 (by decide)
    have q21 := gs 21 (by decide)
    have q24 := gs 24 (by decide)
    have q25 := gs 25 (by decide)
    have q26 := gs 26 (by decide)
    clear gs
    have hl1 : (P.map (·.1)).length ≤ 400000 := by rw [List.length_map]; exact hP
    have hl2 : (P.map (·.2)).length ≤ 400000 := by rw [List.length_map]; exact hP
    generalize mkD a (addP.U.map addP.dst) vals = am at *
    rcases hk' with rfl | rfl | rfl | rfl | rfl | rfl | rfl | rfl | rfl | rfl
    · rw [F0]
      exact thr_lit0 etyI h0 g0 d0 e0
    · have u0 := hus 0 (by decide)
      rw [F0] at u0
      rw [F3]
      exact thr_app (s := 14) (d := 17) etyI h3 g3 d3 _ _ e3 u0 q14 e16 (src_of_rd etyI.und hMw.l) (by omega)
    · rw [F5]
      exact thr_lit1 etyI h5 g5 d5 _ e5 e18 rfl
    · have u3 := hus 3 (by decide)
      have u5 := hus 5 (by decide)
      rw [F3] at u3
      rw [F5] at u5
      rw [F6]
      exact thr_app (s := 17) (d := 20) etyI h6 g6 d6 _ _ e6 u3 q17 q19 (src_lit etyI.und u5 rfl (by simp [Value.oneCell'])) (by omega)
    · rw [F7]
      exact thr_lit0 etyB h7 g7 d7 e7
    · have u7 := hus 7 (by decide)
      rw [F7] at u7
      rw [F10]
      exact thr_app (s := 21) (d := 24) etyB h10 g10 d10 _ _ e10 u7 q21 e23 (src_of_rd etyB.und hMw.a) (by omega)
    · rw [F11]
      exact thr_lit1 etyB h11 g11 d11 _ e11 rfl rfl
    · have u10 := hus 10 (by decide)
      have u11 := hus 11 (by decide)
      rw [F10] at u10
      rw [F11] at u11
      rw [F12]
      exact thr_app (s := 24) (d := 26) etyB h12 g12 d12 _ _ e12 u10 q24 q25 (src_lit etyB.und u11 rfl (by simp [Value.oneCell'])) (by omega)
    · have u6 := hus 6 (by decide)
      have u12 := hus 12 (by decide)
      rw [F6] at u6
      rw [F12] at u12
      rw [F13]
      obtain ⟨A1, c1, f1⟩ := (show Own w tI 1 (vals 20) _ _ from u6.1).slice
      obtain ⟨A2, c2, f2⟩ := (show Own w tB 1 (vals 26) _ _ from u12.1).slice
      exact thr_build2 (s1 := 20) (s2 := 26) (d := 27) h13 g13 d13 _ _ e13 q20 q26 f1 f2 (by decide) (by decide)
    · rw [F14]
      exact thr_allocMd h14 g14 d14 e14
  · intro vals C w hm hC hF
    have hb := hB w hm
    have nb : ∀ g t, C g = t → t ≠ 0 → w0.heap.size ≤ g := fun g t hg ht => by
      rcases Nat.lt_or_ge g w0.heap.size with h | h
      · have := hC g h; omega
      · exact h
    have f6 := hF 6 (.inr (by decide)) (by decide)
    have f12 := hF 12 (.inr (by decide)) (by decide)
    have f13 := hF 13 (.inr (by decide)) (by decide)
    have f14 := hF 14 (.inr (by decide)) (by decide)
    rw [F6] at f6
    rw [F12] at f12
    rw [F13] at f13
    rw [F14] at f14
    obtain ⟨r6, b6⟩ := f6
    obtain ⟨r12, b12⟩ := f12
    obtain ⟨u, v, hv⟩ := f13
    obtain ⟨g, hg, hcg, hgb⟩ := f14
    have r6' : Own w tI 1 (vals 20) (P.length + 1) (flat encI (P.map (·.1)) ++ [.int .i64 x]) := by
      have := r6; rw [Nat.zero_add, List.length_map, List.nil_append] at this; exact this
    have r12' : Own w tB 1 (vals 26) (P.length + 1) (flat encB (P.map (·.2)) ++ [.bool true]) := by
      have := r12; rw [Nat.zero_add, List.length_map, List.nil_append] at this; exact this
    have hv' : [vals 27, vals 20, vals 26] = [.agg #[u, v, .int .i64 0], u, v] := hv
    simp only [List.cons.injEq, and_true] at hv'
    obtain ⟨hv1, rfl, rfl⟩ := hv'
    obtain ⟨A1, c1, f1⟩ := r6'.slice
    obtain ⟨A2, c2, f2⟩ := r12'.slice
    have b6' : OB (vals 20) (w0.heap.size ≤ ·) := fun g hg => nb g _ (b6 g hg) (by decide)
    have b12' : OB (vals 26) (w0.heap.size ≤ ·) := fun g hg => nb g _ (b12 g hg) (by decide)
    rw [f1] at r6' b6' hv1
    rw [f2] at r12' b12' hv1
    exact hend vals g A1 c1 A2 c2 w hb (nb g _ hcg (by decide)) hg hv1 hgb r6' b6' r12' b12'

theorem found_in {P : List (Int × Bool)} {x : Int} {e : Ending} (h : Found P x e) (hx : (x, true) ∈ P) : ∃ i : Nat, i < P.length ∧ P[i]? = some (x, true) ∧ e = .returned (.int .i64 i) := by
  rcases h with h | ⟨i, hi, h1, h2⟩
  · exact absurd hx h.1
  · exact ⟨i, hi, by rw [List.getElem?_eq_getElem hi, h1], h2⟩
theorem found_out {P : List (Int × Bool)} {x : Int} {e : Ending} (h : Found P x e) (hx : (x, true) ∉ P) : e = .returned (.int .i64 (-1)) := by
  rcases h with h | ⟨i, hi, h1, h2⟩
  · exact h.2
  · exact absurd (h1 ▸ List.getElem_mem hi) hx

set_option maxRecDepth 100000 in
set_option maxHeartbeats 4000000 in
theorem add_no {S : Nat → Prop} {w : World} {lv av : Value} {P : List (Int × Bool)} (h : Md S w lv av P) (wk x : Int) (hP : P.length ≤ 400000) (hx : (x, true) ∈ P) :
    Calls Try.prog 10 #[.agg #[lv, av, .int .i64 wk], .int .i64 x] w fun e w' => e = .returned (.tuple #[.agg #[lv, av, .int .i64 wk], .int .i64 0, .bool false]) ∧ Below w.heap.size w w' := by
  have hm := h.old
  obtain ⟨A, c, B, d, rfl, rfl, _⟩ := h.form
  clear h
  go_enter Try.func10, Try.ntmps10
  go_wp2_with fail
  have hb0 : Below w.heap.size w ((w.alloc (.cells #[.slice A P.length c, .slice B P.length d, .int .i64 wk] tMd)).alloc (.cells #[.slice none 0 0, .slice none 0 0, .int .i64 0] tMd)) := ((Below.refl _ w).alloc (Nat.le_refl _) _).alloc (by simp) _
  have hx0 : ((w.alloc (.cells #[.slice A P.length c, .slice B P.length d, .int .i64 wk] tMd)).alloc (.cells #[.slice none 0 0, .slice none 0 0, .int .i64 0] tMd)).heap[w.heap.size]? = some (.cells #[.slice A P.length c, .slice B P.length d, .int .i64 wk] tMd (0, 0)) := (Below.heap_alloc _ _ _ (by simp)).trans (heap_alloc_new w _)
  have hx1 : ((w.alloc (.cells #[.slice A P.length c, .slice B P.length d, .int .i64 wk] tMd)).alloc (.cells #[.slice none 0 0, .slice none 0 0, .int .i64 0] tMd)).heap[w.heap.size + 1]? = some (.cells #[.slice none 0 0, .slice none 0 0, .int .i64 0] tMd (0, 0)) := by
    have := heap_alloc_new (w.alloc (.cells #[.slice A P.length c, .slice B P.length d, .int .i64 wk] tMd)) (.cells #[.slice none 0 0, .slice none 0 0, .int .i64 0] tMd)
    simpa using this
  generalize World.alloc (World.alloc w _) _ = w2 at *
  have hfi := find_any (hm.below' hb0) wk x hP
  have HFI := Lib.hid hfi
  clear hfi
  refine HFI.out.mono ?_
  rintro e w3 ⟨hf, hb3⟩
  obtain ⟨i, _, _, rfl⟩ := found_in hf hx
  have hs2 : w.heap.size + 1 < w2.heap.size := (Array.getElem?_eq_some_iff.1 hx1).1
  have hy0 := (hb3.block _ (show w.heap.size < w2.heap.size by omega)).trans hx0
  have hy1 := (hb3.block _ hs2).trans hx1
  have hb4 := then_below hb0 hb3 (by omega)
  have c0 : w3.cell? ⟨w.heap.size, 0, none⟩ = some (.slice A P.length c) := by simp [World.cell?, hy0]
  have c1 : w3.cell? ⟨w.heap.size, 1, none⟩ = some (.slice B P.length d) := by simp [World.cell?, hy0]
  have c2 : w3.cell? ⟨w.heap.size, 2, none⟩ = some (.int .i64 wk) := by simp [World.cell?, hy0]
  have d0 : w3.cell? ⟨w.heap.size + 1, 0, none⟩ = some (.slice none 0 0) := by simp [World.cell?, hy1]
  have d1 : w3.cell? ⟨w.heap.size + 1, 1, none⟩ = some (.slice none 0 0) := by simp [World.cell?, hy1]
  have d2 : w3.cell? ⟨w.heap.size + 1, 2, none⟩ = some (.int .i64 0) := by simp [World.cell?, hy1]
  have df : ∀ j, w3.frozen? ⟨w.heap.size + 1, j, none⟩ = false := fun j => by simp [World.frozen?, hy1]
  clear hx0 hx1 hb0 hb3 hf HFI hm
  go_wp2
  have hz : (((w3.setCell ⟨w.heap.size + 1, 0, none⟩ (.slice A P.length c)).setCell ⟨w.heap.size + 1, 1, none⟩ (.slice B P.length d)).setCell ⟨w.heap.size + 1, 2, none⟩ (.int .i64 wk)).heap[w.heap.size + 1]? = some (.cells #[.slice A P.length c, .slice B P.length d, .int .i64 wk] tMd (0, 0)) := by
    simp [World.setCell, Array.getElem?_modify, hy1]
  have hb5 := ((hb4.setCell (p := ⟨w.heap.size + 1, 0, none⟩) (by simp) (.slice A P.length c)).setCell (p := ⟨w.heap.size + 1, 1, none⟩) (by simp) (.slice B P.length d)).setCell (p := ⟨w.heap.size + 1, 2, none⟩) (by simp) (.int .i64 wk)
  generalize World.setCell _ _ _ = w5 at *
  have z0 : w5.cell? ⟨w.heap.size + 1, 0, none⟩ = some (.slice A P.length c) := by simp [World.cell?, hz]
  have z1 : w5.cell? ⟨w.heap.size + 1, 1, none⟩ = some (.slice B P.length d) := by simp [World.cell?, hz]
  have z2 : w5.cell? ⟨w.heap.size + 1, 2, none⟩ = some (.int .i64 wk) := by simp [World.cell?, hz]
  exact bodyPost_ret (v := .tuple #[.agg #[.slice A P.length c, .slice B P.length d, .int .i64 wk], .int .i64 0, .bool false]) (by simp [results, Try.results10, go_sem, z0, z1, z2]) rfl ⟨rfl, hb5⟩

set_option maxRecDepth 100000 in
set_option maxHeartbeats 4000000 in
theorem add_yes {S : Nat → Prop} {w : World} {lv av : Value} {P : List (Int × Bool)} (h : Md S w lv av P) (wk x : Int) (hP : P.length ≤ 400000) (hx : (x, true) ∉ P) (hwk : 0 ≤ wk) (hwk2 : wk ≤ 1000000000000) (P0 : Nat) (hP0 : P0 = 2 ^ t1 P.length) :
    Calls Try.prog 10 #[.agg #[lv, av, .int .i64 wk], .int .i64 x] w fun e w' => ∃ lv' av', e = .returned (.tuple #[.agg #[lv', av', .int .i64 (wk + P0)], .int .i64 P0, .bool true]) ∧ Md (w.heap.size ≤ ·) w' lv' av' (P ++ [(x, true)]) ∧ Below w.heap.size w w' := by
  have hm := h.old
  obtain ⟨A, c, B, d, rfl, rfl, _⟩ := h.form
  clear h
  go_enter Try.func10, Try.ntmps10
  go_wp2_with fail
  have hb0 : Below w.heap.size w ((w.alloc (.cells #[.slice A P.length c, .slice B P.length d, .int .i64 wk] tMd)).alloc (.cells #[.slice none 0 0, .slice none 0 0, .int .i64 0] tMd)) := ((Below.refl _ w).alloc (Nat.le_refl _) _).alloc (by simp) _
  have hx0 : ((w.alloc (.cells #[.slice A P.length c, .slice B P.length d, .int .i64 wk] tMd)).alloc (.cells #[.slice none 0 0, .slice none 0 0, .int .i64 0] tMd)).heap[w.heap.size]? = some (.cells #[.slice A P.length c, .slice B P.length d, .int .i64 wk] tMd (0, 0)) := (Below.heap_alloc _ _ _ (by simp)).trans (heap_alloc_new w _)
  have hx1 : ((w.alloc (.cells #[.slice A P.length c, .slice B P.length d, .int .i64 wk] tMd)).alloc (.cells #[.slice none 0 0, .slice none 0 0, .int .i64 0] tMd)).heap[w.heap.size + 1]? = some (.cells #[.slice none 0 0, .slice none 0 0, .int .i64 0] tMd (0, 0)) := by
    have := heap_alloc_new (w.alloc (.cells #[.slice A P.length c, .slice B P.length d, .int .i64 wk] tMd)) (.cells #[.slice none 0 0, .slice none 0 0, .int .i64 0] tMd)
    simpa using this
  generalize World.alloc (World.alloc w _) _ = w2 at *
  have hfi := find_any (hm.below' hb0) wk x hP
  have HFI := Lib.hid hfi
  clear hfi
  refine HFI.out.mono ?_
  rintro e w3 ⟨hf, hb3⟩
  obtain rfl := found_out hf hx
  have hs2 : w.heap.size + 1 < w2.heap.size := (Array.getElem?_eq_some_iff.1 hx1).1
  have hy0 := (hb3.block _ (show w.heap.size < w2.heap.size by omega)).trans hx0
  have hy1 := (hb3.block _ hs2).trans hx1
  have hb4 := then_below hb0 hb3 (by omega)
  have c0 : w3.cell? ⟨w.heap.size, 0, none⟩ = some (.slice A P.length c) := by simp [World.cell?, hy0]
  have c1 : w3.cell? ⟨w.heap.size, 1, none⟩ = some (.slice B P.length d) := by simp [World.cell?, hy0]
  have c2 : w3.cell? ⟨w.heap.size, 2, none⟩ = some (.int .i64 wk) := by simp [World.cell?, hy0]
  have d0 : w3.cell? ⟨w.heap.size + 1, 0, none⟩ = some (.slice none 0 0) := by simp [World.cell?, hy1]
  have d1 : w3.cell? ⟨w.heap.size + 1, 1, none⟩ = some (.slice none 0 0) := by simp [World.cell?, hy1]
  have d2 : w3.cell? ⟨w.heap.size + 1, 2, none⟩ = some (.int .i64 0) := by simp [World.cell?, hy1]
  have df : ∀ j, w3.frozen? ⟨w.heap.size + 1, j, none⟩ = false := fun j => by simp [World.frozen?, hy1]
  have hm3 := (hm.below' hb4).old
  have HM3 := Lib.hid hm3
  have HB4 := Lib.hid hb4
  have HY0 := Lib.hid hy0
  have HY1 := Lib.hid hy1
  clear hx0 hx1 hb0 hb3 hf HFI hm hm3 hb4 hy0 hy1 d0 d1 d2 df hs2
  go_upto_region 3 with (fail)
  have hszw : w.heap.size < w3.heap.size := World.block_lt_of_cell? w3 _ c0
  refine wp_region_G (fun w' => w'.cell? ⟨w.heap.size, 0, none⟩ = some (.slice A P.length c) ∧ w'.cell? ⟨w.heap.size, 1, none⟩ = some (.slice B P.length d)) [15] (by kernel_rfl) ?_
  have hHeld : (fun w' : World => w'.cell? ⟨w.heap.size, 0, none⟩ = some (.slice A P.length c) ∧ w'.cell? ⟨w.heap.size, 1, none⟩ = some (.slice B P.length d)) w3.drew := ⟨c0, c1⟩
  refine wpAnyG_free 1 (v := ?_) rfl (by kernel_rfl) (by kernel_rfl) (by kernel_rfl) (fun _ _ _ h => h) (Or.inl ⟨by rfl, ?_⟩) ?_
  rotate_left
  · intro w hSw; (try dsimp only at hSw); go_simp; try with_reducible rfl
  set_option linter.unusedSimpArgs false in simp only [List.getElem_toArray, List.getElem_cons_zero, List.getElem_cons_succ, Act.put, List.setIfInBounds_toArray, List.set_cons_zero, List.set_cons_succ]
  refine wpAnyG_take 2 (v := ?_) rfl (by kernel_rfl) (by kernel_rfl) (by kernel_rfl) (by kernel_rfl) (fun _ _ _ h => h) (Or.inl ⟨by rfl, ?_⟩) (by assumption) ?_
  rotate_left
  · intro w hSw; (try dsimp only at hSw); go_simp; try with_reducible rfl
  set_option linter.unusedSimpArgs false in simp only [List.getElem_toArray, List.getElem_cons_zero, List.getElem_cons_succ, Act.put, List.setIfInBounds_toArray, List.set_cons_zero, List.set_cons_succ]
  refine wpAnyG_free 4 (v := ?_) rfl (by kernel_rfl) (by kernel_rfl) (by kernel_rfl) (fun _ _ _ h => h) (Or.inl ⟨by rfl, ?_⟩) ?_
  rotate_left
  · intro w hSw; (try dsimp only at hSw); go_simp; try with_reducible rfl
  set_option linter.unusedSimpArgs false in simp only [List.getElem_toArray, List.getElem_cons_zero, List.getElem_cons_succ, Act.put, List.setIfInBounds_toArray, List.set_cons_zero, List.set_cons_succ]
  refine wpAnyG_free 8 (v := ?_) rfl (by kernel_rfl) (by kernel_rfl) (by kernel_rfl) (fun _ _ _ h => h) (Or.inl ⟨by rfl, ?_⟩) ?_
  rotate_left
  · intro w hSw; (try dsimp only at hSw); go_simp; try with_reducible rfl
  set_option linter.unusedSimpArgs false in simp only [List.getElem_toArray, List.getElem_cons_zero, List.getElem_cons_succ, Act.put, List.setIfInBounds_toArray, List.set_cons_zero, List.set_cons_succ]
  refine wpAnyG_take 9 (v := ?_) rfl (by kernel_rfl) (by kernel_rfl) (by kernel_rfl) (by kernel_rfl) (fun _ _ _ h => h) (Or.inl ⟨by rfl, ?_⟩) (by assumption) ?_
  rotate_left
  · intro w hSw; (try dsimp only at hSw); go_simp; try with_reducible rfl
  set_option linter.unusedSimpArgs false in simp only [List.getElem_toArray, List.getElem_cons_zero, List.getElem_cons_succ, Act.put, List.setIfInBounds_toArray, List.set_cons_zero, List.set_cons_succ]
  refine add_region (x := x) (P := P) (fuel := 1) (L1 := #[true, true, true, true, true, true, true, true, true, true, true, true, true, true, true, false]) ?_ rfl rfl rfl rfl rfl rfl rfl rfl rfl rfl rfl rfl rfl rfl rfl rfl rfl rfl rfl rfl rfl rfl rfl rfl rfl rfl rfl rfl rfl rfl rfl rfl rfl rfl rfl rfl rfl rfl rfl rfl ?_ ?_ ?_ ?_ (Md.below' HM3.out (drewN_below (Below.refl _ _) 1)) hP (fun w' hb => ⟨(hb.cell (p := ⟨w.heap.size, 0, none⟩) hszw).trans c0, (hb.cell (p := ⟨w.heap.size, 1, none⟩) hszw).trans c1⟩) ?_
  · kernel_rfl
  · simp
  · simp
  · simp
  · simp
  intro vals g A1 k1 A2 k2 w4 hb4 hg e7 e27 hgb o1 ob1 o2 ob2
  simp only [mkD, List.foldl_cons, List.foldl_nil, Act.put, List.setIfInBounds_toArray, List.set_cons_zero, List.set_cons_succ]
  rw [e7, e27]
  have hg' : w3.heap.size ≤ g := hg
  have hb4' : Below w3.heap.size w3 w4 := ⟨hb4.os, hb4.tape, hb4.output, hb4.size, hb4.block⟩
  have hy0 := (hb4'.block _ hszw).trans HY0.out
  have hsz1 : w.heap.size + 1 < w3.heap.size := (Array.getElem?_eq_some_iff.1 HY1.out).1
  have hy1 := (hb4'.block _ hsz1).trans HY1.out
  have hb5 := then_below HB4.out hb4' (Nat.le_of_lt hszw)
  have n1 : g ≠ w.heap.size := by omega
  have n2 : g ≠ w.heap.size + 1 := by omega
  have g0 : w4.cell? ⟨g, 0, none⟩ = some (.slice none 0 0) := by simp [World.cell?, hgb]
  have g1 : w4.cell? ⟨g, 1, none⟩ = some (.slice none 0 0) := by simp [World.cell?, hgb]
  have g2 : w4.cell? ⟨g, 2, none⟩ = some (.int .i64 0) := by simp [World.cell?, hgb]
  have gf : ∀ j, w4.frozen? ⟨g, j, none⟩ = false := fun j => by simp [World.frozen?, hgb]
  have HY0' := Lib.hid hy0
  have HY1' := Lib.hid hy1
  have HO1 := Lib.hid o1
  have HO2 := Lib.hid o2
  have HOB1 := Lib.hid ob1
  have HOB2 := Lib.hid ob2
  have HG := Lib.hid hgb
  have HB5 := Lib.hid hb5
  clear e7 e27 hb4 hb4' hy0 hy1 o1 o2 ob1 ob2 hgb hb5 HY0 HY1 HB4 HM3 hHeld c0 c1 c2
  refine wpAnyG_seq (List.drop 15 (Array.toList _)) 15 (fun j => by rw [List.getElem?_drop, Array.getElem?_toList]) (by kernel_rfl) ?_ (fun j h1 h2 => ?_)
  case refine_2 =>
    have h3 : j < 16 := h2
    have h4 : j = 15 := by omega
    subst h4; rfl
  simp only [List.drop_succ_cons, List.drop_zero]
  have hP1 : P.length + 1 ≤ 400001 := by omega
  go_upto_region 4 with (fail)
  have hz : (((w4.setCell ⟨g, 0, none⟩ (.slice A1 (P.length + 1) k1)).setCell ⟨g, 1, none⟩ (.slice A2 (P.length + 1) k2)).setCell ⟨g, 2, none⟩ (.int .i64 0)).heap[g]? = some (.cells #[.slice A1 (P.length + 1) k1, .slice A2 (P.length + 1) k2, .int .i64 0] tMd (0, 0)) := by
    simp [World.setCell, Array.getElem?_modify, HG.out]
  have ho : ∀ b, b ≠ g → (((w4.setCell ⟨g, 0, none⟩ (.slice A1 (P.length + 1) k1)).setCell ⟨g, 1, none⟩ (.slice A2 (P.length + 1) k2)).setCell ⟨g, 2, none⟩ (.int .i64 0)).heap[b]? = w4.heap[b]? := fun b hb => by
    rw [Below.heap_setCell _ _ _ _ hb, Below.heap_setCell _ _ _ _ hb, Below.heap_setCell _ _ _ _ hb]
  have hb6 := ((HB5.out.setCell (p := ⟨g, 0, none⟩) (by show w.heap.size ≤ g; omega) (.slice A1 (P.length + 1) k1)).setCell (p := ⟨g, 1, none⟩) (by show w.heap.size ≤ g; omega) (.slice A2 (P.length + 1) k2)).setCell (p := ⟨g, 2, none⟩) (by show w.heap.size ≤ g; omega) (.int .i64 0)
  generalize World.setCell _ _ _ = w5 at *
  have hy0 := (ho _ (Ne.symm n1)).trans HY0'.out
  have hy1 := (ho _ (Ne.symm n2)).trans HY1'.out
  have o1 := HO1.out.keep (w' := w5) fun b hb => ho b (own_ne HO1.out HG.out (by decide) b hb)
  have o2 := HO2.out.keep (w' := w5) fun b hb => ho b (own_ne HO2.out HG.out (by decide) b hb)
  have z0 : w5.cell? ⟨g, 0, none⟩ = some (.slice A1 (P.length + 1) k1) := by simp [World.cell?, hz]
  have z1 : w5.cell? ⟨g, 1, none⟩ = some (.slice A2 (P.length + 1) k2) := by simp [World.cell?, hz]
  have z2 : w5.cell? ⟨g, 2, none⟩ = some (.int .i64 0) := by simp [World.cell?, hz]
  have zf : w5.frozen? ⟨g, 2, none⟩ = false := by simp [World.frozen?, hz]
  have c2 : w5.cell? ⟨w.heap.size, 2, none⟩ = some (.int .i64 wk) := by simp [World.cell?, hy0]
  have d0 : w5.cell? ⟨w.heap.size + 1, 0, none⟩ = some (.slice none 0 0) := by simp [World.cell?, hy1]
  have d1 : w5.cell? ⟨w.heap.size + 1, 1, none⟩ = some (.slice none 0 0) := by simp [World.cell?, hy1]
  have d2 : w5.cell? ⟨w.heap.size + 1, 2, none⟩ = some (.int .i64 0) := by simp [World.cell?, hy1]
  have df : ∀ j, w5.frozen? ⟨w.heap.size + 1, j, none⟩ = false := fun j => by simp [World.frozen?, hy1]
  have HO1' := Lib.hid o1
  have HO2' := Lib.hid o2
  have HZ := Lib.hid hz
  have HY := Lib.hid hy1
  have HB6 := Lib.hid hb6
  clear ho hz hy0 hy1 o1 o2 hb6 g0 g1 g2 gf
  have hpl := placed_any P.length P0 hP0 w5 hP
  have hP0l : P0 ≤ 400001 := by rw [hP0]; have := t1_pow_le P.length; omega
  have HPL := Lib.hid hpl
  clear hP0 hpl
  go_wp2_with (go_at_call 27; refine HPL.out.mono ?_; rintro e w6 ⟨rfl, rfl⟩)
  have hz : ((((w5.setCell ⟨g, 2, none⟩ (.int .i64 (wk + P0))).setCell ⟨w.heap.size + 1, 0, none⟩ (.slice A1 (P.length + 1) k1)).setCell ⟨w.heap.size + 1, 1, none⟩ (.slice A2 (P.length + 1) k2)).setCell ⟨w.heap.size + 1, 2, none⟩ (.int .i64 (wk + P0))).heap[w.heap.size + 1]? = some (.cells #[.slice A1 (P.length + 1) k1, .slice A2 (P.length + 1) k2, .int .i64 (wk + P0)] tMd (0, 0)) := by
    have := HY.out
    have h2 : (w5.setCell ⟨g, 2, none⟩ (.int .i64 (wk + P0))).heap[w.heap.size + 1]? = some (.cells #[.slice none 0 0, .slice none 0 0, .int .i64 0] tMd (0, 0)) := by rw [Below.heap_setCell _ _ _ _ (Ne.symm n2)]; exact this
    generalize World.setCell w5 _ _ = w6 at *
    simp [World.setCell, Array.getElem?_modify, h2]
  have ho : ∀ b, b ≠ g → b ≠ w.heap.size + 1 → ((((w5.setCell ⟨g, 2, none⟩ (.int .i64 (wk + P0))).setCell ⟨w.heap.size + 1, 0, none⟩ (.slice A1 (P.length + 1) k1)).setCell ⟨w.heap.size + 1, 1, none⟩ (.slice A2 (P.length + 1) k2)).setCell ⟨w.heap.size + 1, 2, none⟩ (.int .i64 (wk + P0))).heap[b]? = w5.heap[b]? := fun b hb hb' => by
    rw [Below.heap_setCell _ _ _ _ hb', Below.heap_setCell _ _ _ _ hb', Below.heap_setCell _ _ _ _ hb', Below.heap_setCell _ _ _ _ hb]
  have hb7 := (((HB6.out.setCell (p := ⟨g, 2, none⟩) (by show w.heap.size ≤ g; omega) (.int .i64 (wk + P0))).setCell (p := ⟨w.heap.size + 1, 0, none⟩) (by simp) (.slice A1 (P.length + 1) k1)).setCell (p := ⟨w.heap.size + 1, 1, none⟩) (by simp) (.slice A2 (P.length + 1) k2)).setCell (p := ⟨w.heap.size + 1, 2, none⟩) (by simp) (.int .i64 (wk + P0))
  generalize World.setCell _ _ _ = w7 at *
  have z0 : w7.cell? ⟨w.heap.size + 1, 0, none⟩ = some (.slice A1 (P.length + 1) k1) := by simp [World.cell?, hz]
  have z1 : w7.cell? ⟨w.heap.size + 1, 1, none⟩ = some (.slice A2 (P.length + 1) k2) := by simp [World.cell?, hz]
  have z2 : w7.cell? ⟨w.heap.size + 1, 2, none⟩ = some (.int .i64 (wk + P0)) := by simp [World.cell?, hz]
  have o1 := HO1'.out.keep (w' := w7) fun b hb => ho b (own_ne HO1'.out HZ.out (by decide) b hb) (own_ne HO1'.out HY.out (by decide) b hb)
  have o2 := HO2'.out.keep (w' := w7) fun b hb => ho b (own_ne HO2'.out HZ.out (by decide) b hb) (own_ne HO2'.out HY.out (by decide) b hb)
  refine bodyPost_ret (v := .tuple #[.agg #[.slice A1 (P.length + 1) k1, .slice A2 (P.length + 1) k2, .int .i64 (wk + P0)], .int .i64 P0, .bool true]) (by simp [results, Try.results10, go_sem, z0, z1, z2]) rfl ⟨_, _, rfl, ⟨?_, ?_⟩, hb7⟩
  · have hr := Own.rd o1 (S := (w.heap.size ≤ ·)) (fun u hu => by
      rw [flatI] at hu; simp only [List.mem_append, List.mem_map, List.mem_singleton] at hu
      rcases hu with ⟨_, _, rfl⟩ | rfl <;> rfl) (fun b hb => Nat.le_trans (Nat.le_of_lt hszw) (HOB1.out b hb))
    have e1 : ((P ++ [(x, true)]).map (·.1)).length = P.length + 1 := by simp
    have e2 : flat encI ((P ++ [(x, true)]).map (·.1)) = flat encI (P.map (·.1)) ++ [.int .i64 x] := by rw [List.map_append, flat_append]; rfl
    unfold RdL
    rw [e1, e2]
    exact hr
  · have hr := Own.rd o2 (S := (w.heap.size ≤ ·)) (fun u hu => by
      rw [flatB] at hu; simp only [List.mem_append, List.mem_map, List.mem_singleton] at hu
      rcases hu with ⟨_, _, rfl⟩ | rfl <;> rfl) (fun b hb => Nat.le_trans (Nat.le_of_lt hszw) (HOB2.out b hb))
    have e1 : ((P ++ [(x, true)]).map (·.2)).length = P.length + 1 := by simp
    have e2 : flat encB ((P ++ [(x, true)]).map (·.2)) = flat encB (P.map (·.2)) ++ [.bool true] := by rw [List.map_append, flat_append]; rfl
    unfold RdL
    rw [e1, e2]
    exact hr

end Go.Proofs.Ytecbheeffmhlnaa.Ref22
