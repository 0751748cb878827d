/- gridironref22's Drop. -/
import Derived.Test.YtecbheeffmhlnaaRef22A
namespace Go.Proofs.Ytecbheeffmhlnaa.Ref22
open Go.RowKit Go.Proofs.Ytecbheeffmhlnaa Go.Proofs.Ytecbheeffmhlnaa.Pl Go.Proofs.Ytecbheeffmhlnaa.Law22 Go.Proofs.Ytecbheeffmhlnaa.Ref20

section
variable {ops : Array Oper} {Q : Exit → Act → World → Prop} {C : Nat → Nat} {vals : Nat → Value} {t d i : Nat} {o : Oper} {a : Act} {w : World}
theorem thr_build3 {A B : Option Addr} {n c m k s : Nat} {wk : Int} (hi : ops[i]? = some o) (hg : o.guard = none) (hd : o.dst = some d) (x y z : Operand) (ho : o.op = .build tMd #[(0, x), (1, y), (2, z)]) (hx : a.eval x = .slice A n c) (hy : a.eval y = vals s) (hz : a.eval z = .int .i64 wk) (h2 : vals s = .slice B m k) (hn : s ≠ d) :
    wpOp Try.prog ops Q i (fun a' w' => ∃ v, a' = a.put (some d) v ∧ Mod (fun b => C b = t) w w' ∧ (Fact.vals fun vs => ∃ v, vs = [.agg #[.slice A n c, v, .int .i64 wk], v]).holds ([d, s].map (upd vals d v)) (fun b => tint C w.heap.size t b = t) w') a w := by
  refine wpOp_of hi hg ?_
  unfold Oper.wp execOp
  simp only [ho, Sem.run_bind, List.map_toArray, List.map_cons, List.map_nil, hx, hy, hz, h2, run_buildMd3, Result.andThen_ok]
  show (∃ v, a.put o.dst _ = a.put (some d) v ∧ _)
  rw [hd]
  refine ⟨_, rfl, Mod.refl _ _, .slice B m k, ?_⟩
  simp [upd, hn, h2]
end

/-- the literal of a drop: its operations' threads -/
def dropP : Plan := ⟨[2, 5, 8, 9], [], fun i => if i = 5 then 2 else i, fun i => if i = 9 then 8 else i + 17, fun i => if i = 8 then [25, 22] else if i = 9 then [8] else [i + 17], fun i => if i = 5 then [2] else if i = 8 then [5] else []⟩

set_option maxHeartbeats 2000000 in
theorem drop_region {ops : Array Oper} {Q : Exit → Act → World → Prop} {S : World → Prop} {T : List Nat} {L0 L1 : Array Bool} {a : Act} {w0 : World} {fuel : Nat} {md : Region.Mode} (hok : dropP.ok md ops L0 L1 = true)
    {o2 : Oper} (h2 : ops[2]? = some o2) (g2 : o2.guard = none) (d2 : o2.dst = some 19) (e2 : o2.op = .buildSlice tBs 0 #[])
    {o5 : Oper} (h5 : ops[5]? = some o5) (g5 : o5.guard = none) (d5 : o5.dst = some 22) (e5 : o5.op = .call { callee := .builtin .append, args := #[.tmp 19, .tmp 21], argTypes := #[tBs, tBs] })
    {o8 : Oper} (h8 : ops[8]? = some o8) (g8 : o8.guard = none) (d8 : o8.dst = some 25) (e8 : o8.op = .build tMd #[(0, .tmp 18), (1, .tmp 22), (2, .tmp 24)])
    {o9 : Oper} (h9 : ops[9]? = some o9) (g9 : o9.guard = none) (d9 : o9.dst = some 8) (e9 : o9.op = .alloc tMd)
    {A : Option Addr} {n c : Nat} {av : Value} {wk : Int} {bs : List Bool} (h18 : a.tmps.getD 18 undef = .slice A n c) (h21 : a.tmps.getD 21 undef = av) (h24 : a.tmps.getD 24 undef = .int .i64 wk) (hsz : 26 ≤ a.tmps.size)
    (hM : RdL (· < w0.heap.size) encB 1 w0 av bs) (hP : bs.length ≤ 400000) (hS : ∀ w', Below w0.heap.size w0 w' → S w')
    (hend : ∀ (vals : Nat → Value) (g : Nat) (A2 : Option Addr) (c2 : Nat) (w : World), Below w0.heap.size w0 w → w0.heap.size ≤ g → vals 8 = .pointer (some ⟨g, 0, none⟩) → vals 25 = .agg #[.slice A n c, .slice A2 bs.length c2, .int .i64 wk] →
      w.heap[g]? = some (.cells #[.slice none 0 0, .slice none 0 0, .int .i64 0] tMd (0, 0)) →
      Own w tB 1 (.slice A2 bs.length c2) bs.length (flat encB bs) → OB (.slice A2 bs.length c2) (w0.heap.size ≤ ·) →
      wpAnyG Try.prog md ops Q S T fuel L1 (mkD a [19, 22, 25, 8] vals) w) :
    wpAnyG Try.prog md ops Q S T (4 + fuel) L0 a w0 := by
  have hB : ∀ w', Mod (fun b => (0 : Nat) ≠ 0) w0 w' → Below w0.heap.size w0 w' := fun w' hm => hm.below (Nat.le_refl _) fun _ _ h => h rfl
  obtain ⟨F, hF⟩ : ∃ F : Nat → Fact, F = fun k => if k = 2 then .row tB 1 0 [] else if k = 5 then .row tB 1 (0 + bs.length) ([] ++ flat encB bs) else if k = 8 then .vals (fun vs => ∃ v, vs = [.agg #[.slice A n c, v, .int .i64 wk], v]) else .var tMd #[.slice none 0 0, .slice none 0 0, .int .i64 0] := ⟨_, rfl⟩
  have F2 : F 2 = .row tB 1 0 [] := by rw [hF]; rfl
  have F5 : F 5 = .row tB 1 (0 + bs.length) ([] ++ flat encB bs) := by rw [hF]; rfl
  have F8 : F 8 = .vals (fun vs => ∃ v, vs = [.agg #[.slice A n c, v, .int .i64 wk], v]) := by rw [hF]; rfl
  have F9 : F 9 = .var tMd #[.slice none 0 0, .slice none 0 0, .int .i64 0] := by rw [hF]; rfl
  clear hF
  refine wpAnyG_threads (fuel := fuel) dropP F L0 L1 hok (C0 := fun _ => 0) (fun w' hm => hS w' (hB w' hm)) (by decide) (fun k hk => by cases hk) ?_ ?_
  · intro k hk vals C w hm hus
    have hk' : k = 2 ∨ k = 5 ∨ k = 8 ∨ k = 9 := by simpa [dropP] using hk
    have hMw := Rd.below' hM (by decide) (hB w hm)
    have gs : ∀ t, t ∈ dropP.U.map dropP.dst → (mkD a (dropP.U.map dropP.dst) vals).eval (.tmp t) = vals t := fun t ht => mkD_slot _ _ (by decide) ht (by
      have h1 : t ∈ [19, 22, 25, 8] := ht
      simp at h1; omega)
    have e18 := (mkD_other (vals := vals) (t := 18) (dropP.U.map dropP.dst) a (by decide)).trans h18
    have e21 := (mkD_other (vals := vals) (t := 21) (dropP.U.map dropP.dst) a (by decide)).trans h21
    have e24 := (mkD_other (vals := vals) (t := 24) (dropP.U.map dropP.dst) a (by decide)).trans h24
    have q19 := gs 19 (by decide)
    have q22 := gs 22 (by decide)
    clear gs
    generalize mkD a (dropP.U.map dropP.dst) vals = am at *
    rcases hk' with rfl | rfl | rfl | rfl
    · rw [F2]
      exact thr_lit0 etyB h2 g2 d2 e2
    · have u2 := hus 2 (by decide)
      rw [F2] at u2
      rw [F5]
      exact thr_app (s := 19) (d := 22) etyB h5 g5 d5 _ _ e5 u2 q19 e21 (src_of_rd etyB.und hMw) (by omega)
    · have u5 := hus 5 (by decide)
      rw [F5] at u5
      rw [F8]
      obtain ⟨A2, c2, f2⟩ := (show Own w tB 1 (vals 22) _ _ from u5.1).slice
      exact thr_build3 (s := 22) (d := 25) h8 g8 d8 _ _ _ e8 e18 q22 e24 f2 (by decide)
    · rw [F9]
      exact thr_allocMd h9 g9 d9 e9
  · intro vals C w hm hC hF
    have hb := hB w hm
    have nb : ∀ g t, C g = t → t ≠ 0 → w0.heap.size ≤ g := fun g t hg ht => by
      rcases Nat.lt_or_ge g w0.heap.size with h | h
      · have := hC g h; omega
      · exact h
    have f5 := hF 5 (.inr (by decide)) (by decide)
    have f8 := hF 8 (.inr (by decide)) (by decide)
    have f9 := hF 9 (.inr (by decide)) (by decide)
    rw [F5] at f5
    rw [F8] at f8
    rw [F9] at f9
    obtain ⟨r5, b5⟩ := f5
    obtain ⟨v, hv⟩ := f8
    obtain ⟨g, hg, hcg, hgb⟩ := f9
    have r5' : Own w tB 1 (vals 22) bs.length (flat encB bs) := by
      have := r5; rw [Nat.zero_add, List.nil_append] at this; exact this
    have hv' : [vals 25, vals 22] = [.agg #[.slice A n c, v, .int .i64 wk], v] := hv
    simp only [List.cons.injEq, and_true] at hv'
    obtain ⟨hv1, rfl⟩ := hv'
    obtain ⟨A2, c2, f2⟩ := r5'.slice
    have b5' : OB (vals 22) (w0.heap.size ≤ ·) := fun g hg => nb g _ (b5 g hg) (by decide)
    rw [f2] at r5' b5' hv1
    exact hend vals g A2 c2 w hb (nb g _ hcg (by decide)) hg hv1 hgb r5' b5'

set_option maxRecDepth 100000 in
set_option maxHeartbeats 4000000 in
theorem drop_no {S : Nat → Prop} {w : World} {lv av : Value} {P : List (Int × Bool)} (h : Md S w lv av P) (wk x : Int) (hP : P.length ≤ 400000) (hx : (x, true) ∉ P) :
    Calls Try.prog 8 #[.agg #[lv, av, .int .i64 wk], .int .i64 x] w fun e w' => e = .returned (.tuple #[.agg #[lv, av, .int .i64 wk], .int .i64 0, .bool false]) ∧ Below w.heap.size w w' := by
  have hm := h.old
  obtain ⟨A, c, B, d, rfl, rfl, _⟩ := h.form
  clear h
  go_enter Try.func8, Try.ntmps8
  go_wp2_with fail
  have hb0 : Below w.heap.size w ((w.alloc (.cells #[.slice A P.length c, .slice B P.length d, .int .i64 wk] tMd)).alloc (.cells #[.slice none 0 0, .slice none 0 0, .int .i64 0] tMd)) := ((Below.refl _ w).alloc (Nat.le_refl _) _).alloc (by simp) _
  have hx0 : ((w.alloc (.cells #[.slice A P.length c, .slice B P.length d, .int .i64 wk] tMd)).alloc (.cells #[.slice none 0 0, .slice none 0 0, .int .i64 0] tMd)).heap[w.heap.size]? = some (.cells #[.slice A P.length c, .slice B P.length d, .int .i64 wk] tMd (0, 0)) := (Below.heap_alloc _ _ _ (by simp)).trans (heap_alloc_new w _)
  have hx1 : ((w.alloc (.cells #[.slice A P.length c, .slice B P.length d, .int .i64 wk] tMd)).alloc (.cells #[.slice none 0 0, .slice none 0 0, .int .i64 0] tMd)).heap[w.heap.size + 1]? = some (.cells #[.slice none 0 0, .slice none 0 0, .int .i64 0] tMd (0, 0)) := by
    have := heap_alloc_new (w.alloc (.cells #[.slice A P.length c, .slice B P.length d, .int .i64 wk] tMd)) (.cells #[.slice none 0 0, .slice none 0 0, .int .i64 0] tMd)
    simpa using this
  generalize World.alloc (World.alloc w _) _ = w2 at *
  have hfi := find_any (hm.below' hb0) wk x hP
  have HFI := Lib.hid hfi
  clear hfi
  refine HFI.out.mono ?_
  rintro e w3 ⟨hf, hb3⟩
  obtain rfl := found_out hf hx
  have hs2 : w.heap.size + 1 < w2.heap.size := (Array.getElem?_eq_some_iff.1 hx1).1
  have hy0 := (hb3.block _ (show w.heap.size < w2.heap.size by omega)).trans hx0
  have hy1 := (hb3.block _ hs2).trans hx1
  have hb4 := then_below hb0 hb3 (by omega)
  have c0 : w3.cell? ⟨w.heap.size, 0, none⟩ = some (.slice A P.length c) := by simp [World.cell?, hy0]
  have c1 : w3.cell? ⟨w.heap.size, 1, none⟩ = some (.slice B P.length d) := by simp [World.cell?, hy0]
  have c2 : w3.cell? ⟨w.heap.size, 2, none⟩ = some (.int .i64 wk) := by simp [World.cell?, hy0]
  have d0 : w3.cell? ⟨w.heap.size + 1, 0, none⟩ = some (.slice none 0 0) := by simp [World.cell?, hy1]
  have d1 : w3.cell? ⟨w.heap.size + 1, 1, none⟩ = some (.slice none 0 0) := by simp [World.cell?, hy1]
  have d2 : w3.cell? ⟨w.heap.size + 1, 2, none⟩ = some (.int .i64 0) := by simp [World.cell?, hy1]
  have df : ∀ j, w3.frozen? ⟨w.heap.size + 1, j, none⟩ = false := fun j => by simp [World.frozen?, hy1]
  clear hx0 hx1 hb0 hb3 hf HFI hm
  go_wp2
  have hz : (((w3.setCell ⟨w.heap.size + 1, 0, none⟩ (.slice A P.length c)).setCell ⟨w.heap.size + 1, 1, none⟩ (.slice B P.length d)).setCell ⟨w.heap.size + 1, 2, none⟩ (.int .i64 wk)).heap[w.heap.size + 1]? = some (.cells #[.slice A P.length c, .slice B P.length d, .int .i64 wk] tMd (0, 0)) := by
    simp [World.setCell, Array.getElem?_modify, hy1]
  have hb5 := ((hb4.setCell (p := ⟨w.heap.size + 1, 0, none⟩) (by simp) (.slice A P.length c)).setCell (p := ⟨w.heap.size + 1, 1, none⟩) (by simp) (.slice B P.length d)).setCell (p := ⟨w.heap.size + 1, 2, none⟩) (by simp) (.int .i64 wk)
  generalize World.setCell _ _ _ = w5 at *
  have z0 : w5.cell? ⟨w.heap.size + 1, 0, none⟩ = some (.slice A P.length c) := by simp [World.cell?, hz]
  have z1 : w5.cell? ⟨w.heap.size + 1, 1, none⟩ = some (.slice B P.length d) := by simp [World.cell?, hz]
  have z2 : w5.cell? ⟨w.heap.size + 1, 2, none⟩ = some (.int .i64 wk) := by simp [World.cell?, hz]
  exact bodyPost_ret (v := .tuple #[.agg #[.slice A P.length c, .slice B P.length d, .int .i64 wk], .int .i64 0, .bool false]) (by simp [results, Try.results8, go_sem, z0, z1, z2]) rfl ⟨rfl, hb5⟩


/-- what a Drop comes to -/
def Dropped (P : List (Int × Bool)) (i : Nat) (x wk : Int) (Q : List (Int × Bool)) (n : Nat) (wk' : Int) : Prop :=
  (P.length ≤ 2 * (mAll (P.set i (x, false))).length → Q = P.set i (x, false) ∧ n = 0 ∧ wk' = wk) ∧
  (2 * (mAll (P.set i (x, false))).length < P.length → Q = (mAll (P.set i (x, false))).map (fun y => (y, true)) ∧ n = (mAll (P.set i (x, false))).length ∧ wk' = wk + n)

theorem md_of {S : Nat → Prop} {w w' : World} {lv v : Value} {P : List (Int × Bool)} {n : Nat} (hl : RdL S encI 1 w lv (P.map (·.1))) (hb : Below w.heap.size w w') (ho : Own w' tB 1 v n ((P.map (·.2)).map Value.bool)) (hn : P.length = n) (hob : OB v (w.heap.size ≤ ·)) : Md (fun b => S b ∨ w.heap.size ≤ b) w' lv v P := by
  refine ⟨(hl.keep (by decide) (fun b hlt _ => hb.block b hlt)).mono (fun b _ h => .inl h) (by decide), ?_⟩
  have hr := Own.rd ho (S := fun b => S b ∨ w.heap.size ≤ b) (fun u hu => by simp only [List.mem_map] at hu; obtain ⟨_, _, rfl⟩ := hu; rfl) (fun b hb' => .inr (hob b hb'))
  unfold RdL
  rw [flatB, List.length_map, hn]
  exact hr

set_option maxRecDepth 100000 in
set_option maxHeartbeats 8000000 in
theorem drop_yes {S : Nat → Prop} {w : World} {lv av : Value} {P : List (Int × Bool)} (h : Md S w lv av P) (wk x : Int) (hP : P.length ≤ 400000) (hx : (x, true) ∈ P) (hwk : 0 ≤ wk) (hwk2 : wk ≤ 1000000000000) :
    Calls Try.prog 8 #[.agg #[lv, av, .int .i64 wk], .int .i64 x] w fun e w' => ∃ (i : Nat) (lv' av' : Value) (Q : List (Int × Bool)) (n : Nat) (wk' : Int), P[i]? = some (x, true) ∧ e = .returned (.tuple #[.agg #[lv', av', .int .i64 wk'], .int .i64 n, .bool true]) ∧
      Dropped P i x wk Q n wk' ∧ Md (fun b => S b ∨ w.heap.size ≤ b) w' lv' av' Q ∧ Below w.heap.size w w' := by
  have HH := Lib.hid h
  have hm := h.old
  obtain ⟨A, c, B, d, rfl, rfl, _⟩ := h.form
  clear h
  go_enter Try.func8, Try.ntmps8
  go_wp2_with fail
  have hb0 : Below w.heap.size w ((w.alloc (.cells #[.slice A P.length c, .slice B P.length d, .int .i64 wk] tMd)).alloc (.cells #[.slice none 0 0, .slice none 0 0, .int .i64 0] tMd)) := ((Below.refl _ w).alloc (Nat.le_refl _) _).alloc (by simp) _
  have hx0 : ((w.alloc (.cells #[.slice A P.length c, .slice B P.length d, .int .i64 wk] tMd)).alloc (.cells #[.slice none 0 0, .slice none 0 0, .int .i64 0] tMd)).heap[w.heap.size]? = some (.cells #[.slice A P.length c, .slice B P.length d, .int .i64 wk] tMd (0, 0)) := (Below.heap_alloc _ _ _ (by simp)).trans (heap_alloc_new w _)
  have hx1 : ((w.alloc (.cells #[.slice A P.length c, .slice B P.length d, .int .i64 wk] tMd)).alloc (.cells #[.slice none 0 0, .slice none 0 0, .int .i64 0] tMd)).heap[w.heap.size + 1]? = some (.cells #[.slice none 0 0, .slice none 0 0, .int .i64 0] tMd (0, 0)) := by
    have := heap_alloc_new (w.alloc (.cells #[.slice A P.length c, .slice B P.length d, .int .i64 wk] tMd)) (.cells #[.slice none 0 0, .slice none 0 0, .int .i64 0] tMd)
    simpa using this
  generalize World.alloc (World.alloc w _) _ = w2 at *
  have hfi := find_any (hm.below' hb0) wk x hP
  have HFI := Lib.hid hfi
  clear hfi
  refine HFI.out.mono ?_
  rintro e w3 ⟨hf, hb3⟩
  obtain ⟨i, hi, hPi, rfl⟩ := found_in hf hx
  have hs2 : w.heap.size + 1 < w2.heap.size := (Array.getElem?_eq_some_iff.1 hx1).1
  have hy0 := (hb3.block _ (show w.heap.size < w2.heap.size by omega)).trans hx0
  have hy1 := (hb3.block _ hs2).trans hx1
  have hb4 := then_below hb0 hb3 (by omega)
  have c0 : w3.cell? ⟨w.heap.size, 0, none⟩ = some (.slice A P.length c) := by simp [World.cell?, hy0]
  have c1 : w3.cell? ⟨w.heap.size, 1, none⟩ = some (.slice B P.length d) := by simp [World.cell?, hy0]
  have c2 : w3.cell? ⟨w.heap.size, 2, none⟩ = some (.int .i64 wk) := by simp [World.cell?, hy0]
  have d0 : w3.cell? ⟨w.heap.size + 1, 0, none⟩ = some (.slice none 0 0) := by simp [World.cell?, hy1]
  have d1 : w3.cell? ⟨w.heap.size + 1, 1, none⟩ = some (.slice none 0 0) := by simp [World.cell?, hy1]
  have d2 : w3.cell? ⟨w.heap.size + 1, 2, none⟩ = some (.int .i64 0) := by simp [World.cell?, hy1]
  have df : ∀ j, w3.frozen? ⟨w.heap.size + 1, j, none⟩ = false := fun j => by simp [World.frozen?, hy1]
  have hm3 := hm.below' hb4
  have hmw : RdL (· < w3.heap.size) encB 1 (w3.drewN 1) (.slice B P.length d) (P.map (·.2)) := Rd.below' hm3.old.a (by decide) (drewN_below (Below.refl _ _) 1)
  have HM3 := Lib.hid hm3
  have HMW := Lib.hid hmw
  have HB4 := Lib.hid hb4
  have HY0 := Lib.hid hy0
  have HY1 := Lib.hid hy1
  have HPI := Lib.hid hPi
  clear hx0 hx1 hb0 hb3 hf HFI hm hm3 hmw hb4 hy0 hy1 d0 d1 d2 df hs2 hPi hx
  go_upto_region 4 with (fail)
  have hszw : w.heap.size < w3.heap.size := World.block_lt_of_cell? w3 _ c0
  refine wp_region_G (fun w' => w'.cell? ⟨w.heap.size, 0, none⟩ = some (.slice A P.length c) ∧ w'.cell? ⟨w.heap.size, 1, none⟩ = some (.slice B P.length d) ∧ w'.cell? ⟨w.heap.size, 2, none⟩ = some (.int .i64 wk)) [10] (by kernel_rfl) ?_
  have hHeld : (fun w' : World => w'.cell? ⟨w.heap.size, 0, none⟩ = some (.slice A P.length c) ∧ w'.cell? ⟨w.heap.size, 1, none⟩ = some (.slice B P.length d) ∧ w'.cell? ⟨w.heap.size, 2, none⟩ = some (.int .i64 wk)) w3.drew := ⟨c0, c1, c2⟩
  refine wpAnyG_free 0 (v := ?_) rfl (by kernel_rfl) (by kernel_rfl) (by kernel_rfl) (fun _ _ _ h => h) (Or.inl ⟨by rfl, ?_⟩) ?_
  rotate_left
  · intro w hSw; (try dsimp only at hSw); go_simp; try with_reducible rfl
  set_option linter.unusedSimpArgs false in simp only [List.getElem_toArray, List.getElem_cons_zero, List.getElem_cons_succ, Act.put, List.setIfInBounds_toArray, List.set_cons_zero, List.set_cons_succ]
  refine wpAnyG_take 1 (v := ?_) rfl (by kernel_rfl) (by kernel_rfl) (by kernel_rfl) (by kernel_rfl) (fun _ _ _ h => h) (Or.inl ⟨by rfl, ?_⟩) (by assumption) ?_
  rotate_left
  · intro w hSw; (try dsimp only at hSw); go_simp; try with_reducible rfl
  set_option linter.unusedSimpArgs false in simp only [List.getElem_toArray, List.getElem_cons_zero, List.getElem_cons_succ, Act.put, List.setIfInBounds_toArray, List.set_cons_zero, List.set_cons_succ]
  refine wpAnyG_free 3 (v := ?_) rfl (by kernel_rfl) (by kernel_rfl) (by kernel_rfl) (fun _ _ _ h => h) (Or.inl ⟨by rfl, ?_⟩) ?_
  rotate_left
  · intro w hSw; (try dsimp only at hSw); go_simp; try with_reducible rfl
  set_option linter.unusedSimpArgs false in simp only [List.getElem_toArray, List.getElem_cons_zero, List.getElem_cons_succ, Act.put, List.setIfInBounds_toArray, List.set_cons_zero, List.set_cons_succ]
  refine wpAnyG_take 4 (v := ?_) rfl (by kernel_rfl) (by kernel_rfl) (by kernel_rfl) (by kernel_rfl) (fun _ _ _ h => h) (Or.inl ⟨by rfl, ?_⟩) (by assumption) ?_
  rotate_left
  · intro w hSw; (try dsimp only at hSw); go_simp; try with_reducible rfl
  set_option linter.unusedSimpArgs false in simp only [List.getElem_toArray, List.getElem_cons_zero, List.getElem_cons_succ, Act.put, List.setIfInBounds_toArray, List.set_cons_zero, List.set_cons_succ]
  refine wpAnyG_free 6 (v := ?_) rfl (by kernel_rfl) (by kernel_rfl) (by kernel_rfl) (fun _ _ _ h => h) (Or.inl ⟨by rfl, ?_⟩) ?_
  rotate_left
  · intro w hSw; (try dsimp only at hSw); go_simp; try with_reducible rfl
  set_option linter.unusedSimpArgs false in simp only [List.getElem_toArray, List.getElem_cons_zero, List.getElem_cons_succ, Act.put, List.setIfInBounds_toArray, List.set_cons_zero, List.set_cons_succ]
  refine wpAnyG_take 7 (v := ?_) rfl (by kernel_rfl) (by kernel_rfl) (by kernel_rfl) (by kernel_rfl) (fun _ _ _ h => h) (Or.inl ⟨by rfl, ?_⟩) (by assumption) ?_
  rotate_left
  · intro w hSw; (try dsimp only at hSw); go_simp; try with_reducible rfl
  set_option linter.unusedSimpArgs false in simp only [List.getElem_toArray, List.getElem_cons_zero, List.getElem_cons_succ, Act.put, List.setIfInBounds_toArray, List.set_cons_zero, List.set_cons_succ]
  refine drop_region (A := A) (n := P.length) (c := c) (wk := wk) (bs := P.map (fun p : Int × Bool => p.2)) (fuel := 1) (L1 := #[true, true, true, true, true, true, true, true, true, true, false]) ?_ rfl rfl rfl rfl rfl rfl rfl rfl rfl rfl rfl rfl rfl rfl rfl rfl ?_ ?_ ?_ ?_ HMW.out (by rw [List.length_map]; exact hP) (fun w' hb => ⟨(hb.cell (p := ⟨w.heap.size, 0, none⟩) hszw).trans c0, (hb.cell (p := ⟨w.heap.size, 1, none⟩) hszw).trans c1, (hb.cell (p := ⟨w.heap.size, 2, none⟩) hszw).trans c2⟩) ?_
  · kernel_rfl
  · simp
  · simp
  · simp
  · simp
  intro vals g A2 k2 w4 hb4 hg e8 e25 hgb o2 ob2
  simp only [mkD, List.foldl_cons, List.foldl_nil, Act.put, List.setIfInBounds_toArray, List.set_cons_zero, List.set_cons_succ]
  rw [e8, e25]
  have hg' : w3.heap.size ≤ g := hg
  have hb4' : Below w3.heap.size w3 w4 := ⟨hb4.os, hb4.tape, hb4.output, hb4.size, hb4.block⟩
  have hy0 := (hb4'.block _ hszw).trans HY0.out
  have hsz1 : w.heap.size + 1 < w3.heap.size := (Array.getElem?_eq_some_iff.1 HY1.out).1
  have hy1 := (hb4'.block _ hsz1).trans HY1.out
  have hb5 := then_below HB4.out hb4' (Nat.le_of_lt hszw)
  have n1 : g ≠ w.heap.size := by omega
  have n2 : g ≠ w.heap.size + 1 := by omega
  have g0 : w4.cell? ⟨g, 0, none⟩ = some (.slice none 0 0) := by simp [World.cell?, hgb]
  have g1 : w4.cell? ⟨g, 1, none⟩ = some (.slice none 0 0) := by simp [World.cell?, hgb]
  have g2 : w4.cell? ⟨g, 2, none⟩ = some (.int .i64 0) := by simp [World.cell?, hgb]
  have gf : ∀ j, w4.frozen? ⟨g, j, none⟩ = false := fun j => by simp [World.frozen?, hgb]
  have hml : (P.map (·.2)).length = P.length := List.length_map _
  rw [hml] at o2 ob2 ⊢
  have HY0' := Lib.hid hy0
  have HY1' := Lib.hid hy1
  have HO2 := Lib.hid o2
  have HOB2 := Lib.hid ob2
  have HG := Lib.hid hgb
  have HB5 := Lib.hid hb5
  clear e8 e25 hb4 hb4' hy0 hy1 o2 ob2 hgb hb5 HY0 HY1 HB4 HMW hHeld c0 c1 c2 hml
  refine wpAnyG_seq (List.drop 10 (Array.toList _)) 10 (fun j => by rw [List.getElem?_drop, Array.getElem?_toList]) (by kernel_rfl) ?_ (fun j h1 h2 => ?_)
  case refine_2 =>
    have h3 : j < 11 := h2
    have h4 : j = 10 := by omega
    subst h4; rfl
  simp only [List.drop_succ_cons, List.drop_zero]
  go_upto_region 5 with (fail)
  have hz : (((w4.setCell ⟨g, 0, none⟩ (.slice A P.length c)).setCell ⟨g, 1, none⟩ (.slice A2 P.length k2)).setCell ⟨g, 2, none⟩ (.int .i64 wk)).heap[g]? = some (.cells #[.slice A P.length c, .slice A2 P.length k2, .int .i64 wk] tMd (0, 0)) := by
    simp [World.setCell, Array.getElem?_modify, HG.out]
  have ho : ∀ b, b ≠ g → (((w4.setCell ⟨g, 0, none⟩ (.slice A P.length c)).setCell ⟨g, 1, none⟩ (.slice A2 P.length k2)).setCell ⟨g, 2, none⟩ (.int .i64 wk)).heap[b]? = w4.heap[b]? := fun b hb => by
    rw [Below.heap_setCell _ _ _ _ hb, Below.heap_setCell _ _ _ _ hb, Below.heap_setCell _ _ _ _ hb]
  have hb6 := ((HB5.out.setCell (p := ⟨g, 0, none⟩) (by show w.heap.size ≤ g; omega) (.slice A P.length c)).setCell (p := ⟨g, 1, none⟩) (by show w.heap.size ≤ g; omega) (.slice A2 P.length k2)).setCell (p := ⟨g, 2, none⟩) (by show w.heap.size ≤ g; omega) (.int .i64 wk)
  generalize World.setCell _ _ _ = w5 at *
  have hy1 := (ho _ (Ne.symm n2)).trans HY1'.out
  have hy0 := (ho _ (Ne.symm n1)).trans HY0'.out
  have o2 := HO2.out.keep (w' := w5) fun b hb => ho b (own_ne HO2.out HG.out (by decide) b hb)
  obtain ⟨ga, rfl⟩ := o2.head (by omega)
  have hga : w.heap.size ≤ ga := Nat.le_trans (Nat.le_of_lt hszw) (HOB2.out ga rfl)
  have na1 : ga ≠ g := own_ne o2 hz (by decide) ga rfl
  have na2 : ga ≠ w.heap.size + 1 := own_ne o2 hy1 (by decide) ga rfl
  have na0 : ga ≠ w.heap.size := own_ne o2 hy0 (by decide) ga rfl
  have HYB := Lib.hid hy0
  clear hy0
  have z1 : w5.cell? ⟨g, 1, none⟩ = some (.slice (some ⟨ga, 0, none⟩) P.length k2) := by simp [World.cell?, hz]
  obtain ⟨u, hu⟩ : ∃ u, w5.cell? ⟨ga, i, none⟩ = some u := by
    rw [World.ownsRow.cellAt o2 i (by omega), flatB, List.getElem?_eq_getElem (by simpa using hi)]
    exact ⟨_, rfl⟩
  have huf := World.ownsRow.frozenAt o2 i
  have hiv : (i : Int) < (P.length : Int) := by omega
  have HO2' := Lib.hid o2
  have HZ := Lib.hid hz
  have HY := Lib.hid hy1
  have HB6 := Lib.hid hb6
  clear ho hz hy1 o2 hb6 g0 g1 g2 gf HY0' HY1' HO2 HG HB5
  go_upto_region 6 with (fail)
  have hz : (w5.setCell ⟨ga, i, none⟩ (.bool false)).heap[g]? = some (.cells #[.slice A P.length c, .slice (some ⟨ga, 0, none⟩) P.length k2, .int .i64 wk] tMd (0, 0)) := by rw [Below.heap_setCell _ _ _ _ (Ne.symm na1)]; exact HZ.out
  have hy1 : (w5.setCell ⟨ga, i, none⟩ (.bool false)).heap[w.heap.size + 1]? = some (.cells #[.slice none 0 0, .slice none 0 0, .int .i64 0] tMd (0, 0)) := by rw [Below.heap_setCell _ _ _ _ (Ne.symm na2)]; exact HY.out
  have hy0 : (w5.setCell ⟨ga, i, none⟩ (.bool false)).heap[w.heap.size]? = some (.cells #[.slice A P.length c, .slice B P.length d, .int .i64 wk] tMd (0, 0)) := by rw [Below.heap_setCell _ _ _ _ (Ne.symm na0)]; exact HYB.out
  have o3 := (World.ownsRow.stored HO2'.out i (.bool false)).1
  rw [flatB, ← List.map_set] at o3
  have e3 : (P.map (·.2)).set i false = (P.set i (x, false)).map (·.2) := by rw [List.map_set]
  have e3' : P.map (·.1) = (P.set i (x, false)).map (·.1) := by
    rw [List.map_set]
    have h1 : P[i].1 = x := by have := HPI.out; rw [List.getElem?_eq_getElem hi] at this; injection this with this; rw [this]
    have h2 : (P.map (·.1))[i]'(by simpa using hi) = x := by simpa using h1
    conv => rhs; arg 3; rw [← h2]
    rw [List.set_getElem_self]
  have e4 : (P.set i (x, false)).length = P.length := List.length_set
  have hb7 := HB6.out.setCell (p := ⟨ga, i, none⟩) hga (.bool false)
  rw [e3] at o3
  clear hu huf z1
  generalize World.setCell w5 _ _ = w6 at *
  obtain ⟨P', hP'⟩ : ∃ P', P' = P.set i (x, false) := ⟨_, rfl⟩
  rw [← hP'] at o3 e3' e4
  have hl0 := HH.out.l
  rw [e3'] at hl0
  have hgob : OB (.slice (some ⟨ga, 0, none⟩) P.length k2) (w.heap.size ≤ ·) := OB.some_iff.2 hga
  have hmd := md_of hl0 hb7 o3 e4 hgob
  have HL0 := Lib.hid hl0
  have HO3 := Lib.hid o3
  have HGO := Lib.hid hgob
  clear hgob hl0
  have hal := all_any hmd wk (by rw [e4]; exact hP)
  have z0 : w6.cell? ⟨g, 0, none⟩ = some (.slice A P.length c) := by simp [World.cell?, hz]
  have z1 : w6.cell? ⟨g, 1, none⟩ = some (.slice (some ⟨ga, 0, none⟩) P.length k2) := by simp [World.cell?, hz]
  have z2 : w6.cell? ⟨g, 2, none⟩ = some (.int .i64 wk) := by simp [World.cell?, hz]
  have hmal : (mAll P').length ≤ P.length := by rw [← e4]; exact mAll_len _
  have HAL := Lib.hid hal
  have HP' := Lib.hid hP'
  have HZ' := Lib.hid hz
  have HY' := Lib.hid hy1
  have HYB' := Lib.hid hy0
  have HB7 := Lib.hid hb7
  have H4 := Lib.hid e4
  clear hal hmd hP' hz hy1 hy0 hb7 o3 e3 e3' HO2' HZ HY HB6 HYB e4
  go_upto_region 7 with (go_at_call 11; refine HAL.out.mono ?_; rintro e w7 ⟨v7, rfl, o7, ob7, hb7⟩; obtain ⟨A7, c7, rfl⟩ := o7.slice; have HO7 := Lib.hid o7; have HOB7 := Lib.hid ob7; have HB67 := Lib.hid hb7; clear o7 ob7 hb7)
  have hg6 : g < w6.heap.size := (Array.getElem?_eq_some_iff.1 HZ'.out).1
  have hs6 : w.heap.size + 1 < w6.heap.size := (Array.getElem?_eq_some_iff.1 HY'.out).1
  have hz := (HB67.out.block _ hg6).trans HZ'.out
  have hy1 := (HB67.out.block _ hs6).trans HY'.out
  have hy0 := (HB67.out.block _ (show w.heap.size < w6.heap.size by omega)).trans HYB'.out
  have hb8 := then_below HB7.out HB67.out (by omega)
  have o37 := Own.below HO3.out HB67.out
  clear z0 z1 z2
  have z0 : w7.cell? ⟨g, 0, none⟩ = some (.slice A P.length c) := by simp [World.cell?, hz]
  have z1 : w7.cell? ⟨g, 1, none⟩ = some (.slice (some ⟨ga, 0, none⟩) P.length k2) := by simp [World.cell?, hz]
  have z2 : w7.cell? ⟨g, 2, none⟩ = some (.int .i64 wk) := by simp [World.cell?, hz]
  have zf : ∀ j, w7.frozen? ⟨g, j, none⟩ = false := fun j => by simp [World.frozen?, hz]
  have d0 : w7.cell? ⟨w.heap.size + 1, 0, none⟩ = some (.slice none 0 0) := by simp [World.cell?, hy1]
  have d1 : w7.cell? ⟨w.heap.size + 1, 1, none⟩ = some (.slice none 0 0) := by simp [World.cell?, hy1]
  have d2 : w7.cell? ⟨w.heap.size + 1, 2, none⟩ = some (.int .i64 0) := by simp [World.cell?, hy1]
  have df : ∀ j, w7.frozen? ⟨w.heap.size + 1, j, none⟩ = false := fun j => by simp [World.frozen?, hy1]
  have b2 : w7.cell? ⟨w.heap.size, 2, none⟩ = some (.int .i64 wk) := by simp [World.cell?, hy0]
  have HO37 := Lib.hid o37
  have HZ7 := Lib.hid hz
  have HY7 := Lib.hid hy1
  have HB8 := Lib.hid hb8
  clear hz hy1 hy0 hb8 o37 HZ' HY' HYB' HB7 HAL HO3
  by_cases hbig : P.length ≤ 2 * (mAll P').length
  · have t1 : decide ((P.length : Int) ≤ 2 * ((mAll P').length : Int)) = true := by simp; omega
    go_wp2
    have hz : (((w7.setCell ⟨w.heap.size + 1, 0, none⟩ (.slice A P.length c)).setCell ⟨w.heap.size + 1, 1, none⟩ (.slice (some ⟨ga, 0, none⟩) P.length k2)).setCell ⟨w.heap.size + 1, 2, none⟩ (.int .i64 wk)).heap[w.heap.size + 1]? = some (.cells #[.slice A P.length c, .slice (some ⟨ga, 0, none⟩) P.length k2, .int .i64 wk] tMd (0, 0)) := by
      simp [World.setCell, Array.getElem?_modify, HY7.out]
    have ho : ∀ b, b ≠ w.heap.size + 1 → (((w7.setCell ⟨w.heap.size + 1, 0, none⟩ (.slice A P.length c)).setCell ⟨w.heap.size + 1, 1, none⟩ (.slice (some ⟨ga, 0, none⟩) P.length k2)).setCell ⟨w.heap.size + 1, 2, none⟩ (.int .i64 wk)).heap[b]? = w7.heap[b]? := fun b hb => by
      rw [Below.heap_setCell _ _ _ _ hb, Below.heap_setCell _ _ _ _ hb, Below.heap_setCell _ _ _ _ hb]
    have hb9 := ((HB8.out.setCell (p := ⟨w.heap.size + 1, 0, none⟩) (by simp) (.slice A P.length c)).setCell (p := ⟨w.heap.size + 1, 1, none⟩) (by simp) (.slice (some ⟨ga, 0, none⟩) P.length k2)).setCell (p := ⟨w.heap.size + 1, 2, none⟩) (by simp) (.int .i64 wk)
    generalize World.setCell _ _ _ = w9 at *
    have y0 : w9.cell? ⟨w.heap.size + 1, 0, none⟩ = some (.slice A P.length c) := by simp [World.cell?, hz]
    have y1 : w9.cell? ⟨w.heap.size + 1, 1, none⟩ = some (.slice (some ⟨ga, 0, none⟩) P.length k2) := by simp [World.cell?, hz]
    have y2 : w9.cell? ⟨w.heap.size + 1, 2, none⟩ = some (.int .i64 wk) := by simp [World.cell?, hz]
    have o9 := Own.keep HO37.out (w' := w9) fun b hb => ho b (own_ne HO37.out HY7.out (by decide) b hb)
    refine bodyPost_ret (v := .tuple #[.agg #[.slice A P.length c, .slice (some ⟨ga, 0, none⟩) P.length k2, .int .i64 wk], .int .i64 0, .bool true]) (by simp [results, Try.results8, go_sem, y0, y1, y2]) rfl ⟨i, _, _, P', 0, wk, HPI.out, rfl, ⟨fun _ => ⟨HP'.out, rfl, rfl⟩, fun h => ?_⟩, md_of HL0.out hb9 o9 H4.out HGO.out, hb9⟩
    rw [← HP'.out] at h
    omega
  · have t1 : decide ((P.length : Int) ≤ 2 * ((mAll P').length : Int)) = false := by simp; omega
    have hm4 : (mAll P').length ≤ 400000 := by omega
    go_upto_block 0 with (fail)
    have hz : (((w7.setCell ⟨g, 0, none⟩ (.slice A7 (mAll P').length c7)).setCell ⟨g, 1, none⟩ (.slice none 0 0)).setCell ⟨g, 2, none⟩ (.int .i64 (wk + (mAll P').length))).heap[g]? = some (.cells #[.slice A7 (mAll P').length c7, .slice none 0 0, .int .i64 (wk + (mAll P').length)] tMd (0, 0)) := by
      simp [World.setCell, Array.getElem?_modify, HZ7.out]
    have ho : ∀ b, b ≠ g → (((w7.setCell ⟨g, 0, none⟩ (.slice A7 (mAll P').length c7)).setCell ⟨g, 1, none⟩ (.slice none 0 0)).setCell ⟨g, 2, none⟩ (.int .i64 (wk + (mAll P').length))).heap[b]? = w7.heap[b]? := fun b hb => by
      rw [Below.heap_setCell _ _ _ _ hb, Below.heap_setCell _ _ _ _ hb, Below.heap_setCell _ _ _ _ hb]
    have hb9 := ((HB8.out.setCell (p := ⟨g, 0, none⟩) (by show w.heap.size ≤ g; omega) (.slice A7 (mAll P').length c7)).setCell (p := ⟨g, 1, none⟩) (by show w.heap.size ≤ g; omega) (.slice none 0 0)).setCell (p := ⟨g, 2, none⟩) (by show w.heap.size ≤ g; omega) (.int .i64 (wk + (mAll P').length))
    generalize World.setCell _ _ _ = w8 at *
    have hy1 := (ho _ (Ne.symm n2)).trans HY7.out
    have o8 := HO7.out.keep (w' := w8) fun b hb => ho b (own_ne HO7.out HZ7.out (by decide) b hb)
    have HZ8 := Lib.hid hz
    have HY8 := Lib.hid hy1
    have HO8 := Lib.hid o8
    have HB9 := Lib.hid hb9
    have hob7 : OB (.slice A7 (mAll P').length c7) (w.heap.size ≤ ·) := HOB7.out.mono fun _ h => by omega
    have HOB7' := Lib.hid hob7
    have HBIG := Lib.hid hbig
    clear ho hz hy1 o8 hb9 hob7 z0 z1 z2 zf d0 d1 d2 df b2 hbig t1 HZ7 HY7 HO7 HO37
    have hm5 : (0 : Int) ≤ wk + (mAll P').length := by omega
    go_wp2
    go_loopw [10] (fun ii wr => ∃ (q : Nat) (Ab : Option Addr) (cb : Nat), q ≤ (mAll P').length ∧ ii = .int .i64 q ∧ Below w.heap.size w wr ∧ wr.heap[g]? = some (.cells #[.slice A7 (mAll P').length c7, .slice Ab q cb, .int .i64 (wk + (mAll P').length)] tMd (0, 0)) ∧ wr.heap[w.heap.size + 1]? = some (.cells #[.slice none 0 0, .slice none 0 0, .int .i64 0] tMd (0, 0)) ∧
      Own wr tB 1 (.slice Ab q cb) q (List.replicate q (Value.bool true)) ∧ OB (.slice Ab q cb) (w.heap.size ≤ ·) ∧ Own wr tI 1 (.slice A7 (mAll P').length c7) (mAll P').length ((mAll P').map (Value.int .i64))) (fun ii _ => (mAll P').length - (intOf ii).toNat)
    case atStart => exact ⟨0, none, 0, Nat.zero_le _, rfl, HB9.out, HZ8.out, HY8.out, Own.nil _ _ _, OB.nil _, HO8.out⟩
    case round =>
      clear HZ8 HY8 HO8 HB9
      obtain ⟨q, Ab, cb, hq, rfl, hb, hz, hy, ho, hob, hoa⟩ := hrel
      have HB := Lib.hid hb
      have HZ := Lib.hid hz
      have HY := Lib.hid hy
      have HO := Lib.hid ho
      have HA := Lib.hid hoa
      have z0 : wr.cell? ⟨g, 0, none⟩ = some (.slice A7 (mAll P').length c7) := by simp [World.cell?, hz]
      have z1 : wr.cell? ⟨g, 1, none⟩ = some (.slice Ab q cb) := by simp [World.cell?, hz]
      have z2 : wr.cell? ⟨g, 2, none⟩ = some (.int .i64 (wk + (mAll P').length)) := by simp [World.cell?, hz]
      have d0 : wr.cell? ⟨w.heap.size + 1, 0, none⟩ = some (.slice none 0 0) := by simp [World.cell?, hy]
      have d1 : wr.cell? ⟨w.heap.size + 1, 1, none⟩ = some (.slice none 0 0) := by simp [World.cell?, hy]
      have d2 : wr.cell? ⟨w.heap.size + 1, 2, none⟩ = some (.int .i64 0) := by simp [World.cell?, hy]
      have df : ∀ j, wr.frozen? ⟨w.heap.size + 1, j, none⟩ = false := fun j => by simp [World.frozen?, hy]
      clear hb hz hy ho hoa
      by_cases hlt : q < (mAll P').length
      · go_wp2_with (at_builtin; refine wpList_app1 etyB rfl _ _ rfl #[.bool true] HO.out rfl rfl rfl (by simp [Value.oneCell']) (by omega) ?_; intro g' c' w5 ho5 hg5 hob5; (have hz5 := (hg5.block g (Array.getElem?_eq_some_iff.1 HZ.out).1 (fun e => own_ne HO.out HZ.out (by decide) g e.symm rfl)).trans HZ.out); (have hy5 := (hg5.block _ (Array.getElem?_eq_some_iff.1 HY.out).1 (fun e => own_ne HO.out HY.out (by decide) _ e.symm rfl)).trans HY.out); (have y1 : w5.cell? ⟨g, 1, none⟩ = some (.slice Ab q cb) := (by simp [World.cell?, hz5])); (have yf : w5.frozen? ⟨g, 1, none⟩ = false := (by simp [World.frozen?, hz5])); have HZ5 := Lib.hid hz5; have HY5 := Lib.hid hy5; have HO5 := Lib.hid ho5; have HG5 := Lib.hid hg5; have HOB5 := Lib.hid hob5; clear hz5 hy5 ho5 hg5 hob5)
        have o6 := Own.keep HO5.out (w' := w5.setCell ⟨g, 1, none⟩ (.slice (some ⟨g', 0, none⟩) (q + 1) c')) fun b hb => Below.heap_setCell _ _ _ _ (own_ne HO5.out HZ5.out (by decide) b hb)
        have a5 := Own.grown HA.out HG5.out fun b hb e => own_ne' HA.out HO.out (by decide) b hb e.symm
        have a6 := Own.keep a5 (w' := w5.setCell ⟨g, 1, none⟩ (.slice (some ⟨g', 0, none⟩) (q + 1) c')) fun b hb => Below.heap_setCell _ _ _ _ (own_ne a5 HZ5.out (by decide) b hb)
        refine ⟨⟨q + 1, some ⟨g', 0, none⟩, c', by omega, by go_num, (HB.out.grown HG5.out HB.out.size hob).setCell (p := ⟨g, 1, none⟩) (by show w.heap.size ≤ g; omega) _, ?_, ?_, ?_, ?_, a6⟩, by simp [intOf]; omega⟩
        · simp [World.setCell, Array.getElem?_modify, HZ5.out]
        · rw [Below.heap_setCell _ _ _ _ (Ne.symm n2)]; exact HY5.out
        · rw [List.replicate_succ']; exact o6
        · exact OB.some_iff.2 (HOB5.out.elim (fun e => hob g' e) (fun h => Nat.le_trans HB.out.size h))
      · have hqe : q = (mAll P').length := by omega
        subst hqe
        go_wp2
        have hz : (((wr.setCell ⟨w.heap.size + 1, 0, none⟩ (.slice A7 (mAll P').length c7)).setCell ⟨w.heap.size + 1, 1, none⟩ (.slice Ab (mAll P').length cb)).setCell ⟨w.heap.size + 1, 2, none⟩ (.int .i64 (wk + (mAll P').length))).heap[w.heap.size + 1]? = some (.cells #[.slice A7 (mAll P').length c7, .slice Ab (mAll P').length cb, .int .i64 (wk + (mAll P').length)] tMd (0, 0)) := by
          simp [World.setCell, Array.getElem?_modify, HY.out]
        have ho : ∀ b, b ≠ w.heap.size + 1 → (((wr.setCell ⟨w.heap.size + 1, 0, none⟩ (.slice A7 (mAll P').length c7)).setCell ⟨w.heap.size + 1, 1, none⟩ (.slice Ab (mAll P').length cb)).setCell ⟨w.heap.size + 1, 2, none⟩ (.int .i64 (wk + (mAll P').length))).heap[b]? = wr.heap[b]? := fun b hb => by
          rw [Below.heap_setCell _ _ _ _ hb, Below.heap_setCell _ _ _ _ hb, Below.heap_setCell _ _ _ _ hb]
        have hb9 := ((HB.out.setCell (p := ⟨w.heap.size + 1, 0, none⟩) (by simp) (.slice A7 (mAll P').length c7)).setCell (p := ⟨w.heap.size + 1, 1, none⟩) (by simp) (.slice Ab (mAll P').length cb)).setCell (p := ⟨w.heap.size + 1, 2, none⟩) (by simp) (.int .i64 (wk + (mAll P').length))
        generalize World.setCell _ _ _ = w9 at *
        have y0 : w9.cell? ⟨w.heap.size + 1, 0, none⟩ = some (.slice A7 (mAll P').length c7) := by simp [World.cell?, hz]
        have y1 : w9.cell? ⟨w.heap.size + 1, 1, none⟩ = some (.slice Ab (mAll P').length cb) := by simp [World.cell?, hz]
        have y2 : w9.cell? ⟨w.heap.size + 1, 2, none⟩ = some (.int .i64 (wk + (mAll P').length)) := by simp [World.cell?, hz]
        have o9 := Own.keep HO.out (w' := w9) fun b hb => ho b (own_ne HO.out HY.out (by decide) b hb)
        have a9 := Own.keep HA.out (w' := w9) fun b hb => ho b (own_ne HA.out HY.out (by decide) b hb)
        refine bodyPost_ret (v := .tuple #[.agg #[.slice A7 (mAll P').length c7, .slice Ab (mAll P').length cb, .int .i64 (wk + (mAll P').length)], .int .i64 (mAll P').length, .bool true]) (by simp [results, Try.results8, go_sem, y0, y1, y2]) rfl ⟨i, _, _, (mAll P').map (fun y => (y, true)), (mAll P').length, _, HPI.out, rfl, ⟨fun h => ?_, fun _ => ⟨by rw [HP'.out], by rw [HP'.out], rfl⟩⟩, ⟨?_, ?_⟩, hb9⟩
        · rw [← HP'.out] at h
          exact absurd h HBIG.out
        · have hr := Own.rd a9 (S := fun b => S b ∨ w.heap.size ≤ b) (fun u hu => by simp only [List.mem_map] at hu; obtain ⟨_, _, rfl⟩ := hu; rfl) (fun b hb => .inr (HOB7'.out b hb))
          have e : ((mAll P').map (fun y => (y, true))).map (fun p : Int × Bool => p.1) = mAll P' := by rw [List.map_map]; exact List.map_id' _
          unfold RdL
          rw [e, flatI]
          exact hr
        · have hr := Own.rd o9 (S := fun b => S b ∨ w.heap.size ≤ b) (fun u hu => by rw [List.mem_replicate] at hu; rw [hu.2]; rfl) (fun b hb => .inr (hob b hb))
          have e : ((mAll P').map (fun y => (y, true))).map (fun p : Int × Bool => p.2) = List.replicate (mAll P').length true := by rw [List.map_map]; exact List.map_const'
          unfold RdL
          rw [e, flatB, List.map_replicate, List.length_replicate]
          exact hr

end Go.Proofs.Ytecbheeffmhlnaa.Ref22
