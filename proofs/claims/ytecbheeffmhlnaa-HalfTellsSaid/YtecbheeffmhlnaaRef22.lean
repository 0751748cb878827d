/- gridironref22: what the document says of a half: things in order, and whether they are alive. -/
import Derived.Test.YtecbheeffmhlnaaRef20
import Derived.Test.YtecbheeffmhlnaaThreads
namespace Go.Proofs.Ytecbheeffmhlnaa.Ref22
open Go.RowKit Go.Proofs.Ytecbheeffmhlnaa Go.Proofs.Ytecbheeffmhlnaa.Pl Go.Proofs.Ytecbheeffmhlnaa.Law22 Go.Proofs.Ytecbheeffmhlnaa.Ref20

abbrev tMd : Nat := 31
abbrev tBs : Nat := 29
abbrev tB : Nat := 4
def encB : Bool → List Value := fun x => [.bool x]
theorem encB_len (x : Bool) : (encB x).length = 1 := rfl
theorem flatB (l : List Bool) : flat encB l = l.map Value.bool := by induction l with | nil => rfl | cons x l ih => simp [flat, encB] at ih ⊢; exact ih
theorem etyB : ETy tBs tB 1 := .mk' (by_ := 1) (z := .bool false) (by kernel_rfl) (by kernel_rfl) rfl (by decide) (by decide)

/-- the model's value: its things and lives read as a list of pairs -/
structure Md (S : Nat → Prop) (w : World) (lv av : Value) (P : List (Int × Bool)) : Prop where
  l : RdL S encI 1 w lv (P.map (·.1))
  a : RdL S encB 1 w av (P.map (·.2))
theorem Md.below' {N : Nat} {w w' : World} {lv av : Value} {P : List (Int × Bool)} (h : Md (· < N) w lv av P) (hb : Below N w w') : Md (· < N) w' lv av P := ⟨Rd.below' h.l (by decide) hb, Rd.below' h.a (by decide) hb⟩
theorem Md.old {S : Nat → Prop} {w : World} {lv av : Value} {P : List (Int × Bool)} (h : Md S w lv av P) : Md (· < w.heap.size) w lv av P := ⟨h.l.old (by decide), h.a.old (by decide)⟩
theorem Md.form {S : Nat → Prop} {w : World} {lv av : Value} {P : List (Int × Bool)} (h : Md S w lv av P) : ∃ A c B d, lv = .slice A P.length c ∧ av = .slice B P.length d ∧
    ∀ k (hk : k < P.length), ∃ b o b' o', A = some ⟨b, o, none⟩ ∧ B = some ⟨b', o', none⟩ ∧ S b ∧ S b' ∧ w.cell? ⟨b, o + k, none⟩ = some (.int .i64 P[k].1) ∧ w.cell? ⟨b', o' + k, none⟩ = some (.bool P[k].2) := by
  obtain ⟨A, c, h1, _, _, h2⟩ := RdL.form1 (e := Value.int .i64) h.l
  obtain ⟨B, d, h3, _, _, h4⟩ := RdL.form1 (e := Value.bool) h.a
  rw [List.length_map] at h1 h3
  refine ⟨A, c, B, d, h1, h3, fun k hk => ?_⟩
  obtain ⟨b, o, rfl, hb, hc⟩ := h2 (by rw [List.length_map]; omega)
  obtain ⟨b', o', rfl, hb', hc'⟩ := h4 (by rw [List.length_map]; omega)
  refine ⟨b, o, b', o', rfl, rfl, hb, hb', ?_, ?_⟩
  · have := hc k (by simpa using hk); simpa using this
  · have := hc' k (by simpa using hk); simpa using this

/-- those that are alive -/
def mAll (P : List (Int × Bool)) : List Int := (P.filter (·.2)).map (·.1)
theorem mAll_succ (P : List (Int × Bool)) (k : Nat) (h : k < P.length) : mAll (P.take (k + 1)) = mAll (P.take k) ++ if P[k].2 then [P[k].1] else [] := by
  unfold mAll
  rw [List.take_succ_eq_append_getElem h, List.filter_append, List.map_append]
  congr 1
  cases hb : P[k].2 <;> simp [hb]
theorem mAll_len (P : List (Int × Bool)) : (mAll P).length ≤ P.length := Nat.le_trans (Nat.le_of_eq (List.length_map _)) (List.length_filter_le _ _)

set_option maxRecDepth 100000 in
set_option maxHeartbeats 4000000 in
theorem all_any {S : Nat → Prop} {w : World} {lv av : Value} {P : List (Int × Bool)} (h : Md S w lv av P) (wk : Int) (hP : P.length ≤ 400000) :
    Calls Try.prog 11 #[.agg #[lv, av, .int .i64 wk]] w fun e w' => ∃ v', e = .returned v' ∧ Own w' tI 1 v' (mAll P).length ((mAll P).map (Value.int .i64)) ∧ OB v' (w.heap.size ≤ ·) ∧ Below w.heap.size w w' := by
  obtain ⟨A, c, B, d, rfl, rfl, hcell⟩ := h.old.form
  have HC := Lib.hid hcell
  clear hcell h
  go_enter Try.func11, Try.ntmps11
  go_wp2
  have hb0 : Below w.heap.size w (w.alloc (.cells #[.slice A P.length c, .slice B P.length d, .int .i64 wk] tMd)) := (Below.refl _ w).alloc (Nat.le_refl _) _
  have hx0 := heap_alloc_new w (.cells (#[.slice A P.length c, .slice B P.length d, .int .i64 wk] : Array Value) tMd)
  generalize World.alloc w _ = w1 at *
  have HB0 := Lib.hid hb0
  have HX0 := Lib.hid hx0
  clear hb0 hx0
  go_loopw [3, 4] (fun out ii wr => ∃ k : Nat, k ≤ P.length ∧ ii = .int .i64 k ∧ Below w.heap.size w wr ∧ wr.heap[w.heap.size]? = some (.cells #[.slice A P.length c, .slice B P.length d, .int .i64 wk] tMd (0, 0)) ∧ Own wr tI 1 out (mAll (P.take k)).length ((mAll (P.take k)).map (Value.int .i64)) ∧ OB out (w.heap.size < ·)) (fun _ ii _ => P.length - (intOf ii).toNat)
  case atStart => exact ⟨0, Nat.zero_le _, rfl, HB0.out, HX0.out, Own.nil _ _ _, OB.nil _⟩
  case round =>
    clear HB0 HX0
    obtain ⟨k, hk, rfl, hb, hx, ho, hob⟩ := hrel
    obtain ⟨Ao, co, rfl⟩ := ho.slice
    have x0 : wr.cell? ⟨w.heap.size, 0, none⟩ = some (.slice A P.length c) := by simp [World.cell?, hx]
    have x1 : wr.cell? ⟨w.heap.size, 1, none⟩ = some (.slice B P.length d) := by simp [World.cell?, hx]
    have hszr : w.heap.size < wr.heap.size := (Array.getElem?_eq_some_iff.1 hx).1
    have HB := Lib.hid hb
    have HX := Lib.hid hx
    by_cases hlt : k < P.length
    · obtain ⟨b, o, b', o', rfl, rfl, hbl, hbl', y0, y1⟩ := HC.out k hlt
      have z0 := (hb.cell (p := ⟨b, o + k, none⟩) hbl).trans y0
      have z1 := (hb.cell (p := ⟨b', o' + k, none⟩) hbl').trans y1
      have hsu := mAll_succ P k hlt
      have hal : (mAll (P.take k)).length ≤ 400000 := Nat.le_trans (mAll_len _) (by rw [List.length_take]; omega)
      generalize mAll (P.take k) = acc at *
      generalize P[k] = q at *
      obtain ⟨x, bb⟩ := q
      have HS := Lib.hid hsu
      have HO := Lib.hid ho
      clear hsu ho hb hx y0 y1
      cases bb
      · go_wp2
        have hs := HS.out
        simp only [Bool.false_eq_true, if_false, List.append_nil] at hs
        refine ⟨⟨k + 1, by omega, by go_num, HB.out, HX.out, ?_, hob⟩, by simp [intOf]; omega⟩
        rw [hs]; exact HO.out
      · go_wp2_with (at_builtin; refine wpList_app1 etyI rfl _ _ rfl #[.int .i64 x] HO.out rfl rfl rfl (by simp [Value.oneCell']) (by omega) ?_; intro g' c' w3 ho hg hob3; have HO3 := Lib.hid ho; clear ho; have HG := Lib.hid hg; clear hg; have HOB := Lib.hid hob3; clear hob3)
        have hs := HS.out
        simp only [if_true] at hs
        refine ⟨⟨k + 1, by omega, by go_num, HB.out.grown HG.out HB.out.size (fun g hg => Nat.le_of_lt (hob g hg)), (HG.out.block _ hszr (fun e => Nat.lt_irrefl _ (hob _ e.symm))).trans HX.out, ?_, ?_⟩, by simp [intOf]; omega⟩
        · rw [hs, List.length_append, List.length_singleton, List.map_append]; exact HO3.out
        · exact OB.some_iff.2 (HOB.out.elim (fun e => hob g' e) (fun h => Nat.lt_of_lt_of_le hszr h))
    · have hke : k = P.length := by omega
      subst hke
      rw [List.take_length] at ho
      have HO := Lib.hid ho
      clear ho hx hb
      go_wp2
      go_ret
      exact ⟨_, rfl, by have := HO.out; rwa [List.take_length] at *, hob.mono fun _ h => Nat.le_of_lt h, HB.out⟩

/-- where a thing that is alive stands -/
def Found (P : List (Int × Bool)) (x : Int) (e : Ending) : Prop := ((x, true) ∉ P ∧ e = .returned (.int .i64 (-1))) ∨ ∃ (i : Nat) (hi : i < P.length), P[i] = (x, true) ∧ e = .returned (.int .i64 i)

set_option maxRecDepth 100000 in
set_option maxHeartbeats 4000000 in
theorem find_any {S : Nat → Prop} {w : World} {lv av : Value} {P : List (Int × Bool)} (h : Md S w lv av P) (wk x : Int) (hP : P.length ≤ 400000) :
    Calls Try.prog 24 #[.agg #[lv, av, .int .i64 wk], .int .i64 x] w fun e w' => Found P x e ∧ Below w.heap.size w w' := by
  obtain ⟨A, c, B, d, rfl, rfl, hcell⟩ := h.old.form
  have HC := Lib.hid hcell
  clear hcell h
  go_enter Try.func24, Try.ntmps24
  go_wp2
  have hb0 : Below w.heap.size w (w.alloc (.cells #[.slice A P.length c, .slice B P.length d, .int .i64 wk] tMd)) := (Below.refl _ w).alloc (Nat.le_refl _) _
  have hx0 := heap_alloc_new w (.cells (#[.slice A P.length c, .slice B P.length d, .int .i64 wk] : Array Value) tMd)
  generalize World.alloc w _ = w1 at *
  have HB0 := Lib.hid hb0
  have x0 : w1.cell? ⟨w.heap.size, 0, none⟩ = some (.slice A P.length c) := by simp [World.cell?, hx0]
  have x1 : w1.cell? ⟨w.heap.size, 1, none⟩ = some (.slice B P.length d) := by simp [World.cell?, hx0]
  clear hb0 hx0
  go_loop [5] (fun ii => ∃ k : Nat, k ≤ P.length ∧ ii = .int .i64 k ∧ ∀ j (_ : j < k) (h2 : j < P.length), P[j] ≠ (x, true)) (fun ii => P.length - (intOf ii).toNat)
  case atStart => exact ⟨0, Nat.zero_le _, rfl, fun j h => by omega⟩
  case round =>
    obtain ⟨k, hk, rfl, hne⟩ := hrel
    have HN := Lib.hid hne
    clear hne
    by_cases hlt : k < P.length
    · obtain ⟨b, o, b', o', rfl, rfl, hbl, hbl', y0, y1⟩ := HC.out k hlt
      have z0 := (HB0.out.cell (p := ⟨b, o + k, none⟩) hbl).trans y0
      have z1 := (HB0.out.cell (p := ⟨b', o' + k, none⟩) hbl').trans y1
      generalize hq : P[k] = q at *
      obtain ⟨y, bb⟩ := q
      have HQ := Lib.hid hq
      clear hq y0 y1
      have hstep : (y, bb) ≠ (x, true) → ∀ j (_ : j < k + 1) (h2 : j < P.length), P[j] ≠ (x, true) := fun h j hj h2 => by
        by_cases hjk : j = k
        · subst hjk; rw [HQ.out]; exact h
        · exact HN.out j (by omega) h2
      have HST := Lib.hid hstep
      clear hstep
      cases bb
      · go_wp2
        exact ⟨⟨k + 1, by omega, by go_num, HST.out (by simp)⟩, by simp [intOf]; omega⟩
      · by_cases he : y = x
        · have d1 : (y == x) = true := by simp [he]
          have HE := Lib.hid he
          clear he
          go_wp2
          go_ret
          exact ⟨.inr ⟨k, hlt, by rw [HQ.out, HE.out], rfl⟩, HB0.out⟩
        · have d1 : (y == x) = false := by simp [he]
          have HE := Lib.hid he
          clear he
          go_wp2
          exact ⟨⟨k + 1, by omega, by go_num, HST.out (by simp [HE.out])⟩, by simp [intOf]; omega⟩
    · have hke : k = P.length := by omega
      subst hke
      go_wp2
      go_ret
      refine ⟨.inl ⟨fun hm => ?_, rfl⟩, HB0.out⟩
      obtain ⟨i, hi, he⟩ := List.mem_iff_getElem.1 hm
      exact HN.out i hi hi he
end Go.Proofs.Ytecbheeffmhlnaa.Ref22
