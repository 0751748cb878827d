/- gridironlaw22's trees: has a half just these trees? -/
import Derived.Test.YtecbheeffmhlnaaHalfITrees
import Derived.Test.YtecbheeffmhlnaaRef20
import Derived.Test.YtecbheeffmhlnaaSame22
namespace Go.Proofs.Ytecbheeffmhlnaa.Law22T
open Go.RowKit Go.Proofs.Ytecbheeffmhlnaa Go.Proofs.Ytecbheeffmhlnaa.Pl Go.Proofs.Ytecbheeffmhlnaa.TrI Go.Proofs.Ytecbheeffmhlnaa.HalfI Go.Proofs.Ytecbheeffmhlnaa.Law22

theorem quiet_then {P : Program} {f : FuncId} {args : Array Value} {w : World} {n : Nat} {v : Value}
    (h : Calls P f args (w.drewN n) fun e w' => e = .returned v ∧ ∃ m, w' = (w.drewN n).drewN m) : Calls P f args (w.drewN n) fun e w'' => e = .returned v ∧ ∃ m, w'' = w.drewN m :=
  h.mono fun _ _ ⟨he, m, hm⟩ => ⟨he, n + m, by rw [hm, World.drewN_drewN]⟩

theorem quiet_add {P : Program} {f : FuncId} {args : Array Value} {w : World} {a n : Nat} {v : Value}
    (h : Calls P f args (w.drewN (a + n)) fun e w' => e = .returned v ∧ ∃ m, w' = (w.drewN (a + n)).drewN m) : Calls P f args (w.drewN (a + n)) fun e w'' => e = .returned v ∧ ∃ m, w'' = w.drewN (a + m) :=
  h.mono fun _ _ ⟨he, m, hm⟩ => ⟨he, n + m, by rw [hm, World.drewN_drewN, Nat.add_assoc]⟩

theorem cat_len {α : Type} {g : Nat → List α} (h : ∀ i, (g i).length ≤ 1) : ∀ d i, (cat g i d).length ≤ d := by
  intro d
  induction d with
  | zero => intro i; exact Nat.le_refl _
  | succ d ih =>
    intro i
    rw [cat, List.length_append]
    have := ih (i + 1)
    have := h i
    omega

theorem same_true {S S' : Nat → Prop} {w : World} {v v' : Value} {a : List Int} (ha : RdL S encI 1 w v a) (hb : RdL S' encI 1 w v' a) :
    Calls Try.prog 15 #[v, v'] w fun e w' => e = .returned (.bool true) ∧ ∃ n, w' = w.drewN n :=
  (Same22.same_any ha hb).mono fun _ _ ⟨he, h⟩ => ⟨by rw [he, decide_eq_true rfl], h⟩

theorem rd_of_own {w : World} {v : Value} {l : List Int} (h : Own w tI 1 v l.length (l.map (Value.int .i64))) : RdL (fun _ => True) encI 1 w v l := by
  have := Own.rd h (S := fun _ => True) (fun u hu => by simp only [List.mem_map] at hu; obtain ⟨_, _, rfl⟩ := hu; rfl) (fun _ _ => trivial)
  unfold RdL
  rw [flatI]
  exact this

section
variable {w0 w : World} {C0 C : Nat → Nat} {h c bm : Nat} {bv av tv lvv : Value} {L : List (X × Nat)} {work : Nat} {alive : List Bool} {lv : List Nat} {ts : List TV} {m : List (X × Int)}

set_option maxRecDepth 100000 in
set_option maxHeartbeats 4000000 in
theorem trees_true (H : HM w0 C0 w C h c bm bv av tv lvv L work alive lv ts m (tlOf L alive)) (hL : L.length ≤ 400000) {N : Nat} {wv : Value} {us : List Value} {f : Nat → List Int} (R : Ref20.Rows N w wv us f)
    (hu : us.length = (prs L alive ts).length) (hf : ∀ i (hi : i < (prs L alive ts).length), f i = srt (prs L alive ts)[i].2.2) :
    Calls Try.prog 17 #[.pointer (some ⟨h, 0, none⟩), wv] w fun e w' => e = .returned (.bool true) ∧ Below w.heap.size w w' := by
  have htr := trees_any H hL
  have hbag : ∀ p ∈ prs L alive ts, ∃ S, Law22.Bag S w (.pointer p.1) (srt p.2.2) := fun p hp => by
    obtain ⟨i, hi⟩ := prs_tr H p hp
    exact ⟨_, hi.2⟩
  have hKl : (prs L alive ts).length ≤ 20 := Nat.le_trans (cat_len (fun i => by unfold pr1; split <;> simp) _ _) (bl_le_of_lt (by omega))
  generalize prs L alive ts = K at *
  obtain ⟨Aw, cw, rfl⟩ := R.own.slice
  have HR := Lib.hid R
  have HT := Lib.hid htr
  have HF := Lib.hid hf
  have HB := Lib.hid hbag
  have HU := Lib.hid hu
  have hul : us.length ≤ K.length := by omega
  have hul2 : K.length ≤ us.length := by omega
  clear H R htr hf hbag hu
  have d1 : ((K.length : Int) != (us.length : Int)) = false := by simp; omega
  go_enter Try.func17, Try.ntmps17
  go_wp2_with (go_at_call 30; refine HT.out.mono ?_; rintro e w1 ⟨v', rfl, ho, hob, hb⟩; obtain ⟨At, ct, rfl⟩ := ho.slice; have HO := Lib.hid ho; have HBE := Lib.hid hb; clear ho hob hb)
  go_loopw [16] (fun ii wr => ∃ k n : Nat, k ≤ K.length ∧ ii = .int .i64 k ∧ wr = w1.drewN n) (fun ii _ => K.length - (intOf ii).toNat)
  case atStart => exact ⟨0, 0, Nat.zero_le _, rfl, rfl⟩
  case round =>
    obtain ⟨k, n, hk, rfl, rfl⟩ := hrel
    by_cases hlt : k < K.length
    · obtain ⟨gt, rfl⟩ := HO.out.head (by omega)
      obtain ⟨S, p, lv1, hp, hSp, hpc, hlo, hlw⟩ := HB.out K[k] (List.getElem_mem hlt)
      have hcell := RdL.cell (S := fun _ => True) (enc := encT) (k := KT) encT_len (Own.rd (n := (K.map (·.1)).length) (by rw [List.length_map]; exact HO.out) (flatT_one _) (fun _ _ => trivial)) k (by rw [List.length_map]; exact hlt) 0 (by decide)
      rw [List.getElem_map] at hcell
      have hcell' : w1.cell? ⟨gt, k, none⟩ = some (.pointer (some ⟨p, 0, none⟩)) := by
        rw [← hp]
        simpa [encT] using hcell
      have hpc1 := (HBE.out.block p (Array.getElem?_eq_some_iff.1 hpc).1).trans hpc
      have hcp : w1.cell? ⟨p, 0, none⟩ = some lv1 := by simp [World.cell?, hpc1]
      obtain ⟨r1, _, _⟩ := HR.out.row k (by omega)
      rw [HF.out k hlt] at r1
      obtain ⟨gw, rfl⟩ := HR.out.own.head (by omega)
      have hwc := World.ownsRow.cellAt HR.out.own k (by omega)
      rw [List.getElem?_eq_getElem (show k < us.length by omega)] at hwc
      have hwc1 := (HBE.out.cell (p := ⟨gw, k, none⟩) (HR.out.own.lt gw rfl)).trans hwc
      have hsm := fun N => same_true (w := w1.drewN N) (rd_of_own (hlw.below (drewN_below HBE.out N))) (rd_of_own (r1.below (drewN_below HBE.out N)))
      have HSM := Lib.hid hsm
      have hkv : (k : Int) < (K.length : Int) := by omega
      have hkv2 : (k : Int) < (us.length : Int) := by omega
      clear hcell hp hSp hpc hlo hlw r1 hwc hsm hpc1
      generalize us[k] = uk at *
      go_wp2
      go_quiet ((go_at_call 15; first | exact quiet_add (HSM.out _) | exact quiet_then (HSM.out _)))
      go_wp2
      refine ⟨⟨k + 1, n + nq, by omega, by go_num, rfl⟩, by simp [intOf]; omega⟩
    · have hke : k = K.length := by omega
      subst hke
      go_wp2
      go_ret
      exact ⟨rfl, drewN_below HBE.out n⟩
end
end Go.Proofs.Ytecbheeffmhlnaa.Law22T
