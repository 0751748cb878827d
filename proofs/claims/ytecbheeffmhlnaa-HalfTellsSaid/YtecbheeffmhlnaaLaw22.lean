/- gridironlaw22's bags: sorted lists of numbers. -/
import Derived.Test.YtecbheeffmhlnaaBase
import Derived.Test.YtecbheeffmhlnaaPlSort
namespace Go.Proofs.Ytecbheeffmhlnaa.Law22
open Go.RowKit Go.Proofs.Ytecbheeffmhlnaa Go.Proofs.Ytecbheeffmhlnaa.Pl

def encI : Int → List Value := fun x => [.int .i64 x]
theorem encI_len (x : Int) : (encI x).length = 1 := rfl
theorem flatI_one (l : List Int) : ∀ u ∈ flat encI l, u.oneCell' = true := by
  intro u hu; simp only [flat, List.mem_flatMap] at hu; obtain ⟨x, _, h⟩ := hu; simp [encI] at h; subst h; rfl
theorem flatI (l : List Int) : flat encI l = l.map (Value.int .i64) := by induction l with | nil => rfl | cons x l ih => simp [flat, encI] at ih ⊢; exact ih
abbrev tI : Nat := 2
abbrev tIs : Nat := 28
abbrev tBag : Nat := 56
theorem etyI : ETy tIs tI 1 := .mk' (by_ := 8) (z := .int .i64 0) (by kernel_rfl) (by kernel_rfl) rfl (by decide) (by decide)

/-- a bag's block and its list -/
def Bag (S : Nat → Prop) (w : World) (v : Value) (l : List Int) : Prop :=
  ∃ p lv, v = .pointer (some ⟨p, 0, none⟩) ∧ S p ∧ w.heap[p]? = some (.cells #[lv] tBag (0, 0)) ∧ OB lv S ∧ Own w tI 1 lv l.length (l.map (Value.int .i64))

theorem Bag.keep {S : Nat → Prop} {w w' : World} {v : Value} {l : List Int} (h : Bag S w v l) (hb : ∀ b, b < w.heap.size → S b → w'.heap[b]? = w.heap[b]?) : Bag S w' v l := by
  obtain ⟨p, lv, hv, hp, hc, ho, hw⟩ := h
  exact ⟨p, lv, hv, hp, by rw [hb p (Array.getElem?_eq_some_iff.1 hc).1 hp]; exact hc, ho, hw.keep fun g hg => hb g (hw.lt g hg) (ho g hg)⟩
theorem Bag.mono {S T : Nat → Prop} {w : World} {v : Value} {l : List Int} (h : Bag S w v l) (hST : ∀ b, S b → T b) : Bag T w v l := by
  obtain ⟨p, lv, hv, hp, hc, ho, hw⟩ := h
  exact ⟨p, lv, hv, hST p hp, hc, ho.mono hST, hw⟩

/-- In the middle of building: the bag in block p has the list lv, which holds arr. -/
def Mid (w wr : World) (p : Nat) (lv : Value) (arr : List Int) : Prop :=
  w.heap.size ≤ p ∧ Below w.heap.size w wr ∧ wr.heap[p]? = some (.cells #[lv] tBag (0, 0)) ∧ OB lv (w.heap.size ≤ ·) ∧ Own wr tI 1 lv arr.length (arr.map (Value.int .i64))

theorem Mid.cs {w wr : World} {p : Nat} {lv : Value} {arr : List Int} (h : Mid w wr p lv arr) : wr.cell? ⟨p, 0, none⟩ = some lv ∧ wr.frozen? ⟨p, 0, none⟩ = false := by
  simp [World.cell?, World.frozen?, h.2.2.1]
theorem Mid.drewN {w wr : World} {p : Nat} {lv : Value} {arr : List Int} (h : Mid w wr p lv arr) (n : Nat) : Mid w (wr.drewN n) p lv arr :=
  ⟨h.1, drewN_below h.2.1 n, h.2.2.1, h.2.2.2.1, h.2.2.2.2⟩
theorem Mid.set {w wr : World} {p g cap : Nat} {arr : List Int} (h : Mid w wr p (.slice (some ⟨g, 0, none⟩) arr.length cap) arr) (i : Nat) (x : Int) :
    Mid w (wr.setCell ⟨g, i, none⟩ (.int .i64 x)) p (.slice (some ⟨g, 0, none⟩) (arr.set i x).length cap) (arr.set i x) := by
  obtain ⟨h1, h2, h3, h4, h5⟩ := h
  have hgp : p ≠ g := fun e => own_ne h5 h3 (by decide) g rfl e.symm
  refine ⟨h1, h2.setCell (p := ⟨g, i, none⟩) (OB.some_iff.1 h4) _, ?_, OB.some_iff.2 (OB.some_iff.1 h4), ?_⟩
  · rw [Below.heap_setCell _ _ _ _ hgp, List.length_set]; exact h3
  · have := (World.ownsRow.stored h5 i (.int .i64 x)).1
    rw [List.length_set, List.map_set]; exact this
theorem Mid.push {w wr w1 : World} {p g c' : Nat} {lv : Value} {arr : List Int} {x : Int} (h : Mid w wr p lv arr) (ho : Own w1 tI 1 (.slice (some ⟨g, 0, none⟩) (arr.length + 1) c') (arr.length + 1) (arr.map (Value.int .i64) ++ [.int .i64 x])) (hg : wr.grownBy w1 lv.ownBlock) (hob : lv.ownBlock = some g ∨ wr.heap.size ≤ g) :
    w1.heap[p]? = some (.cells #[lv] tBag (0, 0)) ∧ Mid w (w1.setCell ⟨p, 0, none⟩ (.slice (some ⟨g, 0, none⟩) (arr.length + 1) c')) p (.slice (some ⟨g, 0, none⟩) (arr.length + 1) c') (arr ++ [x]) := by
  obtain ⟨h1, h2, h3, h4, h5⟩ := h
  have hp1 : w1.heap[p]? = some (.cells #[lv] tBag (0, 0)) := by
    rw [hg.block p (Array.getElem?_eq_some_iff.1 h3).1 (fun e => own_ne h5 h3 (by decide) p e.symm rfl)]; exact h3
  refine ⟨hp1, h1, (h2.grown hg h2.size h4).setCell (p := ⟨p, 0, none⟩) h1 _, ?_, OB.some_iff.2 ?_, ?_⟩
  · simp [World.setCell, Array.getElem?_modify, hp1]
  · rcases hob with h | h
    · exact h4 g h
    · exact Nat.le_trans h2.size h
  · rw [List.length_append, List.length_singleton, List.map_append]
    exact ho.keep fun g' hg' => Below.heap_setCell _ _ _ _ (own_ne ho hp1 (by decide) g' hg')

set_option maxRecDepth 100000 in
set_option maxHeartbeats 4000000 in
theorem build_any {S : Nat → Prop} {w : World} {v : Value} {l : List Int} (h : RdL S encI 1 w v l) (hl : l.length ≤ 1000000) :
    Calls Try.prog 5 #[v] w fun e w' => ∃ v', e = .returned v' ∧ Bag (w.heap.size ≤ ·) w' v' (srt l) ∧ Below w.heap.size w w' := by
  obtain ⟨A, c, rfl, hlc, hc, hA⟩ := RdL.form1 (e := Value.int .i64) (h.old (by decide))
  clear h
  go_enter Try.func5, Try.ntmps5
  go_wp2
  have M0 : Mid w (w.alloc (.cells #[.slice none 0 0] tBag)) w.heap.size (.slice none 0 0) [] := ⟨Nat.le_refl _, (Below.refl _ w).alloc (Nat.le_refl _) _, heap_alloc_new w _, OB.nil _, Own.nil _ _ _⟩
  go_loopw [11] (fun i wr => ∃ (k : Nat) (lv : Value), k ≤ l.length ∧ i = .int .i64 k ∧ Mid w wr w.heap.size lv (srt (l.take k))) (fun i _ => l.length - (intOf i).toNat)
  case atStart => exact ⟨0, _, Nat.zero_le _, rfl, M0⟩
  case round =>
    obtain ⟨k, lv, hk, rfl, M⟩ := hrel
    obtain ⟨wo, rfl⟩ : ∃ wo : World, wo = wr := ⟨_, rfl⟩
    obtain ⟨q0, qf⟩ := M.cs
    by_cases hlt : k < l.length
    · obtain ⟨b, off, rfl, hb, hcell⟩ := hA (by omega)
      have ck := hcell k hlt
      rw [← M.2.1.cell (p := ⟨b, off + k, none⟩) hb] at ck
      have hsn := srt_length (l.take k)
      have hso := srt_srtd (l.take k)
      have hts := srt_take_succ l k hlt
      rw [List.length_take, Nat.min_eq_left (by omega)] at hsn
      generalize l[k] = x at *
      generalize srt (l.take k) = acc at *
      obtain ⟨A1, c1, rfl⟩ := M.2.2.2.2.slice
      have HM := Lib.hid M
      have HS := Lib.hid hso
      have HT := Lib.hid hts
      have hacc : acc.length ≤ 1000000 := by omega
      have HSN := Lib.hid hsn
      clear M hso hts hcell hsn
      go_wp2_with (at_builtin; refine wpList_app1 etyI rfl _ _ rfl #[.int .i64 x] HM.out.2.2.2.2 rfl rfl rfl (by simp [Value.oneCell']) (by omega) ?_; intro g' c' w2 ho hg hob; have hp := HM.out.push ho hg hob; (have hq1 : w2.cell? ⟨w.heap.size, 0, none⟩ = some (.slice A1 acc.length c1) := by (simp [World.cell?, hp.1])); (have hq2 : w2.frozen? ⟨w.heap.size, 0, none⟩ = false := by (simp [World.frozen?, hp.1])); have HP := Lib.hid hp.2; clear hp; clear hg; clear ho; clear hob)
      generalize World.setCell w2 _ _ = w3 at *
      clear hq1 hq2 q0 qf ck
      go_loopw [6] (fun jj wi => ∃ (j : Nat) (arr : List Int), jj = .int .i64 j ∧ Shift acc x j arr ∧ Mid w wi w.heap.size (.slice (some ⟨g', 0, none⟩) arr.length c') arr) (fun jj _ => (intOf jj).toNat)
      case atStart => exact ⟨acc.length, acc ++ [x], rfl, Shift.start _ _, by have := HP.out; simpa using this⟩
      case round =>
        obtain ⟨j, arr, rfl, hsh, M⟩ := hrel
        obtain ⟨q0, qf⟩ := M.cs
        have hle := hsh.le
        have hal := hsh.len
        have harr : j < arr.length := by omega
        have HH := Lib.hid hsh
        have HM := Lib.hid M
        have HAL := Lib.hid hal
        have fin : (∀ (_ : 0 < j) (h2 : j - 1 < acc.length), acc[j - 1] ≤ x) → ∀ w5, w5 = wr.setCell ⟨g', j, none⟩ (.int .i64 x) → Mid w w5 w.heap.size (.slice (some ⟨g', 0, none⟩) (srt (l.take (k + 1))).length c') (srt (l.take (k + 1))) := fun hx w5 e => by
          subst e
          have := HM.out.set j x
          rw [HH.out.done HS.out hx, ← HT.out] at this
          exact this
        have hcj := World.ownsRow.cellAt M.2.2.2.2 j (by omega)
        obtain ⟨u, hu⟩ : ∃ u, (arr.map (Value.int .i64))[j]? = some u := ⟨_, List.getElem?_eq_getElem (by simpa using harr)⟩
        rw [hu] at hcj
        have hfj := World.ownsRow.frozenAt M.2.2.2.2 j
        have HF := Lib.hid fin
        clear fin hu hal
        rcases Nat.eq_zero_or_pos j with rfl | hjp
        · clear hsh M
          go_wp2
          refine ⟨⟨k + 1, _, by omega, rfl, HF.out (by omega) _ rfl⟩, by simp [intOf]; omega⟩
        · obtain ⟨i, rfl⟩ : ∃ i, j = i + 1 := ⟨j - 1, by omega⟩
          have hia : i < arr.length := by omega
          have hil : i < acc.length := by omega
          have hci := World.ownsRow.cellAt M.2.2.2.2 i (by omega)
          rw [List.getElem?_eq_getElem (by simpa using hia), List.getElem_map, hsh.get hia hil] at hci
          have e1 : ((i + 1 : Nat) : Int) = (i : Int) + 1 := by omega
          rw [e1]
          have hst := hsh.step hil
          have HST := Lib.hid hst
          have HX := HF.out
          clear hsh M hst
          generalize hy : acc[i] = y at *
          have HY := Lib.hid hy
          clear hy
          by_cases hxy : x < y
          · have wi : IntKind.i64.wrap (i : Int) = i := by rw [IntKind.wrap_i64]; omega
            have wi1 : IntKind.i64.wrap ((i : Int) + 1 - 1) = i := by rw [IntKind.wrap_i64]; omega
            have wi2 : (i : Int) < (arr.length : Int) := by omega
            have wi3 : (i : Int) + 1 < (arr.length : Int) := by omega
            go_wp2
            go_still_tail 13, (by kernel_rfl)
            clear wi wi1
            change wpList _ _ _ _ _ wr.drew
            go_wp2
            refine ⟨⟨i, _, rfl, HST.out hxy, (HM.out.set (i + 1) y).drewN 1⟩, by simp [intOf]⟩
          · go_wp2
            refine ⟨⟨k + 1, _, by omega, rfl, HX (fun _ _ => ?_) _ rfl⟩, by simp [intOf]; omega⟩
            have := HY.out
            simp only [Nat.add_sub_cancel]
            omega
    · have hke : k = l.length := by omega
      subst hke
      go_wp2
      go_ret
      rw [List.take_length] at M
      exact ⟨_, rfl, ⟨_, lv, rfl, M.1, M.2.2.1, M.2.2.2.1, M.2.2.2.2⟩, M.2.1⟩

/-- a list without the first of some number -/
def rm : List Int → Int → List Int
  | [], _ => []
  | y :: ys, x => if y = x then ys else y :: rm ys x
theorem rm_at {l : List Int} {x : Int} : ∀ k (h : k < l.length), l[k] = x → (∀ i (h : i < k), l[i] ≠ x) → rm l x = l.take k ++ l.drop (k + 1) := by
  induction l with
  | nil => intro k h; simp at h
  | cons y ys ih =>
    intro k h hk hn
    cases k with
    | zero => simp at hk; simp [rm, hk]
    | succ k =>
      have h0 := hn 0 (by omega)
      simp at h0
      have := ih k (by simpa using h) (by simpa using hk) (fun i hi => by have := hn (i + 1) (by omega); simpa using this)
      simp [rm, h0, this]
theorem rm_none {l : List Int} {x : Int} (h : x ∉ l) : rm l x = l := by
  induction l with
  | nil => rfl
  | cons y ys ih =>
    simp at h
    rw [rm, if_neg (fun e => h.1 e.symm), ih h.2]

set_option maxRecDepth 100000 in
set_option maxHeartbeats 4000000 in
theorem drop_any {S : Nat → Prop} {w : World} {v : Value} {l : List Int} (h : Bag S w v l) (x : Int) (hl : l.length ≤ 1000000) :
    Calls Try.prog 6 #[v, .int .i64 x] w fun e w' => e = .returned (.bool (decide (x ∈ l))) ∧ Bag (fun b => S b ∨ w.heap.size ≤ b) w' v (rm l x) ∧ Mod S w w' := by
  obtain ⟨p, lv, rfl, hp, hc, ho, hw⟩ := h
  have q0 : w.cell? ⟨p, 0, none⟩ = some lv := by simp [World.cell?, hc]
  have qf : w.frozen? ⟨p, 0, none⟩ = false := by simp [World.frozen?, hc]
  obtain ⟨A, c, rfl⟩ := hw.slice
  have hlo := hw.lt
  have HW := Lib.hid hw
  have HO := Lib.hid ho
  have HC := Lib.hid hc
  clear hw ho hc
  go_enter Try.func6, Try.ntmps6
  go_wp2
  go_loopw [11] (fun i wr => ∃ (k : Nat), k ≤ l.length ∧ i = .int .i64 k ∧ wr = w ∧ ∀ i (h : i < k) (h2 : i < l.length), l[i] ≠ x) (fun i _ => l.length - (intOf i).toNat)
  case atStart => exact ⟨0, Nat.zero_le _, rfl, rfl, fun i h => by omega⟩
  case round =>
    obtain ⟨k, hk, rfl, rfl, hne⟩ := hrel
    have HN := Lib.hid hne
    clear hne
    by_cases hlt : k < l.length
    · obtain ⟨g, rfl⟩ := HW.out.head (by omega)
      have hck := World.ownsRow.cellAt HW.out k (by omega)
      rw [List.getElem?_eq_getElem (by simpa using hlt), List.getElem_map] at hck
      by_cases he : l[k] = x
      · have d1 : (l[k] == x) = true := by simp [he]
        have HE := Lib.hid he
        clear he
        have hs1 := fun W => run_sl_pre etyI g l.length c k (by have := (HW.out.rd (S := fun _ => True) (fun u hu => by simp at hu; obtain ⟨_, _, rfl⟩ := hu; rfl) (fun _ _ => trivial)).2.2; obtain ⟨A, c', e, h1, _⟩ := this; injection e with _ _ e; omega) .i64 W
        have hrl : RdL (fun _ => True) encI 1 wr (.slice (some ⟨g, 0, none⟩) l.length c) l := by
          have := HW.out.rd (S := fun _ => True) (fun u hu => by simp at hu; obtain ⟨_, _, rfl⟩ := hu; rfl) (fun _ _ => trivial)
          unfold RdL; rw [flatI]; exact this
        obtain ⟨A2, c2, hs2, hr2⟩ := run_slL etyI encI_len hrl (k + 1) l.length (by omega) (Nat.le_refl _) (some (.int .i64 ((k : Int) + 1))) none (.inr ⟨.i64, by rw [show ((k + 1 : Nat) : Int) = (k : Int) + 1 by omega]⟩) (.inl ⟨rfl, rfl⟩)
        rw [List.take_of_length_le (by rw [List.length_drop]; omega)] at hr2
        have HR2 := Lib.hid hr2
        have wi : IntKind.i64.wrap ((k : Int) + 1) = (k : Int) + 1 := by rw [IntKind.wrap_i64]; omega
        have hown := HW.out.pre (m := k) (by omega)
        have HOW := Lib.hid hown
        clear hr2 hrl hown
        go_wp2
        have hdl : (l.drop (k + 1)).length ≤ l.length := by rw [List.length_drop]; omega
        go_region_law (refine step_app (w := wr.drew) etyI rfl _ _ rfl HOW.out rfl (src_of_rd (w := wr.drew) etyI.und HR2.out) rfl (by omega) ?_; intro A' c' w1 ho hg hob; (have hp1 := (hg.block p (Array.getElem?_eq_some_iff.1 HC.out).1 (fun e => own_ne HW.out HC.out (by decide) p e.symm rfl)).trans HC.out); (have hq1 : w1.cell? ⟨p, 0, none⟩ = some (.slice (some ⟨g, 0, none⟩) l.length c) := by (simp [World.cell?, hp1])); (have hq2 : w1.frozen? ⟨p, 0, none⟩ = false := by (simp [World.frozen?, hp1])); have HP := Lib.hid hp1; clear hp1; have HG := Lib.hid hg; clear hg; have HO1 := Lib.hid ho; clear ho; have HOB := Lib.hid hob; clear hob)
        all_goals
          go_wp2
          go_ret
          have hx : x ∈ l := by have := HE.out; rw [← this]; exact List.getElem_mem hlt
          have hrm := rm_at k hlt HE.out (fun i hi => HN.out i hi (by omega))
          have ho1 := HO1.out
          rw [flatI, ← List.map_take, Nat.mul_one, ← List.map_append, ← hrm] at ho1
          have hlen : k + (l.drop (k + 1)).length = (rm l x).length := by rw [hrm, List.length_append, List.length_take]; omega
          rw [hlen] at ho1
          have hgs := OB.some_iff.1 HO.out
          have hob := HOB.out.after (p := fun b => S b ∨ wr.heap.size ≤ b) (OB.some_iff.2 (.inl hgs)) (fun _ h => .inr h)
          rw [hlen] at hob
          have hlen' : k + (l.length - (k + 1)) = (rm l x).length := by rw [← hlen, List.length_drop]
          rw [decide_eq_true hx]
          refine ⟨rfl, ⟨p, .slice A' (rm l x).length c', rfl, .inl hp, ?_, hob, ?_⟩, ?_⟩
          · simp [World.setCell, Array.getElem?_modify, HP.out, hlen']
          · exact ho1.keep fun g' hg' => Below.heap_setCell _ _ _ _ (own_ne ho1 HP.out (by decide) g' hg')
          · exact (((Mod.refl S wr).drew).grown HG.out (fun k hk _ => by cases hk; exact hgs)).setCell (p := ⟨p, 0, none⟩) (fun _ => hp) _
      · have d1 : (l[k] == x) = false := by simp [he]
        have HE := Lib.hid he
        clear he
        go_wp2
        refine ⟨⟨k + 1, by omega, by go_num, trivial, fun i h1 h2 => ?_⟩, by simp [intOf]; omega⟩
        rcases Nat.eq_or_lt_of_le (show i ≤ k by omega) with e | e
        · subst e; exact HE.out
        · exact HN.out i e h2
    · have hke : k = l.length := by omega
      subst hke
      go_wp2
      go_ret
      have hx : x ∉ l := fun hm => by
        obtain ⟨i, hi, e⟩ := List.getElem_of_mem hm
        exact HN.out i hi hi e
      rw [decide_eq_false hx, rm_none hx]
      exact ⟨rfl, ⟨p, _, rfl, .inl hp, HC.out, HO.out.mono fun _ h => .inl h, HW.out⟩, Mod.refl _ _⟩

end Go.Proofs.Ytecbheeffmhlnaa.Law22
