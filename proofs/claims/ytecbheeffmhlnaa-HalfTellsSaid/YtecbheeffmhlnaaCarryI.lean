/- carry.Carry at one element type: its functions keep buckets that say what is stored. -/
import Derived.Test.YtecbheeffmhlnaaBase
import Derived.Test.YtecbheeffmhlnaaPlCarry
namespace Go.Proofs.Ytecbheeffmhlnaa.CarryI
open Go.RowKit Go.Proofs.Ytecbheeffmhlnaa Go.Proofs.Ytecbheeffmhlnaa.Pl

abbrev El : Type := Int × Nat
def enc : El → List Value := fun x => [.int .i64 x.1, .int .i64 x.2]
abbrev K : Nat := 2
abbrev tE : Nat := 49
abbrev tS : Nat := 58
abbrev tB : Nat := 66
abbrev tC : Nat := 68
theorem enc_len (x : El) : (enc x).length = K := by obtain ⟨a, n⟩ := x; rfl
theorem enc_one (x : El) : ∀ u ∈ enc x, u.oneCell' = true := by obtain ⟨a, n⟩ := x; simp [enc, Value.oneCell']
theorem flat_one (l : List El) : ∀ u ∈ flat enc l, u.oneCell' = true := by
  intro u hu; simp only [flat, List.mem_flatMap] at hu; obtain ⟨x, _, h⟩ := hu; exact enc_one x u h
theorem etyS : ETy tS tE K := .mk' (by_ := 16) (z := .agg #[.int .i64 0, .int .i64 0]) (by kernel_rfl) (by kernel_rfl) rfl (by decide) (by decide)
theorem etyB : ETy tB tS 1 := .mk' (by_ := 24) (z := .slice none 0 0) (by kernel_rfl) (by kernel_rfl) rfl (by decide) (by decide)

/-- A bucket: nil, or a row of its own. -/
def Buck (w : World) (v : Value) (l : List El) : Prop := Own w tE K v l.length (flat enc l) ∧ (l = [] → v = .slice none 0 0)

/-- The carry in block c, its buckets' slice bv: what is stored is L, the greatest bucket first; it lies in blocks of F. -/
def At (F : Nat → Prop) (w : World) (c : Nat) (bv : Value) (L : List El) (work : Nat) : Prop :=
  L.length ≤ 1000000 ∧ w.heap[c]? = some (.cells #[.bool true, bv, .int .i64 L.length, .int .i64 work] tC (0, 0)) ∧
  ∃ vs : List Value, Own w tS 1 bv (bl L.length) vs ∧ (∀ i (h : i < vs.length), Buck w vs[i] (bk i L)) ∧ F c ∧ OB bv F ∧ ∀ i (h : i < vs.length), OB vs[i] F

variable {F : Nat → Prop}

/-- .. stays, where blocks of its own kinds stay -/
theorem At.keep {w w' : World} {c : Nat} {bv : Value} {L : List El} {work : Nat} (h : At F w c bv L work) (hk : ∀ b cs E fr, F b → w.heap[b]? = some (.cells cs E fr) → (E = tC ∨ E = tS ∨ E = tE) → w'.heap[b]? = w.heap[b]?) : At F w' c bv L work := by
  obtain ⟨h1, h2, vs, h3, h4, h5, h6, h7⟩ := h
  refine ⟨h1, by rw [hk c _ _ _ h5 h2 (.inl rfl)]; exact h2, vs, h3.keep fun g hg => ?_, fun i hi => ⟨(h4 i hi).1.keep fun g hg => ?_, (h4 i hi).2⟩, h5, h6, h7⟩
  · obtain ⟨cs, hcs⟩ := h3.blk hg
    exact hk g _ _ _ (h6 g hg) hcs (.inr (.inl rfl))
  · obtain ⟨cs, hcs⟩ := (h4 i hi).1.blk hg
    exact hk g _ _ _ (h7 i hi g hg) hcs (.inr (.inr rfl))
theorem At.foot' {G : Nat → Prop} {w : World} {c : Nat} {bv : Value} {L : List El} {work : Nat} (h : At F w c bv L work) (hFG : ∀ b, b < w.heap.size → F b → G b) : At G w c bv L work := by
  obtain ⟨h1, h2, vs, h3, h4, h5, h6, h7⟩ := h
  exact ⟨h1, h2, vs, h3, h4, hFG _ (Array.getElem?_eq_some_iff.1 h2).1 h5, fun g hg => hFG _ (h3.lt g hg) (h6 g hg), fun i hi g hg => hFG _ ((h4 i hi).1.lt g hg) (h7 i hi g hg)⟩
theorem At.foot {G : Nat → Prop} {w : World} {c : Nat} {bv : Value} {L : List El} {work : Nat} (h : At F w c bv L work) (hFG : ∀ b, F b → G b) : At G w c bv L work := by
  obtain ⟨h1, h2, vs, h3, h4, h5, h6, h7⟩ := h
  exact ⟨h1, h2, vs, h3, h4, hFG _ h5, h6.mono hFG, fun i hi => (h7 i hi).mono hFG⟩

theorem At.cell {w : World} {c : Nat} {bv : Value} {L : List El} {work : Nat} (h : At F w c bv L work) :
    w.cell? ⟨c, 0, none⟩ = some (.bool true) ∧ w.cell? ⟨c, 1, none⟩ = some bv ∧ w.cell? ⟨c, 2, none⟩ = some (.int .i64 L.length) ∧ w.cell? ⟨c, 3, none⟩ = some (.int .i64 work) := by
  simp [World.cell?, h.2.1]

theorem none_any {w : World} {c : Nat} (c0 : w.cell? ⟨c, 0, none⟩ = some (.bool true)) :
    Calls Try.prog 32 #[.pointer (some ⟨c, 0, none⟩)] w fun e w' => e = .returned (.bool false) ∧ w = w' := by
  go_enter Try.func32, Try.ntmps32
  go_wp2
  go_ret
  exact ⟨rfl, rfl⟩

theorem len_any {w : World} {c : Nat} {bv : Value} {L : List El} {work : Nat} (h : At F w c bv L work) :
    Calls Try.prog 22 #[.pointer (some ⟨c, 0, none⟩)] w fun e w' => e = .returned (.int .i64 L.length) ∧ w = w' := by
  obtain ⟨_, _, c2, _⟩ := h.cell
  have hn := none_any h.cell.1
  clear h
  go_enter Try.func22, Try.ntmps22
  go_wp2_with (go_at_call 32; refine hn.mono ?_; rintro e w' ⟨rfl, rfl⟩)
  go_ret
  exact ⟨rfl, rfl⟩

theorem work_any {w : World} {c : Nat} {bv : Value} {L : List El} {work : Nat} (h : At F w c bv L work) :
    Calls Try.prog 28 #[.pointer (some ⟨c, 0, none⟩)] w fun e w' => e = .returned (.int .i64 work) ∧ w = w' := by
  obtain ⟨_, _, _, c3⟩ := h.cell
  have hn := none_any h.cell.1
  clear h
  go_enter Try.func28, Try.ntmps28
  go_wp2_with (go_at_call 32; refine hn.mono ?_; rintro e w' ⟨rfl, rfl⟩)
  go_ret
  exact ⟨rfl, rfl⟩

theorem Buck.slice {w : World} {v : Value} {l : List El} (h : Buck w v l) : ∃ A c, v = .slice A l.length c := by
  obtain ⟨_, _, A, c, rfl, _⟩ := Own.rd (S := fun _ => True) h.1 (flat_one l) (fun _ _ => trivial)
  exact ⟨A, c, rfl⟩
theorem Buck.one {w : World} {vs : List Value} {f : Nat → List El} (h : ∀ i (h : i < vs.length), Buck w vs[i] (f i)) : ∀ u ∈ vs, u.oneCell' = true := by
  intro u hu
  obtain ⟨i, hi, rfl⟩ := List.getElem_of_mem hu
  obtain ⟨A, c, e⟩ := (h i hi).slice
  rw [e]; rfl

theorem levels_any {w : World} {c : Nat} {bv : Value} {L : List El} {work : Nat} (h : At F w c bv L work) :
    Calls Try.prog 34 #[.pointer (some ⟨c, 0, none⟩)] w fun e w' => e = .returned (.int .i64 (bl L.length)) ∧ w = w' := by
  obtain ⟨_, c1, _, _⟩ := h.cell
  have hn := none_any h.cell.1
  obtain ⟨_, _, vs, ho, hb, _⟩ := h
  obtain ⟨_, _, A, cp, rfl, _⟩ := ho.rd (S := fun _ => True) (Buck.one hb) (fun _ _ => trivial)
  clear ho hb
  go_enter Try.func34, Try.ntmps34
  go_wp2_with (go_at_call 32; refine hn.mono ?_; rintro e w' ⟨rfl, rfl⟩)
  go_ret
  exact ⟨rfl, rfl⟩

/-- slices.Clone: the same elements in a row of its own; nil, if nil. -/
theorem clone_any {S : Nat → Prop} {w : World} {v : Value} {l : List El} (h : RdL S enc K w v l) (hn : l.length ≤ 1000000) :
    Calls Try.prog 36 #[v] w fun e w' => ∃ v', e = .returned v' ∧ Own w' tE K v' l.length (flat enc l) ∧ OB v' (w.heap.size ≤ ·) ∧ Below w.heap.size w w' ∧ (v = .slice none 0 0 → v' = .slice none 0 0) := by
  have hsrc := src_of_rd etyS.und h
  obtain ⟨h1, h2, A, c, rfl, hnc, hc, h3⟩ := h
  cases A with
  | none =>
    have h0 : l = [] := by
      rcases Nat.eq_zero_or_pos l.length with h | h
      · exact List.eq_nil_of_length_eq_zero h
      · obtain ⟨b, off, e, _⟩ := h3 h; cases e
    subst h0
    have hq := fun W : World => Lib.run_eql_slice_nil (P := Try.prog) W tS tE none 0 c 0 0 etyS.und
    simp only [Option.isNone_none] at hq
    clear hsrc h3
    go_enter Try.func36, Try.ntmps36
    go_wp2
    go_ret
    exact ⟨_, rfl, Own.nil _ _ _, OB.nil _, Below.refl _ _, fun _ => rfl⟩
  | some a =>
    have hq := fun W : World => Lib.run_eql_slice_nil (P := Try.prog) W tS tE (some a) l.length c 0 0 etyS.und
    simp only [Option.isNone_some] at hq
    have hR : RdL S enc K w (.slice (some a) l.length c) l := ⟨h1, h2, some a, c, rfl, hnc, hc, h3⟩
    have HR := Lib.hid hR
    clear hsrc h3 hR
    go_enter Try.func36, Try.ntmps36
    go_wp2_with (at_builtin; refine wpList_app etyS rfl _ _ rfl (Own.made w tE K) rfl (src_of_rd etyS.und (HR.out.alloc (by decide) _)) rfl (by omega) ?_; intro A' c' w1 ho hg hob; simp only [Nat.zero_add, List.nil_append] at ho hob)
    go_ret
    refine ⟨_, rfl, ho, hob.after (OB.some_iff.2 (Nat.le_refl _)) (fun g hg => by simp at hg; omega), ?_, fun h => by cases h⟩
    exact ((Below.refl _ w).alloc (Nat.le_refl _) _).grown hg (by simp) (OB.some_iff.2 (Nat.le_refl _))

theorem bucket_any {w : World} {c : Nat} {bv : Value} {L : List El} {work : Nat} (h : At F w c bv L work) (i : Nat) (hi : i < bl L.length) :
    Calls Try.prog 35 #[.pointer (some ⟨c, 0, none⟩), .int .i64 i] w fun e w' => ∃ v', e = .returned v' ∧ Own w' tE K v' (bk i L).length (flat enc (bk i L)) ∧ OB v' (w.heap.size ≤ ·) ∧ Below w.heap.size w w' := by
  obtain ⟨_, c1, _, _⟩ := h.cell
  have hn := none_any h.cell.1
  obtain ⟨hL, _, vs, ho, hb, _⟩ := h
  have hbl : bl L.length ≤ 20 := bl_le_of_lt (by omega)
  have hvl : vs.length = bl L.length := by simpa using ho.1
  have hbi := hb i (by omega)
  have hrd := ho.rd (S := fun _ => True) (Buck.one hb) (fun _ _ => trivial)
  obtain ⟨_, _, A, cp, rfl, _, _, hA⟩ := hrd
  obtain ⟨g, off, rfl, _, hc⟩ := hA (by omega)
  have hci := hc i (by omega)
  have hlen : (bk i L).length ≤ 1000000 := by rw [bk_length]; split; have := bs_room ‹_›; omega; omega
  have hcl := clone_any (Own.rd (S := fun _ => True) hbi.1 (flat_one _) (fun _ _ => trivial)) hlen
  obtain ⟨A2, c2, hvi⟩ := hbi.slice
  rw [List.getD_eq_getElem?_getD, List.getElem?_eq_getElem (by omega), Option.getD_some, hvi] at hci
  rw [hvi] at hcl
  have HC := Lib.hid hcl
  have d0 : decide ((i : Int) < 0) = false := by simp
  have d1 : decide ((i : Int) ≥ (bl L.length : Int)) = false := by simp; omega
  clear ho hb hbi hc hA hvi hcl
  go_enter Try.func35, Try.ntmps35
  go_wp2_with (first | (go_at_call 32; refine hn.mono ?_; rintro e w' ⟨rfl, rfl⟩) | (go_at_call 36; refine HC.out.mono ?_; rintro e w1 ⟨v', rfl, ho, hob, hbe, _⟩))
  go_ret
  exact ⟨v', rfl, ho, hob, hbe⟩

/-- carry.New: an empty one. -/
theorem new_any (w : World) : Calls Try.prog 20 #[] w fun e w' => e = .returned (.pointer (some ⟨w.heap.size, 0, none⟩)) ∧ Below w.heap.size w w' ∧ w.heap.size < w'.heap.size ∧ At (w.heap.size ≤ ·) w' w.heap.size (.slice none 0 0) [] 0 := by
  go_enter Try.func20, Try.ntmps20
  go_wp2
  go_ret
  refine ⟨rfl, (Below.refl _ w).alloc (Nat.le_refl _) _, by simp, by simp, ?_, [], ?_, by simp, Nat.le_refl _, OB.nil _, by simp⟩
  · exact heap_alloc_new w _
  · rw [List.length_nil, bl_zero]; exact Own.nil _ _ _

/-- In the middle of an addition: the buckets' slice is bv1, with the values vs; bucket i holds f i. -/
structure Mid (F : Nat → Prop) (w wr : World) (c : Nat) (bv bv1 : Value) (N W : Int) (f : Nat → List El) (vs : List Value) : Prop where
  hc : c < w.heap.size
  mod : Mod (fun b => b = c ∨ bv.ownBlock = some b) w wr
  blk : wr.heap[c]? = some (.cells #[.bool true, bv1, .int .i64 N, .int .i64 W] tC (0, 0))
  own : Own wr tS 1 bv1 vs.length vs
  ob : OB bv1 (fun g => bv.ownBlock = some g ∨ w.heap.size ≤ g)
  bk : ∀ i (h : i < vs.length), Buck wr vs[i] (f i)
  vob : ∀ i (h : i < vs.length), OB vs[i] (fun g => F g ∨ w.heap.size ≤ g)

theorem Mid.bv1_ne {w wr : World} {c : Nat} {bv bv1 : Value} {N W : Int} {f : Nat → List El} {vs : List Value} (h : Mid F w wr c bv bv1 N W f vs) : OB bv1 (· ≠ c) := own_ne h.own h.blk (by decide)
theorem Mid.vs_ne {w wr : World} {c : Nat} {bv bv1 : Value} {N W : Int} {f : Nat → List El} {vs : List Value} (h : Mid F w wr c bv bv1 N W f vs) (i : Nat) (hi : i < vs.length) : OB vs[i] (· ≠ c) := own_ne (h.bk i hi).1 h.blk (by decide)

/-- blocks other than the carry's own turn -/
theorem Mid.keep {w wr w2 : World} {c : Nat} {bv bv1 : Value} {N W : Int} {f : Nat → List El} {vs : List Value} (h : Mid F w wr c bv bv1 N W f vs) {S : Nat → Prop} (hm : Mod S wr w2) (hc : ¬ S c) (hbv : OB bv1 (¬ S ·)) (hvs : ∀ i (h : i < vs.length), OB vs[i] (¬ S ·)) (hS : ∀ b, b < w.heap.size → S b → b = c ∨ bv.ownBlock = some b) : Mid F w w2 c bv bv1 N W f vs where
  hc := h.hc
  mod := h.mod.then hm hS
  blk := by rw [hm.block c (Nat.lt_of_lt_of_le h.hc h.mod.size) hc]; exact h.blk
  own := h.own.mod hm hbv
  ob := h.ob
  bk := fun i hi => ⟨(h.bk i hi).1.mod hm (hvs i hi), (h.bk i hi).2⟩
  vob := h.vob

/-- a store into the carry's own block -/
theorem Mid.put {w wr : World} {c : Nat} {bv bv1 : Value} {N W : Int} {f : Nat → List El} {vs : List Value} (h : Mid F w wr c bv bv1 N W f vs) (j : Nat) (u bv2 : Value) (N2 W2 : Int) (vs2 : List Value)
    (hcs : (#[.bool true, bv1, .int .i64 N, .int .i64 W] : Array Value).setIfInBounds j u = #[.bool true, bv2, .int .i64 N2, .int .i64 W2]) (hob : OB bv2 (fun g => bv.ownBlock = some g ∨ w.heap.size ≤ g)) (hown : Own wr tS 1 bv2 vs2.length vs2) (hbk : ∀ i (h : i < vs2.length), Buck wr vs2[i] (f i)) (hvob : ∀ i (h : i < vs2.length), OB vs2[i] (fun g => F g ∨ w.heap.size ≤ g)) :
    Mid F w (wr.setCell ⟨c, j, none⟩ u) c bv bv2 N2 W2 f vs2 where
  hc := h.hc
  mod := h.mod.setCell (p := ⟨c, j, none⟩) (fun _ => .inl rfl) u
  blk := by
    have := h.blk
    simp only [World.setCell, Array.getElem?_modify, if_true, this, Option.map_some]
    simp [hcs]
  own := hown.keep fun g hg => Below.heap_setCell _ _ _ _ (own_ne hown h.blk (by decide) g hg)
  ob := hob
  bk := fun i hi => ⟨(hbk i hi).1.keep fun g hg => Below.heap_setCell _ _ _ _ (own_ne (hbk i hi).1 h.blk (by decide) g hg), (hbk i hi).2⟩
  vob := hvob

/-- a bucket is set -/
theorem Mid.set {w wr : World} {c g cap : Nat} {bv : Value} {N W : Int} {f : Nat → List El} {vs : List Value} (h : Mid F w wr c bv (.slice (some ⟨g, 0, none⟩) vs.length cap) N W f vs) (i : Nat) (u : Value) (l : List El) (hu : Buck wr u l) (f2 : Nat → List El) (hf : ∀ j, j < vs.length → f2 j = if j = i then l else f j) (_hi : i < vs.length) (hob : OB u (fun g => F g ∨ w.heap.size ≤ g)) :
    Mid F w (wr.setCell ⟨g, i, none⟩ u) c bv (.slice (some ⟨g, 0, none⟩) (vs.set i u).length cap) N W f2 (vs.set i u) := by
  obtain ⟨cs, hcs⟩ := h.own.blk (g := g) rfl
  have hcg : c ≠ g := fun e => h.bv1_ne g rfl e.symm
  have hB : ∀ v l', Buck wr v l' → Buck (wr.setCell ⟨g, i, none⟩ u) v l' := fun v l' hb => ⟨hb.1.keep fun g' hg' => Below.heap_setCell _ _ _ _ (own_ne hb.1 hcs (by decide) g' hg'), hb.2⟩
  refine ⟨h.hc, h.mod.setCell (p := ⟨g, i, none⟩) (fun hg => ?_) u, ?_, ?_, OB.some_iff.2 (OB.some_iff.1 h.ob), fun j hj => ?_, fun j hj => ?_⟩
  · rcases OB.some_iff.1 h.ob with hh | hh
    · exact .inr hh
    · exact absurd hg (Nat.not_lt.2 hh)
  · rw [Below.heap_setCell _ _ _ _ hcg, List.length_set]; exact h.blk
  · have := (World.ownsRow.stored h.own i u).1
    simpa using this
  · simp only [List.length_set] at hj
    rw [List.getElem_set, hf j hj]
    split
    · rename_i e; rw [if_pos e.symm]; exact hB _ _ hu
    · rename_i e; rw [if_neg (fun h => e h.symm)]; exact hB _ _ (h.bk j hj)
  · simp only [List.length_set] at hj
    rw [List.getElem_set]
    split
    · exact hob
    · exact h.vob j hj

theorem Mid.cs {w wr : World} {c : Nat} {bv bv1 : Value} {N W : Int} {f : Nat → List El} {vs : List Value} (h : Mid F w wr c bv bv1 N W f vs) :
    wr.cell? ⟨c, 0, none⟩ = some (.bool true) ∧ wr.cell? ⟨c, 1, none⟩ = some bv1 ∧ wr.cell? ⟨c, 2, none⟩ = some (.int .i64 N) ∧ wr.cell? ⟨c, 3, none⟩ = some (.int .i64 W) ∧ ∀ j, wr.frozen? ⟨c, j, none⟩ = false := by
  simp [World.cell?, World.frozen?, h.blk]

/-- one bucket more, an empty one -/
theorem Mid.push {w wr w1 : World} {c : Nat} {bv bv1 v' : Value} {N W : Int} {f : Nat → List El} {vs : List Value} (h : Mid F w wr c bv bv1 N W f vs) (hg : wr.grownBy w1 bv1.ownBlock) (ho : Own w1 tS 1 v' (vs.length + 1) (vs ++ [.slice none 0 0]))
    (hob : OB v' (fun g => bv1.ownBlock = some g ∨ wr.heap.size ≤ g)) (hf : f vs.length = []) : w1.heap[c]? = wr.heap[c]? ∧ Mid F w (w1.setCell ⟨c, 1, none⟩ v') c bv v' N W f (vs ++ [.slice none 0 0]) := by
  have hcw : c < wr.heap.size := Nat.lt_of_lt_of_le h.hc h.mod.size
  have hc1 : w1.heap[c]? = wr.heap[c]? := hg.block c hcw fun e => h.bv1_ne c e.symm rfl
  have hb1 : w1.heap[c]? = some (.cells #[.bool true, bv1, .int .i64 N, .int .i64 W] tC (0, 0)) := by rw [hc1]; exact h.blk
  refine ⟨hc1, h.hc, ?_, ?_, ?_, ?_, fun i hi => ?_, fun i hi => ?_⟩
  · exact (h.mod.grown hg fun k hk hkw => (h.ob k hk).elim .inr (fun h' => absurd hkw (Nat.not_lt.2 h'))).setCell (p := ⟨c, 1, none⟩) (fun _ => .inl rfl) v'
  · simp only [World.setCell, Array.getElem?_modify, if_true, hb1, Option.map_some]
    simp
  · rw [List.length_append]
    exact ho.keep fun g hg => Below.heap_setCell _ _ _ _ (own_ne ho hb1 (by decide) g hg)
  · exact hob.after (h.ob) (fun g hg => .inr (Nat.le_trans h.mod.size hg))
  · rw [List.length_append, List.length_singleton] at hi
    rcases Nat.lt_or_ge i vs.length with h' | h'
    · rw [List.getElem_append_left h']
      have hb := h.bk i h'
      have ho1 : Own w1 tE K vs[i] (f i).length (flat enc (f i)) := hb.1.grown hg fun g hg' e => own_ne' hb.1 h.own (by decide) g hg' e.symm
      exact ⟨ho1.keep fun g hg => Below.heap_setCell _ _ _ _ (own_ne ho1 hb1 (by decide) g hg), hb.2⟩
    · have e : i = vs.length := by omega
      subst e
      rw [List.getElem_append_right (Nat.le_refl _)]
      simp only [Nat.sub_self, List.getElem_cons_zero, hf]
      exact ⟨Own.nil _ _ _, fun _ => rfl⟩
  · rw [List.length_append, List.length_singleton] at hi
    rcases Nat.lt_or_ge i vs.length with h' | h'
    · rw [List.getElem_append_left h']; exact h.vob i h'
    · have e : i = vs.length := by omega
      subst e
      rw [List.getElem_append_right (Nat.le_refl _)]
      simp only [Nat.sub_self, List.getElem_cons_zero]
      exact OB.nil _

set_option maxRecDepth 100000 in
set_option maxHeartbeats 4000000 in
theorem add_any {w : World} {c : Nat} {bv : Value} {L : List El} {work : Nat} (h : At F w c bv L work) (x : El) (hL : L.length < 1000000) (hW : work < 1000000000000) :
    Calls Try.prog 25 #[.pointer (some ⟨c, 0, none⟩), .agg (enc x).toArray] w fun e w' => ∃ bv' v', e = .returned (.tuple #[.int .i64 (t1 L.length), v']) ∧
      At (fun b => F b ∨ w.heap.size ≤ b) w' c bv' (L ++ [x]) (work + 2 ^ t1 L.length) ∧ OB bv' (fun g => bv.ownBlock = some g ∨ w.heap.size ≤ g) ∧ Mod (fun b => b = c ∨ bv.ownBlock = some b) w w' ∧
      Own w' tE K v' (2 ^ t1 L.length) (flat enc (bk (t1 L.length) (L ++ [x]))) ∧ OB v' (w.heap.size ≤ ·) := by
  have hn := none_any h.cell.1
  have hc : c < w.heap.size := (Array.getElem?_eq_some_iff.1 h.2.1).1
  obtain ⟨_, hblk, vs, ho, hb, hF⟩ := h
  have hvl : vs.length = bl L.length := by simpa using ho.1
  rw [← hvl] at ho
  have htb := t1_le_bl L.length
  have hbl : bl L.length ≤ 20 := bl_le_of_lt (by omega)
  have M0 : Mid F w w c bv bv L.length work (fun i => bk i L) vs := ⟨hc, Mod.refl _ _, hblk, ho, fun g hg => .inl hg, hb, fun i hi => (hF.2.2 i hi).mono fun _ h => .inl h⟩
  have HF0 := Lib.hid (And.intro hF.1 hF.2.1)
  clear hF
  have hvs : ∀ i (h : i < vs.length), OB vs[i] (· < w.heap.size) := fun i hi => (hb i hi).1.lt
  obtain ⟨a, n⟩ := x
  have M1 : Mid F w (w.alloc (.cells (enc (a, n)).toArray tE)) c bv bv L.length work (fun i => bk i L) vs := M0.keep (S := fun _ => False) (Mod.of_below _ ((Below.refl _ w).alloc (Nat.le_refl _) _)) id (fun _ _ h => h) (fun _ _ _ _ h => h) (fun _ _ h => h.elim)
  have hbox : (w.alloc (.cells (enc (a, n)).toArray tE)).heap[w.heap.size]? = some (.cells (enc (a, n)).toArray tE (0, 0)) := heap_alloc_new w _
  have hsz : w.heap.size < (w.alloc (.cells (enc (a, n)).toArray tE)).heap.size := by simp
  simp only [enc] at *
  have HV := Lib.hid hvl
  have htb : t1 L.length ≤ vs.length := by omega
  have hbl : vs.length ≤ 20 := by omega
  clear M0 hb ho hblk hn hvl
  go_enter Try.func25, Try.ntmps25
  go_wp2_with fail
  generalize hwA : World.alloc w _ = wA at *
  have HM := Lib.hid M1
  have HB := Lib.hid hbox
  have c0 : wA.cell? ⟨c, 0, none⟩ = some (.bool true) := by simp [World.cell?, M1.blk]
  have c1 : wA.cell? ⟨c, 1, none⟩ = some bv := by simp [World.cell?, M1.blk]
  clear M1 hbox hwA
  obtain ⟨A, cp, rfl, hA⟩ : ∃ A cp, bv = .slice A vs.length cp ∧ (0 < vs.length → ∃ g, A = some ⟨g, 0, none⟩) := by
    rcases HM.out.own.2 with ⟨rfl, h0⟩ | ⟨g, cap, cur, rfl, _⟩
    · exact ⟨none, 0, by rw [h0], by omega⟩
    · exact ⟨_, cap, rfl, fun _ => ⟨g, rfl⟩⟩
  refine (none_any c0).mono ?_
  rintro e w' ⟨rfl, rfl⟩
  go_upto_block 0 with (fail)
  go_cut [6] (fun s6 wx => s6 = .int .i64 (t1 L.length) ∧ wx = wA)
  case first =>
    go_wp2
    go_loop [6] (fun i => ∃ k : Nat, k ≤ t1 L.length ∧ i = .int .i64 k) (fun i => t1 L.length - (intOf i).toNat)
    case atStart => exact ⟨0, Nat.zero_le _, rfl⟩
    case round =>
      obtain ⟨k, hk, rfl⟩ := hrel
      by_cases hb : k < vs.length
      · obtain ⟨g, rfl⟩ := hA (by omega)
        have ck := World.ownsRow.cellAt HM.out.own k (by omega)
        obtain ⟨A2, c2, hv⟩ := (HM.out.bk k hb).slice
        rw [List.getElem?_eq_getElem hb, hv] at ck
        have d1 : decide ((k : Int) < (vs.length : Int)) = true := by simp; omega
        clear hv
        by_cases ht : k < t1 L.length
        · have d2 : 0 < (bk k L).length := bk_length_pos.2 (bit_below_t1 ht)
          go_wp2
          go_round
          case rel => exact ⟨k + 1, by omega, by go_num⟩
          case measure => simp [intOf]; omega
        · have : k = t1 L.length := by omega
          subst this
          have d2 : (bk (t1 L.length) L).length ≤ 0 := by
            have h0 := bit_at_t1 L.length
            rw [bk_length, if_neg (by omega)]; exact Nat.le_refl _
          go_wp2
          go_meet
          case rel => exact ⟨rfl, rfl⟩
      · have : k = t1 L.length := by omega
        subst this
        have d1 : decide ((t1 L.length : Int) < (vs.length : Int)) = false := by simp; omega
        go_wp2
        go_meet
        case rel => exact ⟨rfl, rfl⟩
  case rest =>
    obtain ⟨rfl, rfl⟩ := hcut
    go_upto_if 37 with (fail)
    go_cut [6] (fun s6 wx => s6 = .int .i64 (t1 L.length) ∧ ∃ bv1 vs1, Mid F w wx c (.slice A vs.length cp) bv1 L.length work (fun i => bk i L) vs1 ∧ vs1.length = bl (L.length + 1) ∧ (∀ i (h : i < vs1.length), OB vs1[i] (· < w.heap.size)) ∧ wx.heap[w.heap.size]? = some (.cells (enc (a, n)).toArray tE (0, 0)))
    case first =>
      have hbs := bl_succ L.length
      by_cases ht : t1 L.length = bl L.length
      · rw [if_pos ht] at hbs
        have d1 : ((t1 L.length : Int) == (vs.length : Int)) = true := by have := HV.out; simp; omega
        have hf : bk vs.length L = [] := bk_high (by have := HV.out; omega)
        have HF := Lib.hid hf
        have HBS := Lib.hid hbs
        have HT := Lib.hid ht
        clear hf hbs ht
        go_wp2_with (at_builtin; refine wpList_app1 etyB rfl _ _ rfl #[.slice none 0 0] HM.out.own rfl rfl rfl (by simp [Value.oneCell']) (by omega) ?_; intro g' c' w1 ho hg hob; have hp := HM.out.push hg ho (OB.some_iff.2 hob) HF.out; have hq0 := hp.1.trans HM.out.blk; (have hq1 : w1.cell? ⟨c, 1, none⟩ = some (.slice A vs.length cp) := by (simp [World.cell?, hq0])); (have hq2 : w1.frozen? ⟨c, 1, none⟩ = false := by (simp [World.frozen?, hq0])); clear hq0; have HP := Lib.hid hp; clear hp; have HG := Lib.hid hg; clear hg; have HO := Lib.hid hob; clear hob)
        go_meet
        case rel =>
          have hvl := HV.out
          have hT := HT.out
          refine ⟨rfl, _, _, HP.out.2, by rw [List.length_append, List.length_singleton, HBS.out, hvl], fun i hi => ?_, ?_⟩
          · rw [List.length_append, List.length_singleton] at hi
            rcases Nat.lt_or_ge i vs.length with h' | h'
            · rw [List.getElem_append_left h']; exact hvs i h'
            · rw [List.getElem_append_right h']; have : i - vs.length = 0 := by omega
              simp only [this, List.getElem_cons_zero]; exact OB.nil _
          · have hcw := hc
            rw [Below.heap_setCell _ _ _ _ (show w.heap.size ≠ c by omega), HG.out.block _ hsz (fun e => by
              have := own_ne HM.out.own HB.out (by decide) _ e.symm
              exact this rfl)]
            exact HB.out
      · rw [if_neg ht] at hbs
        have d1 : ((t1 L.length : Int) == (vs.length : Int)) = false := by have := HV.out; simp; omega
        have HBS := Lib.hid hbs
        clear hbs ht
        go_wp2
        go_meet
        case rel => exact ⟨rfl, _, _, HM.out, by have := HV.out; have := HBS.out; omega, hvs, HB.out⟩
    case rest =>
      obtain ⟨rfl, bv1, vs1, M, hl1, hvs1, hbx⟩ := hcut
      have hl1p : 0 < vs1.length := by rw [hl1, bl_pos (by omega)]; omega
      have htl : t1 L.length < vs1.length := by
        rw [hl1, bl_succ]; have := HV.out; split <;> omega
      have hl20 : vs1.length ≤ 21 := by rw [hl1, bl_succ]; have := HV.out; split <;> omega
      obtain ⟨A1, cap1, rfl⟩ := M.own.slice
      obtain ⟨g1, rfl⟩ := M.own.head hl1p
      have HM1 := Lib.hid M
      have HL1 := Lib.hid hl1
      have HVS := Lib.hid hvs1
      have HBX := Lib.hid hbx
      have hszc : w.heap.size < wc.heap.size := (Array.getElem?_eq_some_iff.1 hbx).1
      clear M hl1 hvs1 hbx
      go_wp2
      go_loopw [7, 8] (fun all kk wr => ∃ (k : Nat) (vs2 : List Value), k ≤ t1 L.length ∧ kk = .int .i64 ((k : Int) - 1) ∧ Mid F w wr c (.slice A vs.length cp) (.slice (some ⟨g1, 0, none⟩) vs2.length cap1) L.length work (fun i => if k ≤ i ∧ i < t1 L.length then [] else bk i L) vs2 ∧
          vs2.length = vs1.length ∧ (∀ i (h : i < vs2.length), OB vs2[i] (· < w.heap.size)) ∧ wr.heap[w.heap.size]? = some (.cells (enc (a, n)).toArray tE (0, 0)) ∧ Own wr tE K all (cat (fun j => bk j L) k (t1 L.length - k)).length (flat enc (cat (fun j => bk j L) k (t1 L.length - k))) ∧ OB all (w.heap.size < ·)) (fun _ kk _ => (intOf kk + 1).toNat)
      case atStart =>
        refine ⟨t1 L.length, vs1, Nat.le_refl _, rfl, ?_, rfl, HVS.out, HBX.out, by rw [Nat.sub_self]; exact Own.nil _ _ _, OB.nil _⟩
        have : (fun i => if t1 L.length ≤ i ∧ i < t1 L.length then [] else bk i L) = fun i => bk i L := by
          funext i; rw [if_neg (by omega)]
        rw [this]; exact HM1.out
      case round =>
        obtain ⟨k, vs2, hk, rfl, M, hl2, hvs2, hbx, hall, hoball⟩ := hrel
        have HM := Lib.hid M
        have HL2 := Lib.hid hl2
        have HV2 := Lib.hid hvs2
        have HB2 := Lib.hid hbx
        have HO := Lib.hid hall
        have hszr : w.heap.size < wr.heap.size := (Array.getElem?_eq_some_iff.1 hbx).1
        obtain ⟨q0, q1, q2, q3, qf⟩ := M.cs
        rcases Nat.eq_zero_or_pos k with rfl | hkp
        · have htl2 : t1 L.length < vs2.length := by omega
          obtain ⟨u, hu⟩ : ∃ u, vs2[t1 L.length]? = some u := ⟨_, List.getElem?_eq_getElem htl2⟩
          have hcell := World.ownsRow.cellAt M.own (t1 L.length) (by omega)
          rw [hu] at hcell
          obtain ⟨Aa, ca, rfl⟩ := HO.out.slice
          rw [Nat.sub_zero] at HO hoball
          have HU := Lib.hid hu
          clear M hl2 hvs2 hbx hall hu
          go_wp2
          have hclen : (cat (fun j => bk j L) 0 (t1 L.length)).length + 1 ≤ 1000000 := by rw [cat_low_all, List.length_drop]; omega
          have n1 : c ≠ g1 := fun e => HM.out.bv1_ne g1 rfl e.symm
          have n2 : w.heap.size ≠ g1 := fun e => own_ne HM.out.own HB2.out (by decide) g1 rfl e.symm
          have n1' := n1.symm
          have n2' := n2.symm
          have hS : wr.cell? ⟨w.heap.size, 0, none⟩ = some (.int .i64 a) ∧ wr.cell? ⟨w.heap.size, 1, none⟩ = some (.int .i64 n) := by simp [World.cell?, HB2.out, enc]
          go_region_held3 (fun w' => w'.cell? ⟨c, 1, none⟩ = some (.slice (some ⟨g1, 0, none⟩) vs2.length cap1) ∧ w'.cell? ⟨w.heap.size, 0, none⟩ = some (.int .i64 a) ∧ w'.cell? ⟨w.heap.size, 1, none⟩ = some (.int .i64 n))
            (first | go_keep)
            ((refine step_app etyS rfl _ _ rfl (HO.out.alloc _) rfl (src_blk etyS.und 1 (heap_alloc_new wr _) rfl (by simp [Value.oneCell'])) rfl (by omega) ?_; intro A' c' w1 ho hg hob; have hm := ((Mod.refl (fun b => (Value.slice Aa (cat (fun j => bk j L) 0 (t1 L.length)).length ca).ownBlock = some b) wr).alloc _).drew.grown hg (fun _ hk _ => hk); have hM1 := HM.out.keep hm (own_ne HO.out HM.out.blk (by decide) c · rfl) (fun g hg e => own_ne' HM.out.own HO.out (by decide) g hg e) (fun i hi g hg e => by have h1 := HV2.out i hi g hg; have h2 := hoball g e; omega) (fun b hb e => absurd (hoball b e) (by omega)); (have hbx1 := (hm.block _ hszr (fun e => absurd (hoball _ e) (by omega))).trans HB2.out); obtain ⟨p0, p1, p2, p3, pf⟩ := hM1.cs; (have hS1 : w1.cell? ⟨w.heap.size, 0, none⟩ = some (.int .i64 a) ∧ w1.cell? ⟨w.heap.size, 1, none⟩ = some (.int .i64 n) := by (simp [World.cell?, hbx1, enc])); (have p4 : w1.cell? ⟨g1, t1 L.length, none⟩ = some u := by (rw [World.ownsRow.cellAt hM1.own (t1 L.length) (by omega), HU.out])); (have p5 : w1.frozen? ⟨g1, t1 L.length, none⟩ = false := World.ownsRow.frozenAt hM1.own (t1 L.length)); have HM1 := Lib.hid hM1; clear hM1; have HMM := Lib.hid hm; clear hm; have HG := Lib.hid hg; clear hg; have HOB := Lib.hid hob; clear hob; have HO1 := Lib.hid ho; clear ho; have HX1 := Lib.hid hbx1; clear hbx1))
          have e3 : bk (t1 L.length) (L ++ [(a, n)]) = cat (fun j => bk j L) 0 (t1 L.length) ++ [(a, n)] := bk_snoc_at L _
          have hl3 : (bk (t1 L.length) (L ++ [(a, n)])).length = (cat (fun j => bk j L) 0 (t1 L.length)).length + 1 := by rw [e3, List.length_append, List.length_singleton]
          have hbuck : Buck w1 (.slice A' ((cat (fun j => bk j L) 0 (t1 L.length)).length + 1) c') (bk (t1 L.length) (L ++ [(a, n)])) := by
            refine ⟨?_, fun h => ?_⟩
            · rw [hl3, e3, flat_append]; simpa [flat, enc] using HO1.out
            · rw [h] at hl3; simp at hl3
          have hM3 := HM1.out.set (t1 L.length) _ _ hbuck (fun i => bk i (L ++ [(a, n)])) (fun j hj => by
            by_cases h1 : j = t1 L.length
            · subst h1; rw [if_pos rfl]
            · rw [if_neg h1]
              by_cases h2 : j < t1 L.length
              · rw [if_pos ⟨Nat.zero_le _, h2⟩]; exact bk_snoc_low L _ h2
              · rw [if_neg (by omega)]; exact bk_snoc_high L _ (by omega)) htl2 (OB.mono (HOB.out.after (p := (w.heap.size ≤ ·)) (hoball.mono fun _ h => Nat.le_of_lt h) (fun g hg => by simp at hg; omega)) fun _ h => .inr h)
          have hv3 : (vs2.set (t1 L.length) (.slice A' ((cat (fun j => bk j L) 0 (t1 L.length)).length + 1) c'))[t1 L.length]? = some (.slice A' ((cat (fun j => bk j L) 0 (t1 L.length)).length + 1) c') := by
            rw [List.getElem?_set_self htl2]
          have hlen3 : (vs2.set (t1 L.length) (.slice A' ((cat (fun j => bk j L) 0 (t1 L.length)).length + 1) c')).length = vs2.length := List.length_set
          have hob3 : OB (.slice A' ((cat (fun j => bk j L) 0 (t1 L.length)).length + 1) c') (w.heap.size ≤ ·) := HOB.out.after (hoball.mono fun _ h => Nat.le_of_lt h) (fun g hg => by simp at hg; omega)
          rw [hlen3] at hM3
          have hpw := bk_snoc_at_length L (a, n)
          rw [hl3] at hpw
          generalize World.setCell w1 _ _ = w3 at *
          generalize vs2.set (t1 L.length) _ = vs3 at *
          rw [← hlen3] at hM3
          generalize (cat (fun j => bk j L) 0 (t1 L.length)).length + 1 = len3 at *
          obtain ⟨q0, q1, q2, q3, qf⟩ := hM3.cs
          have hck := World.ownsRow.cellAt hM3.own (t1 L.length) (by omega)
          rw [hv3] at hck
          have HM3 := Lib.hid hM3
          have qf2 := qf 2
          have qf3 := qf 3
          have HB3 := Lib.hid hv3
          have HL3 := Lib.hid hlen3
          have HPW := Lib.hid hpw
          have HLL := Lib.hid hl3
          have hlv : t1 L.length < vs3.length := by omega
          clear hM3 hlen3 hpw hl3 hv3 qf hS hS1 e3 hbuck HM1 HMM HG HOB HO1 HX1 HO
          go_upto_region 16 with (fail)
          have hM4 := HM3.out.put 2 (.int .i64 ((L.length : Int) + 1)) _ ((L.length : Int) + 1) work vs3 rfl HM3.out.ob HM3.out.own HM3.out.bk HM3.out.vob
          have hv4 := HB3.out
          generalize World.setCell w3 _ _ = w4 at *
          obtain ⟨q0, q1, q2, q3, qf⟩ := hM4.cs
          have hck := World.ownsRow.cellAt hM4.own (t1 L.length) (by omega)
          rw [hv4] at hck
          have qf3 := qf 3
          have HM4 := Lib.hid hM4
          clear hM4 hv4 qf HM3
          go_still_tail 13, (by kernel_rfl)
          change wpList _ _ _ _ _ w4.drew
          go_wp2_with fail
          have hM4d := HM4.out.put 3 (.int .i64 ((work : Int) + (len3 : Int))) _ ((L.length : Int) + 1) ((work : Int) + (len3 : Int)) vs3 rfl HM4.out.ob HM4.out.own HM4.out.bk HM4.out.vob
          have hM5 := hM4d.keep (S := fun _ => False) (Mod.refl _ (w4.setCell ⟨c, 3, none⟩ (.int .i64 ((work : Int) + (len3 : Int))))).drew id (fun _ _ h => h) (fun _ _ _ _ h => h) (fun _ _ h => h.elim)
          have hb5 := hM5.bk (t1 L.length) hlv
          have hv5 : vs3[t1 L.length] = .slice A' len3 c' := by have := HB3.out; rw [List.getElem?_eq_getElem hlv] at this; exact Option.some.inj this
          rw [hv5] at hb5
          generalize World.drew (World.setCell w4 _ _) = w5 at *
          refine (clone_any (Own.rd (S := fun _ => True) hb5.1 (flat_one _) (fun _ _ => trivial)) (by have := HLL.out; omega)).mono ?_
          rintro e w6 ⟨v', rfl, ho6, hob6, hbe6, _⟩
          have hM6 : Mid F w w6 c _ _ _ _ _ _ := hM5.keep (S := fun _ => False) (Mod.of_below _ hbe6) id (fun _ _ h => h) (fun _ _ _ _ h => h) (fun _ _ h => h.elim)
          have hsz5 := hM5.mod.size
          clear hM4d hM5 hb5 hv5
          go_wp2
          go_ret2
          refine ⟨_, v', rfl, ⟨by simp; omega, ?_, vs3, ?_, fun i hi => hM6.bk i hi, .inl HF0.out.1, hM6.ob.mono fun g hg => hg.imp_left (HF0.out.2 g), hM6.vob⟩, hM6.ob, hM6.mod, ?_, ?_⟩
          · have := hM6.blk
            rw [this, List.length_append, List.length_singleton, HPW.out]
            rfl
          · have := hM6.own
            rw [List.length_append, List.length_singleton, ← HL1.out, ← HL2.out, ← HL3.out]
            exact this
          · rw [← HPW.out, ← HLL.out]; exact ho6
          · exact hob6.mono fun g hg => Nat.le_trans hsz5 hg
        · obtain ⟨k, rfl⟩ : ∃ k', k = k' + 1 := ⟨k - 1, by omega⟩
          have hk2 : k < vs2.length := by omega
          have hbk : Buck wr vs2[k] (bk k L) := by have := M.bk k hk2; rw [if_neg (by omega)] at this; exact this
          obtain ⟨A2, c2, hv⟩ := hbk.slice
          have hck := World.ownsRow.cellAt M.own k (by omega)
          rw [List.getElem?_eq_getElem hk2, hv] at hck
          have hsrc := src_of_rd etyS.und (Own.rd (S := fun _ => True) hbk.1 (flat_one _) (fun _ _ => trivial))
          rw [hv] at hsrc
          have HS := Lib.hid hsrc
          have HK := Lib.hid hv
          have hcat : cat (fun j => bk j L) (k + 1) (t1 L.length - (k + 1)) ++ bk k L = cat (fun j => bk j L) k (t1 L.length - k) := by
            rw [show t1 L.length - k = (t1 L.length - (k + 1)) + 1 by omega, cat]
          have HC := Lib.hid hcat
          have hclen : (cat (fun j => bk j L) (k + 1) (t1 L.length - (k + 1))).length + (bk k L).length ≤ 1000000 := by
            have h1 := cat_low L k (by omega) (t1 L.length - k) (by omega)
            rw [← List.length_append, hcat, h1, List.length_take, List.length_drop]; omega
          have e1 : ((k + 1 : Nat) : Int) - 1 = k := by omega
          clear M hl2 hvs2 hbx hall hbk hv hsrc hcat
          rw [e1]
          obtain ⟨Aa, ca, rfl⟩ := HO.out.slice
          go_wp2_with (at_builtin; refine wpList_app etyS rfl _ _ rfl HO.out rfl HS.out rfl (by omega) ?_; intro A' c' w1 ho hg hob; have hm := Mod.of_grown hg; have hM1 := HM.out.keep hm (own_ne HO.out HM.out.blk (by decide) c · rfl) (fun g hg e => own_ne' HM.out.own HO.out (by decide) g hg e) (fun i hi g hg e => by have h1 := HV2.out i hi g hg; have h2 := hoball g e; omega) (fun b hb e => absurd (hoball b e) (by omega)); obtain ⟨p0, p1, p2, p3, pf⟩ := hM1.cs; (have p4 : w1.cell? ⟨g1, k, none⟩ = some (.slice A2 (bk k L).length c2) := by (rw [World.ownsRow.cellAt hM1.own k (by omega), List.getElem?_eq_getElem hk2, HK.out])); (have p5 : w1.frozen? ⟨g1, k, none⟩ = false := World.ownsRow.frozenAt hM1.own k); have HM1 := Lib.hid hM1; clear hM1; have HMM := Lib.hid hm; clear hm; have HG := Lib.hid hg; clear hg; have HOB := Lib.hid hob; clear hob; have HO1 := Lib.hid ho; clear ho)
          have hM2 := HM1.out.set k (.slice none 0 0) [] ⟨Own.nil _ _ _, fun _ => rfl⟩ (fun i => if k ≤ i ∧ i < t1 L.length then [] else bk i L) (fun j hj => by
            by_cases h1 : j = k
            · subst h1; rw [if_pos rfl, if_pos (by omega)]
            · rw [if_neg h1]
              by_cases h2 : k + 1 ≤ j ∧ j < t1 L.length
              · rw [if_pos h2, if_pos (by omega)]
              · rw [if_neg h2, if_neg (by omega)]) hk2 (OB.nil _)
          have hg1 : g1 ≠ w.heap.size := fun e => by
            have := own_ne HM1.out.own (g := w.heap.size) (by rw [HMM.out.block _ hszr (fun e => absurd (hoball _ e) (by omega))]; exact HB2.out) (by decide) g1 rfl
            exact this e
          refine ⟨⟨k, vs2.set k (.slice none 0 0), by omega, rfl, hM2, by rw [List.length_set]; exact HL2.out, fun i hi => ?_, ?_, ?_, ?_⟩, by simp [intOf]⟩
          · rw [List.length_set] at hi
            rw [List.getElem_set]
            split
            · exact OB.nil _
            · exact HV2.out i hi
          · rw [Below.heap_setCell _ _ _ _ (show w.heap.size ≠ g1 from fun e => hg1 e.symm), HMM.out.block _ hszr (fun e => absurd (hoball _ e) (by omega))]
            exact HB2.out
          · have h2 := HO1.out
            rw [← List.length_append, HC.out, ← flat_append, HC.out] at h2
            rw [← List.length_append, HC.out]
            refine h2.keep fun g hg => Below.heap_setCell _ _ _ _ (fun e => ?_)
            exact own_ne' HM1.out.own h2 (by decide) g1 rfl (by rw [hg, e])
          · have := HOB.out.after (p := (w.heap.size < ·)) hoball (fun g hg => by omega)
            exact this

end Go.Proofs.Ytecbheeffmhlnaa.CarryI
