/- HalfTells: what stands at each round's head. -/
import Derived.Test.YtecbheeffmhlnaaPlTells
namespace Go.Proofs.Ytecbheeffmhlnaa.Tells
open Go.RowKit Go.Proofs.Ytecbheeffmhlnaa Go.Proofs.Ytecbheeffmhlnaa.Pl Go.Proofs.Ytecbheeffmhlnaa.HalfI Go.Proofs.Ytecbheeffmhlnaa.Ref22 Go.Proofs.Ytecbheeffmhlnaa.TrI

/-- what is outside of the half turns, and new blocks come -/
theorem outside {w0 w : World} {C0 C : Nat → Nat} {h c bm : Nat} {bv av tv lvv : Value} {L : List (X × Nat)} {work : Nat} {alive : List Bool} {lv : List Nat} {ts : List TV} {m : List (X × Int)} {tl : Nat → Option (Nat × List X)}
    (H : HM w0 C0 w C h c bm bv av tv lvv L work alive lv ts m tl) {w' : World} (hm : Mod (fun b => C b = 0) w w') :
    HM w' (tint C w.heap.size 0) w' (tint C w.heap.size 0) h c bm bv av tv lvv L work alive lv ts m tl := by
  have hh : h < w.heap.size := (Array.getElem?_eq_some_iff.1 H.blk).1
  have hown : ∀ {E K n : Nat} {v : Value} {xs : List Value}, Own w E K v n xs → OB v (fun b => C b = 1) → Own w' E K v n xs ∧ OB v (fun b => tint C w.heap.size 0 b = 1) := fun ho hc =>
    ⟨ho.keep fun g hg => hm.block g (ho.lt g hg) (fun e => by have h1 : C g = 1 := hc g hg; have h2 : C g = 0 := e; omega), fun g hg => (tint_old (ho.lt g hg)).trans (hc g hg)⟩
  refine ⟨Mod.refl _ _, fun _ _ => rfl, (hm.block h hh (fun e => by have h1 := H.ch; have h2 : C h = 0 := e; omega)).trans H.blk, (tint_old hh).trans H.ch, (tint_old H.rm.lt).trans H.cb, ?_, (hown H.ra H.ca).1, (hown H.ra H.ca).2, (hown H.rl H.cl).1, (hown H.rl H.cl).2, (hown H.rt H.ct).1, (hown H.rt H.ct).2, ?_, fun i q hq => ?_⟩
  · have h1 : CarryI.At (fun b => tint C w.heap.size 0 b = 1) w c bv L work := H.car.foot' fun b hb hc => (tint_old hb).trans hc
    exact h1.keep fun b cs E fr hb hc _ => by
      have hlt := (Array.getElem?_eq_some_iff.1 hc).1
      have hb1 := (tint_old hlt).symm.trans hb
      exact hm.block b hlt fun e => by have h2 : C b = 0 := e; omega
  · exact H.rm.keep (hm.block bm H.rm.lt (fun e => by have h1 := H.cb; have h2 : C bm = 0 := e; omega))
  · obtain ⟨hi, ht⟩ := H.tr i q hq
    refine ⟨hi, (ht.mono fun b hb hc => (tint_old hb).trans hc).keep fun b hb hc => hm.block b hb fun e => ?_⟩
    have hc' := (tint_old hb).symm.trans hc
    have h2 : C b = 0 := e
    omega

/-- the half and the document's half, behind k operations -/
def Next (w0 w : World) (h c bm gM k : Nat) : Prop :=
  ∃ (C : Nat → Nat) (bv av tv lvv : Value) (L : List (Int × Nat)) (work : Nat) (alive : List Bool) (lv : List Nat) (ts : List TV) (m : List (Int × Int)) (lvM avM : Value),
    HM w C w C h c bm bv av tv lvv L work alive lv ts m (tlOf L alive) ∧ WF L alive m ∧ LvOK L alive lv ∧ ts.length ≤ 20 ∧ L.length ≤ k ∧ alive.length ≤ k ∧ work ≤ 1000 * k ∧
    w.heap[gM]? = some (.cells #[lvM, avM, .int .i64 work] tMd (0, 0)) ∧ C gM = 0 ∧ Md (fun b => C b = 0 ∧ b ≠ gM) w lvM avM (toP L alive) ∧ Below w0.heap.size w0 w ∧ (∀ b, b < w0.heap.size → C b = 0) ∧ w0.heap.size ≤ gM

theorem Md.keep' {S : Nat → Prop} {w w' : World} {lv av : Value} {P : List (Int × Bool)} (h : Md S w lv av P) (hk : ∀ b, b < w.heap.size → S b → w'.heap[b]? = w.heap[b]?) : Md S w' lv av P := ⟨h.l.keep (by decide) hk, h.a.keep (by decide) hk⟩
theorem Md.mono' {S T : Nat → Prop} {w : World} {lv av : Value} {P : List (Int × Bool)} (h : Md S w lv av P) (hk : ∀ b, b < w.heap.size → S b → T b) : Md T w lv av P := ⟨h.l.mono hk (by decide), h.a.mono hk (by decide)⟩

theorem next_below {w0 w w' : World} {h c bm gM k : Nat} (N : Next w0 w h c bm gM k) (hb : Below w.heap.size w w') : Next w0 w' h c bm gM k := by
  obtain ⟨C, bv, av, tv, lvv, L, work, alive, lv, ts, m, lvM, avM, H, W, V, ht, h1, h2, h3, hg, hcg, hmd, hb0, hc0, hgM⟩ := N
  have hgl : gM < w.heap.size := (Array.getElem?_eq_some_iff.1 hg).1
  refine ⟨tint C w.heap.size 0, bv, av, tv, lvv, L, work, alive, lv, ts, m, lvM, avM, outside H (Mod.of_below _ hb), W, V, ht, h1, h2, h3, (hb.block gM hgl).trans hg, (tint_old hgl).trans hcg, ?_, then_below hb0 hb hb0.size, fun b hb => (tint_old (Nat.lt_of_lt_of_le hb hb0.size)).trans (hc0 b hb), hgM⟩
  exact Md.keep' (Md.mono' hmd fun b hb hc => ⟨(tint_old hb).trans hc.1, hc.2⟩) fun b hlt _ => hb.block b hlt

/-- an operation of both: the half's own first, then the document's, then what it answers is stored -/
theorem next_step {w0 wa w1 w2 : World} {Ca C1 : Nat → Nat} {h c bm gM k : Nat} {bv av tv lvv : Value} {L : List (Int × Nat)} {work : Nat} {alive : List Bool} {lv : List Nat} {ts : List TV} {m : List (Int × Int)} {lv' av' : Value} {cs0 : Array Value}
    (H : HM wa Ca w1 C1 h c bm bv av tv lvv L work alive lv ts m (tlOf L alive)) (W : WF L alive m) (V : LvOK L alive lv) (ht : ts.length ≤ 20) (h1 : L.length ≤ k) (h2 : alive.length ≤ k) (h3 : work ≤ 1000 * k)
    (hg : w1.heap[gM]? = some (.cells cs0 tMd (0, 0))) (hs : cs0.size = 3) (hcg : C1 gM = 0) (hb2 : Below w1.heap.size w1 w2) (hmd : Md (fun b => (C1 b = 0 ∧ b ≠ gM) ∨ w1.heap.size ≤ b) w2 lv' av' (toP L alive))
    (hb0 : Below w0.heap.size w0 w1) (hc0 : ∀ b, b < w0.heap.size → C1 b = 0) (hgM : w0.heap.size ≤ gM) :
    Next w0 (((w2.setCell ⟨gM, 0, none⟩ lv').setCell ⟨gM, 1, none⟩ av').setCell ⟨gM, 2, none⟩ (.int .i64 work)) h c bm gM k := by
  have hgl : gM < w1.heap.size := (Array.getElem?_eq_some_iff.1 hg).1
  have hg2 := (hb2.block gM hgl).trans hg
  have hm : Mod (fun b => C1 b = 0) w1 (((w2.setCell ⟨gM, 0, none⟩ lv').setCell ⟨gM, 1, none⟩ av').setCell ⟨gM, 2, none⟩ (.int .i64 work)) :=
    (((Mod.of_below _ hb2).setCell (p := ⟨gM, 0, none⟩) (fun _ => hcg) _).setCell (p := ⟨gM, 1, none⟩) (fun _ => hcg) _).setCell (p := ⟨gM, 2, none⟩) (fun _ => hcg) _
  have ho : ∀ b, b ≠ gM → (((w2.setCell ⟨gM, 0, none⟩ lv').setCell ⟨gM, 1, none⟩ av').setCell ⟨gM, 2, none⟩ (.int .i64 work)).heap[b]? = w2.heap[b]? := fun b hb => by
    rw [Below.heap_setCell _ _ _ _ hb, Below.heap_setCell _ _ _ _ hb, Below.heap_setCell _ _ _ _ hb]
  have hcell : (((w2.setCell ⟨gM, 0, none⟩ lv').setCell ⟨gM, 1, none⟩ av').setCell ⟨gM, 2, none⟩ (.int .i64 work)).heap[gM]? = some (.cells #[lv', av', .int .i64 work] tMd (0, 0)) := by
    obtain ⟨l, rfl⟩ : ∃ l : List Value, cs0 = l.toArray := ⟨cs0.toList, rfl⟩
    match l, hs with
    | [a, b, d], _ => simp [World.setCell, Array.getElem?_modify, hg2]
  refine ⟨tint C1 w1.heap.size 0, bv, av, tv, lvv, L, work, alive, lv, ts, m, lv', av', outside H hm, W, V, ht, h1, h2, h3, hcell, (tint_old hgl).trans hcg, ?_, (((then_below hb0 hb2 hb0.size).setCell (p := ⟨gM, 0, none⟩) hgM _).setCell (p := ⟨gM, 1, none⟩) hgM _).setCell (p := ⟨gM, 2, none⟩) hgM _, fun b hb => (tint_old (Nat.lt_of_lt_of_le hb hb0.size)).trans (hc0 b hb), hgM⟩
  · refine Md.keep' (Md.mono' hmd fun b _ hc => ?_) fun b _ hc => ho b hc.2
    rcases hc with hc | hc
    · by_cases hlt : b < w1.heap.size
      · exact ⟨(tint_old hlt).trans hc.1, hc.2⟩
      · exact ⟨tint_new (Nat.le_of_not_lt hlt), hc.2⟩
    · exact ⟨tint_new hc, by omega⟩
/-- what Next says, with what is known of new blocks -/
theorem next_open {w0 w w' : World} {h c bm gM k : Nat} (N : Next w0 w h c bm gM k) (hb : Below w.heap.size w w') :
  ∃ (C : Nat → Nat) (bv av tv lvv : Value) (L : List (Int × Nat)) (work : Nat) (alive : List Bool) (lv : List Nat) (ts : List TV) (m : List (Int × Int)) (lvM avM : Value),
    HM w' C w' C h c bm bv av tv lvv L work alive lv ts m (tlOf L alive) ∧ WF L alive m ∧ LvOK L alive lv ∧ ts.length ≤ 20 ∧ L.length ≤ k ∧ alive.length ≤ k ∧ work ≤ 1000 * k ∧
    w'.heap[gM]? = some (.cells #[lvM, avM, .int .i64 work] tMd (0, 0)) ∧ C gM = 0 ∧ Md (fun b => C b = 0 ∧ b ≠ gM) w' lvM avM (toP L alive) ∧ Below w0.heap.size w0 w' ∧ (∀ b, b < w0.heap.size → C b = 0) ∧ w0.heap.size ≤ gM ∧ (∀ b, w.heap.size ≤ b → C b = 0) := by
  obtain ⟨C, bv, av, tv, lvv, L, work, alive, lv, ts, m, lvM, avM, H, W, V, ht, h1, h2, h3, hg, hcg, hmd, hb0, hc0, hgM⟩ := N
  have hgl : gM < w.heap.size := (Array.getElem?_eq_some_iff.1 hg).1
  refine ⟨tint C w.heap.size 0, bv, av, tv, lvv, L, work, alive, lv, ts, m, lvM, avM, outside H (Mod.of_below _ hb), W, V, ht, h1, h2, h3, (hb.block gM hgl).trans hg, (tint_old hgl).trans hcg, ?_, then_below hb0 hb hb0.size, fun b hb => (tint_old (Nat.lt_of_lt_of_le hb hb0.size)).trans (hc0 b hb), hgM, fun b hb => tint_new hb⟩
  exact Md.keep' (Md.mono' hmd fun b hb hc => ⟨(tint_old hb).trans hc.1, hc.2⟩) fun b hlt _ => hb.block b hlt

theorem md_after {w w1 : World} {C C1 : Nat → Nat} {gM : Nat} {lvM avM : Value} {P : List (Int × Bool)} (hmd : Md (fun b => C b = 0 ∧ b ≠ gM) w lvM avM P) (hm : Mod (fun b => C b ≠ 0) w w1) (he : ∀ b, b < w.heap.size → C1 b = C b) : Md (fun b => C1 b = 0 ∧ b ≠ gM) w1 lvM avM P := by
  have h1 : Md (fun b => b < w.heap.size ∧ C b = 0 ∧ b ≠ gM) w lvM avM P := Md.mono' hmd fun b hb hc => ⟨hb, hc⟩
  exact Md.mono' (Md.keep' h1 fun b hlt hc => hm.block b hlt (fun e => e hc.2.1)) fun b _ hc => ⟨(he b hc.1).trans hc.2.1, hc.2.2⟩
theorem md_old {w1 w2 : World} {C1 : Nat → Nat} {gM : Nat} {lvM avM : Value} {P : List (Int × Bool)} (hmd : Md (fun b => C1 b = 0 ∧ b ≠ gM) w1 lvM avM P) (hb : Below w1.heap.size w1 w2) : Md (fun b => (C1 b = 0 ∧ b ≠ gM) ∨ w1.heap.size ≤ b) w2 lvM avM P :=
  Md.mono' (Md.keep' hmd fun b hlt _ => hb.block b hlt) fun _ _ hc => .inl hc

end Go.Proofs.Ytecbheeffmhlnaa.Tells
