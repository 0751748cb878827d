/- half's Drop: a thing less. -/
import Derived.Test.YtecbheeffmhlnaaHalfIAnew
namespace Go.Proofs.Ytecbheeffmhlnaa.HalfI
open Go.RowKit Go.Proofs.Ytecbheeffmhlnaa Go.Proofs.Ytecbheeffmhlnaa.Pl Go.Proofs.Ytecbheeffmhlnaa.TrI

theorem mem_cat_inv {α : Type} {g : Nat → List α} {a : α} : ∀ (d i : Nat), a ∈ cat g i d → ∃ k, i ≤ k ∧ k < i + d ∧ a ∈ g k := by
  intro d
  induction d with
  | zero => intro i h; simp [cat] at h
  | succ d ih =>
    intro i h
    rw [cat, List.mem_append] at h
    rcases h with h | h
    · obtain ⟨k, h1, h2, h3⟩ := ih (i + 1) h
      exact ⟨k, by omega, by omega, h3⟩
    · exact ⟨i, Nat.le_refl _, by omega, h⟩
theorem bk_of_mem {α : Type} {l : List α} {a : α} (h : a ∈ l) : ∃ i, i < bl l.length ∧ a ∈ bk i l := by
  have h1 : a ∈ cat (fun k => bk k l) 0 (bl l.length) := by rw [cat_all l _ (Nat.le_refl _)]; exact h
  obtain ⟨k, _, h2, h3⟩ := mem_cat_inv _ _ h1
  exact ⟨k, by omega, h3⟩
theorem bk_sublist {α : Type} (i : Nat) (l : List α) : (bk i l).Sublist l := by
  unfold bk
  split
  · exact (List.take_sublist _ _).trans (List.drop_sublist _ _)
  · exact List.nil_sublist _

/-- the trees, when a thing is dropped -/
theorem tl_drop {L : List (X × Nat)} {alive : List Bool} {m : List (X × Int)} {x : X} {k i : Nat} (W : WF L alive m) (hx : (x, k) ∈ keep alive L) (hi : (x, k) ∈ bk i L) : ∀ j q, tlOf L (alive.set k false) j = some q →
    (if j = i then some (2 ^ i, (lvs alive (bk i L)).erase x) else tlOf L alive j) = some q := by
  intro j q hq
  unfold tlOf at hq
  by_cases h1 : bk j L = []
  · rw [if_pos h1] at hq; cases hq
  · rw [if_neg h1] at hq
    by_cases h2 : j = i
    · subst h2
      rw [if_pos rfl, ← hq]
      have hsub : (keep alive (bk j L)).Sublist (keep alive L) := List.Sublist.filter _ (bk_sublist j L)
      rw [lvs_set (x := x) (k := k)]
      · exact W.key.sublist (hsub.map _)
      · exact List.mem_filter.2 ⟨hi, (List.mem_filter.1 hx).2⟩
      · exact (keep_nd W.nd).sublist (hsub.map _)
    · rw [if_neg h2]
      unfold tlOf
      rw [if_neg h1, ← hq, lvs_set_none]
      intro hc
      obtain ⟨p, hp, he⟩ := List.mem_map.1 hc
      rcases Nat.lt_or_ge i j with h3 | h3
      · exact bk_disj W.nd h3 hi hp he.symm
      · exact bk_disj W.nd (show j < i by omega) hp hi he

section
variable {w0 w : World} {C0 C : Nat → Nat} {h c bm : Nat} {bv av tv lvv : Value} {L : List (X × Nat)} {work : Nat} {alive : List Bool} {lv : List Nat} {ts : List TV} {m : List (X × Int)} {tl : Nat → Option (Nat × List X)}

/-- a tree turns -/
theorem HM.turn_tree (H : HM w0 C0 w C h c bm bv av tv lvv L work alive lv ts m tl) {i : Nat} {q' : Nat × List X} {w' : World} (hm : Mod (fun b => C b = i + 2) w w') (hi : i < ts.length) (ht : Tr (fun b => C b = i + 2 ∨ w.heap.size ≤ b) w' ts[i] q'.1 q'.2) :
    HM w0 C0 w' (tint C w.heap.size (i + 2)) h c bm bv av tv lvv L work alive lv ts m (fun j => if j = i then some q' else tl j) := by
  have H' := H.fewer (tl' := fun j => if j = i then none else tl j) (fun j q hq => by
    by_cases e : j = i
    · rw [if_pos e] at hq; cases hq
    · rw [if_neg e] at hq; exact hq)
  obtain ⟨h1, h2, h3, h4, h5, h6, h7, h8, h9, h10, h11⟩ := H'.step hm (i + 2) (fun _ => False) (fun b o _ hb => .inr ⟨i, hb, if_pos rfl⟩) (fun b hb => by omega)
  refine ⟨h1, h2, (h5 id).trans H.blk, h3, h4, h6 id id id, (h7 id).1, (h7 id).2, (h8 id).1, (h8 id).2, (h9 id).1, (h9 id).2, h10 id, fun j q hq => ?_⟩
  by_cases e : j = i
  · subst e
    rw [if_pos rfl] at hq
    cases hq
    refine ⟨hi, ht.mono fun b hb hc => ?_⟩
    rcases hc with hc | hc
    · by_cases hlt : b < w.heap.size
      · exact (tint_old hlt).trans hc
      · exact tint_new (Nat.le_of_not_lt hlt)
    · exact tint_new hc
  · rw [if_neg e] at hq
    exact h11 j q (by rw [if_neg e]; exact hq)

theorem HM.rebase (H : HM w0 C0 w C h c bm bv av tv lvv L work alive lv ts m tl) : HM w C w C h c bm bv av tv lvv L work alive lv ts m tl :=
  ⟨Mod.refl _ _, fun _ _ => rfl, H.blk, H.ch, H.cb, H.car, H.ra, H.ca, H.rl, H.cl, H.rt, H.ct, H.rm, H.tr⟩

theorem quiet_left {P : Program} {f : FuncId} {args : Array Value} {w : World} {n : Nat} {v : Value}
    (h : Calls P f args (w.drewN n) fun e w' => e = .returned v ∧ w.drewN n = w') : Calls P f args (w.drewN n) fun e w'' => e = .returned v ∧ ∃ m, w'' = w.drewN m :=
  h.mono fun _ _ ⟨he, hm⟩ => ⟨he, n, hm.symm⟩

set_option maxRecDepth 100000 in
set_option maxHeartbeats 4000000 in
theorem drop_no (H : HM w C w C h c bm bv av tv lvv L work alive lv ts m tl) (W : WF L alive m) {x : X} (hx : x ∉ lvs alive L) :
    Calls Try.prog 7 #[.pointer (some ⟨h, 0, none⟩), ek x] w fun e w' => e = .returned (.tuple #[.int .i64 0, .bool false]) ∧ w = w' := by
  have hn := none_any H.cs.2.2.1
  obtain ⟨_, _, _, _, _, _, c6, _⟩ := H.cs
  have hl := H.rm.look_out kty undM (zeroN w) (fun e => hx ((W.mem x).1 e))
  clear H W
  go_enter Try.func7, Try.ntmps7
  go_wp2_with (go_at_call 21; refine hn.mono ?_; rintro e w' ⟨rfl, rfl⟩)
  go_ret2
  exact ⟨rfl, rfl⟩

/-- what a Drop answers: how many things are placed -/
def dropN (L : List (X × Nat)) (alive : List Bool) : Nat := if 2 * (lvs alive L).length < L.length then (lvs alive L).length else 0
def dropL (L : List (X × Nat)) (alive : List Bool) : List (X × Nat) := if 2 * (lvs alive L).length < L.length then keep alive L else L

set_option maxRecDepth 100000 in
set_option maxHeartbeats 4000000 in
theorem drop_yes (H : HM w C w C h c bm bv av tv lvv L work alive lv ts m (tlOf L alive)) (W : WF L alive m) (V : LvOK L alive lv) {x : X} {k : Nat} (hx : (x, k) ∈ keep alive L) (hts : ts.length ≤ 20) (hL : L.length ≤ 400000) (hA : alive.length ≤ 400000) (hW : work ≤ 100000000000) :
    Calls Try.prog 7 #[.pointer (some ⟨h, 0, none⟩), ek x] w fun e w' => e = .returned (.tuple #[.int .i64 (dropN L (alive.set k false)), .bool true]) ∧ ∃ C' bv' tv' lv' ts' m',
      HM w C w' C' h c bm bv' av tv' lvv (dropL L (alive.set k false)) (work + dropN L (alive.set k false)) (alive.set k false) lv' ts' m' (tlOf (dropL L (alive.set k false)) (alive.set k false)) ∧
      WF (dropL L (alive.set k false)) (alive.set k false) m' ∧ LvOK (dropL L (alive.set k false)) (alive.set k false) lv' ∧ ts'.length ≤ 20 := by
  have hn := none_any H.cs.2.2.1
  obtain ⟨c0, c1, c2, c3, c4, c5, c6, _⟩ := H.cs
  have hxL : (x, k) ∈ L := (List.mem_filter.1 hx).1
  have hka := W.num _ hxL
  have hxm : (x, (k : Int)) ∈ m := W.mp.mem_iff.2 (List.mem_map.2 ⟨(x, k), hx, rfl⟩)
  have hl := H.rm.look_in kty undM hxm W.nodup
  obtain ⟨wm, hdel, hmm, hmd, hsz⟩ := H.rm.del kty undM hxm W.nodup 0
  have W' := W.drop hx
  have H1 := H.set_map hmd hmm
  obtain ⟨i, hib, hik⟩ := bk_of_mem hxL
  have hlvk := V.2 i _ hik
  obtain ⟨Aa, ca, rfl⟩ := H.ra.slice
  obtain ⟨ga, rfl⟩ := H.ra.head (by omega)
  obtain ⟨Al, cl, rfl⟩ := H.rl.slice
  obtain ⟨gl, rfl⟩ := H.rl.head (by have := V.1; simp only at hka; omega)
  have hgl : gl ≠ ga := fun e => own_ne' H.rl H.ra (by decide) gl rfl (by rw [e]; rfl)
  have hme : (m.eraseP fun p => decide (x = p.1)).length = (lvs (alive.set k false) L).length := W'.len
  obtain ⟨m', hm'⟩ : ∃ m', m' = m.eraseP fun p => decide (x = p.1) := ⟨_, rfl⟩
  rw [← hm'] at hmm W' H1 hme
  have HME := Lib.hid hme
  have HM1 := Lib.hid H1
  have HW := Lib.hid W
  have HW' := Lib.hid W'
  have HV := Lib.hid V
  have HLV := Lib.hid hlvk
  have HX := Lib.hid hx
  have HIK := Lib.hid hik
  clear hme hm' H1 W W' V hlvk hx hik H hmm hmd hxL hxm
  simp only at hka
  go_enter Try.func7, Try.ntmps7
  go_upto_region 7 with ((go_at_call 21; refine hn.mono ?_; rintro e w' ⟨rfl, rfl⟩))
  generalize tint C _ 1 = C1 at *
  clear hdel hl c0 c1 c2 c3 c4 c5 c6
  obtain ⟨q0, q1, q2, q3, q4, q5, q6, qf⟩ := HM1.out.cs
  obtain ⟨u3, hu3⟩ : ∃ u, wm.cell? ⟨ga, k, none⟩ = some u := by
    rw [World.ownsRow.cellAt HM1.out.ra k (by omega), List.getElem?_eq_getElem (by simpa using hka)]
    exact ⟨_, rfl⟩
  have hf3 : wm.frozen? ⟨ga, k, none⟩ = false := World.ownsRow.frozenAt HM1.out.ra k
  have hkl : (k : Int) < (alive.length : Int) := by omega
  go_upto_region 8 with (fail)
  have H2 := HM1.out.set_alive k false
  clear hu3 hf3 q0 q1 q2 q3 q4 q5 q6 qf
  generalize World.setCell wm _ _ = w2 at *
  obtain ⟨q0, q1, q2, q3, q4, q5, q6, qf⟩ := H2.cs
  have hlen : ∀ n, (Builtin.len_ #[tM] tInt #[.map (some bm)]).run Try.prog (w2.drewN n) = .ok (.int .i64 m'.length) (w2.drewN n) := fun n => (H2.drewN n).rm.len (kt := tK) (e := tInt) (tM := tM) undM tInt
  have HH2 := Lib.hid H2
  clear H2 HM1
  have hm'l : m'.length ≤ 1000000 := by
    rw [HME.out]; exact Nat.le_trans (Nat.le_of_eq (List.length_map _)) (Nat.le_trans (List.length_filter_le _ _) (by omega))
  by_cases hbig : 2 * m'.length < L.length
  · have d1 : decide (2 * (m'.length : Int) < (L.length : Int)) = true := by simp; omega
    go_quiet ((go_at_call 22; exact quiet_left (CarryI.len_any (HH2.out.drewN _).car)))
    have han := anew_any (HH2.out.drewN nq) HW'.out.num HW'.out.nd (by rw [List.length_set]; exact HV.out.1) hL (by rw [List.length_set]; exact hA) hW
    have HAN := Lib.hid han
    clear han
    go_wp2_with (go_at_call 23; refine HAN.out.mono ?_; rintro e w5 ⟨rfl, hres⟩; have HR := Lib.hid hres; clear hres)
    go_ret2
    have hb2 : 2 * (lvs (alive.set k false) L).length < L.length := by rw [← HME.out]; exact hbig
    have hkl : (keep (alive.set k false) L).length = (lvs (alive.set k false) L).length := (List.length_map _).symm
    have e1 : dropN L (alive.set k false) = (keep (alive.set k false) L).length := by unfold dropN; rw [if_pos hb2, hkl]
    have e2 : dropL L (alive.set k false) = keep (alive.set k false) L := if_pos hb2
    rw [e1, e2]
    obtain ⟨C', bv', tv', lv', ts', hH, hV, hl'⟩ := HR.out
    exact ⟨rfl, C', bv', tv', lv', ts', m', hH, HW'.out.anew, hV, hl'⟩
  · have d1 : decide (2 * (m'.length : Int) < (L.length : Int)) = false := by simp; omega
    go_quiet ((go_at_call 22; exact quiet_left (CarryI.len_any (HH2.out.drewN _).car)))
    have hb2 : ¬ 2 * (lvs (alive.set k false) L).length < L.length := by rw [← HME.out]; exact hbig
    have HB2 := Lib.hid hb2
    clear hb2
    have H3 := HH2.out.drewN nq
    obtain ⟨q0, q1, q2, q3, q4, q5, q6, qf⟩ := H3.cs
    have hne : bk i L ≠ [] := fun e => by have := HIK.out; rw [e] at this; cases this
    have htli : tlOf L alive i = some (2 ^ i, lvs alive (bk i L)) := if_neg hne
    obtain ⟨hti, htr⟩ := H3.tr i _ htli
    obtain ⟨At, ct, rfl⟩ := H3.rt.slice
    obtain ⟨gt, rfl⟩ := H3.rt.head (by omega)
    have hlvl : k < lv.length := by rw [HV.out.1]; exact hka
    have r5 : w2.cell? ⟨gl, k, none⟩ = some (.int .i64 i) := by
      show (w2.drewN nq).cell? ⟨gl, k, none⟩ = _
      rw [World.ownsRow.cellAt H3.rl k (by omega), List.getElem?_map, HLV.out]; rfl
    have r3 : w2.cell? ⟨gt, i, none⟩ = some (.pointer ts[i]) := by
      show (w2.drewN nq).cell? ⟨gt, i, none⟩ = _
      have h0 := RdL.cell (S := fun _ => True) (enc := encT) (k := KT) encT_len (Own.rd H3.rt (flatT_one ts) (fun _ _ => trivial)) i hti 0 (by decide)
      simpa [encT] using h0
    have hxb : x ∈ lvs alive (bk i L) := List.mem_map.2 ⟨(x, k), List.mem_filter.2 ⟨HIK.out, (List.mem_filter.1 HX.out).2⟩, rfl⟩
    have hp20 : (2 : Nat) ^ i ≤ 2 ^ 19 := Nat.pow_le_pow_right (by decide) (by have := bl_le_of_lt (n := L.length) (k := 19) (by omega); omega)
    have hdr := fun N => drop_tr (w := w2.drewN N) (htr.keep (w' := w2.drewN N) fun _ _ _ => rfl) (Nat.le_trans hp20 (by decide)) hxb
    have HTL := Lib.hid htli
    have HH3 := Lib.hid H3
    have hkv : (k : Int) < (lv.length : Int) := by omega
    have hiv : (i : Int) < (ts.length : Int) := by omega
    obtain ⟨t0, ht0⟩ : ∃ t0, t0 = ts[i] := ⟨_, rfl⟩
    rw [← ht0] at r3 hdr
    have HT0 := Lib.hid ht0
    have HDR := Lib.hid hdr
    have hS5 : ∀ N w5, Mod (fun b => C1 b = i + 2) (w2.drewN N) w5 → w5.cell? ⟨h, 1, none⟩ = some DV ∧ w5.cell? ⟨h, 3, none⟩ = some (.slice (some ⟨gt, 0, none⟩) ts.length ct) ∧ w5.cell? ⟨h, 5, none⟩ = some (.slice (some ⟨gl, 0, none⟩) lv.length cl) ∧ w5.cell? ⟨gl, k, none⟩ = some (.int .i64 i) ∧ w5.cell? ⟨gt, i, none⟩ = some (.pointer t0) := by
      intro N w5 hm
      have hb : ∀ b, C1 b = 1 → b < w2.heap.size → w5.heap[b]? = w2.heap[b]? := fun b hc hl => hm.block b hl (by show ¬ C1 b = i + 2; omega)
      have hbh := hb h HH2.out.ch (World.block_lt_of_cell? w2 _ q1)
      have hbl := hb gl (HH2.out.cl gl rfl) (World.block_lt_of_cell? w2 _ r5)
      have hbt := hb gt (HH2.out.ct gt rfl) (World.block_lt_of_cell? w2 _ r3)
      exact ⟨(World.cell?_of_block (a := ⟨h, 1, none⟩) hbh).trans q1, (World.cell?_of_block (a := ⟨h, 3, none⟩) hbh).trans q3, (World.cell?_of_block (a := ⟨h, 5, none⟩) hbh).trans q5, (World.cell?_of_block (a := ⟨gl, k, none⟩) hbl).trans r5, (World.cell?_of_block (a := ⟨gt, i, none⟩) hbt).trans r3⟩
    have HS5 := Lib.hid hS5
    clear hS5
    clear hdr htli H3 htr hp20 hxb hne ht0
    go_wp2
    go_region_held3 (fun w' => w'.cell? ⟨h, 1, none⟩ = some DV ∧ w'.cell? ⟨h, 3, none⟩ = some (.slice (some ⟨gt, 0, none⟩) ts.length ct) ∧ w'.cell? ⟨h, 5, none⟩ = some (.slice (some ⟨gl, 0, none⟩) lv.length cl) ∧ w'.cell? ⟨gl, k, none⟩ = some (.int .i64 i) ∧ w'.cell? ⟨gt, i, none⟩ = some (.pointer t0))
      (first | go_keep)
      ((go_at_call 6; refine (HDR.out _).mono ?_; rintro e w5 ⟨⟨b5, rfl⟩, ht5, hm5⟩; have HT5 := Lib.hid ht5; clear ht5; obtain ⟨s1, s2, s3, s4, s5⟩ := HS5.out _ _ hm5; have HM5 := Lib.hid hm5; clear hm5))
    go_wp2
    go_ret2
    have e1 : dropN L (alive.set k false) = 0 := if_neg HB2.out
    have e2 : dropL L (alive.set k false) = L := if_neg HB2.out
    rw [e1, e2]
    have hT := HT5.out
    rw [HT0.out] at hT
    have H6 := (HH2.out.drewN _).turn_tree HM5.out hti (q' := (2 ^ i, (lvs alive (bk i L)).erase x)) hT
    exact ⟨rfl, _, _, _, lv, ts, m', H6.fewer (tl_drop HW.out HX.out HIK.out), HW'.out, ⟨by rw [List.length_set]; exact HV.out.1, HV.out.2⟩, hts⟩
end
end Go.Proofs.Ytecbheeffmhlnaa.HalfI
