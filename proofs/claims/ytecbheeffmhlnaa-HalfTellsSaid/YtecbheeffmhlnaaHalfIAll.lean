/- half's All: the things that are alive. -/
import Derived.Test.YtecbheeffmhlnaaHalfICells
namespace Go.Proofs.Ytecbheeffmhlnaa.HalfI
open Go.RowKit Go.Proofs.Ytecbheeffmhlnaa Go.Proofs.Ytecbheeffmhlnaa.Pl Go.Proofs.Ytecbheeffmhlnaa.TrI

section
variable {w0 w : World} {C0 C : Nat → Nat} {h c bm : Nat} {bv av tv lvv : Value} {L : List (X × Nat)} {work : Nat} {alive : List Bool} {lv : List Nat} {ts : List TV} {m : List (X × Int)} {tl : Nat → Option (Nat × List X)}

set_option maxRecDepth 100000 in
set_option maxHeartbeats 4000000 in
theorem all_any (H : HM w0 C0 w C h c bm bv av tv lvv L work alive lv ts m tl) (hnum : ∀ p ∈ L, p.2 < alive.length) :
    Calls Try.prog 16 #[.pointer (some ⟨h, 0, none⟩)] w fun e w' => ∃ v', e = .returned v' ∧ Own w' 2 KX v' (lvs alive L).length (flat encX (lvs alive L)) ∧ OB v' (w.heap.size ≤ ·) ∧ Below w.heap.size w w' := by
  have hn := none_any H.cs.2.2.1
  have hce := cells_any H hnum
  have hlen : (keep alive L).length ≤ 1000000 := Nat.le_trans (List.length_filter_le _ _) H.car.1
  have hlv : lvs alive L = (keep alive L).map (·.1) := rfl
  rw [hlv]
  clear hlv H
  generalize keep alive L = M at *
  generalize hR : M.map (·.1) = R at *
  go_enter Try.func16, Try.ntmps16
  go_wp2_with (first | (go_at_call 21; refine hn.mono ?_; rintro e w' ⟨rfl, rfl⟩) | (go_at_call 29; refine hce.mono ?_; rintro e w1 ⟨v', rfl, ho, hob, hb⟩; obtain ⟨A1, c1, rfl⟩ := ho.slice; have HO := Lib.hid ho; clear ho))
  go_loopw [3, 11] (fun out jj wr => ∃ j : Nat, j ≤ M.length ∧ jj = .int .i64 j ∧ Below w.heap.size w wr ∧ Own wr CarryI.tE CarryI.K (.slice A1 M.length c1) M.length (flat CarryI.enc M) ∧ Own wr 2 KX out ((M.take j).map (·.1)).length (flat encX ((M.take j).map (·.1))) ∧ OB out (w.heap.size ≤ ·)) (fun _ jj _ => M.length - (intOf jj).toNat)
  case atStart => exact ⟨0, Nat.zero_le _, rfl, hb, HO.out, Own.nil _ _ _, OB.nil _⟩
  case round =>
    clear HO hb
    obtain ⟨j, hj, rfl, hb, hoi, ho, hob⟩ := hrel
    obtain ⟨Ac, cc, rfl⟩ := ho.slice
    by_cases hlt : j < M.length
    · obtain ⟨g1, rfl⟩ := hoi.head (by omega)
      have hcell := RdL.cell (S := fun _ => True) CarryI.enc_len (Own.rd hoi (CarryI.flat_one _) (fun _ _ => trivial)) j hlt
      have hts : (M.take (j + 1)).map (·.1) = (M.take j).map (·.1) ++ [M[j].1] := by rw [List.take_succ_eq_append_getElem hlt, List.map_append]; rfl
      have hcl : ((M.take j).map (·.1)).length ≤ 1000000 := by rw [List.length_map, List.length_take]; omega
      generalize (M.take j).map (·.1) = cur at *
      generalize M[j] = y at *
      obtain ⟨a, n⟩ := y
      have y0 : wr.cell? ⟨g1, j * 2, none⟩ = some (.int .i64 a) := by have := hcell 0 (by decide); rwa [Nat.zero_add] at this
      have y1 : wr.cell? ⟨g1, j * 2 + 1, none⟩ = some (.int .i64 n) := by have := hcell 1 (by decide); rwa [Nat.zero_add] at this
      have HI := Lib.hid hoi
      have HO := Lib.hid ho
      have HT := Lib.hid hts
      have HB := Lib.hid hb
      have hszi : w.heap.size ≤ wr.heap.size := hb.size
      clear hcell hts hoi ho hb
      go_upto_region 7 with (fail)
      have hb2 := (Below.refl wr.heap.size wr).alloc (Nat.le_refl _) (.cells (#[.int .i64 a, .int .i64 n] : Array Value) CarryI.tE)
      have hx2 := heap_alloc_new wr (.cells (#[.int .i64 a, .int .i64 n] : Array Value) CarryI.tE)
      generalize World.alloc wr _ = w2 at *
      have x0 : w2.cell? ⟨wr.heap.size, 0, none⟩ = some (.int .i64 a) := by simp [World.cell?, hx2]
      have hb3 := then_below HB.out hb2 hszi
      have ho2 := HO.out.below hb2
      have hi2 := HI.out.below hb2
      have hsz2 := hb2.size
      have HO2 := Lib.hid ho2
      have HI2 := Lib.hid hi2
      have HB3 := Lib.hid hb3
      clear hb2 ho2 hi2 hb3 hx2
      go_wp2_with (at_builtin; refine wpList_app1 etyX rfl _ _ rfl #[.int .i64 a] HO2.out rfl rfl rfl (by simp [Value.oneCell']) (by omega) ?_; intro g' c' w3 ho hg hob3; have HO3 := Lib.hid ho; clear ho; have HG := Lib.hid hg; clear hg; have HOB := Lib.hid hob3; clear hob3)
      refine ⟨⟨j + 1, by omega, by go_num, HB3.out.grown HG.out HB3.out.size hob, HI2.out.grown HG.out fun g hg e => ?_, ?_, ?_⟩, by simp [intOf]; omega⟩
      · cases hg
        exact own_ne' HO2.out HI2.out (by decide) g1 e.symm rfl
      · rw [HT.out, List.length_append, List.length_singleton, flat_append]
        exact HO3.out
      · exact OB.some_iff.2 (HOB.out.elim (fun e => hob g' e) (fun h => Nat.le_trans (Nat.le_trans hszi hsz2) h))
    · have hke : j = M.length := by omega
      subst hke
      have e : (M.take M.length).map (·.1) = R := by rw [List.take_length, hR]
      generalize (M.take M.length).map (·.1) = cur at *
      subst e
      have HO := Lib.hid ho
      clear ho hR
      go_wp2
      go_ret
      exact ⟨_, rfl, HO.out, hob, hb⟩
end
end Go.Proofs.Ytecbheeffmhlnaa.HalfI
