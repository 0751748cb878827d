/- half's trees in gridironlaw22: bags. -/
import Derived.Test.YtecbheeffmhlnaaLaw22
import Derived.Test.YtecbheeffmhlnaaMaps
namespace Go.Proofs.Ytecbheeffmhlnaa.TrI
open Go.RowKit Go.Proofs.Ytecbheeffmhlnaa Go.Proofs.Ytecbheeffmhlnaa.Pl

abbrev X := Int
abbrev ek : X → Value := Value.int .i64
theorem kty : KTy 2 ek := KTy.int (by kernel_rfl)
/-- a thing's cells -/
abbrev encX : X → List Value := Law22.encI
abbrev KX : Nat := 1
theorem encX_len (x : X) : (encX x).length = KX := rfl
theorem flatX_one (l : List X) : ∀ u ∈ flat encX l, u.oneCell' = true := Law22.flatI_one l
theorem etyX : ETy 28 2 KX := Law22.etyI
abbrev TV := Option Addr
/-- a tree's cells -/
def encT : TV → List Value := fun a => [.pointer a]
abbrev KT : Nat := 1
theorem encT_len (t : TV) : (encT t).length = KT := rfl
theorem encT_one (t : TV) : ∀ u ∈ encT t, u.oneCell' = true := by simp [encT, Value.oneCell']
theorem etyT : ETy 51 25 KT := .mk' (by_ := 8) (z := .pointer none) (by kernel_rfl) (by kernel_rfl) rfl (by decide) (by decide)
/-- no tree -/
abbrev ZT : TV := none
abbrev BV : Value := .func (.func 5) #[] #[]
abbrev DV : Value := .func (.func 6) #[] #[]

theorem eqB (W : World) : Sem.run Try.prog (binOp .eql 26 BV .nilFunc) W = .ok (.bool false) W := by kernel_rfl
theorem eqD (W : World) : Sem.run Try.prog (binOp .eql 27 DV .nilFunc) W = .ok (.bool false) W := by kernel_rfl
theorem ins_perm (l : List Int) (x : Int) : (ins l x).Perm (x :: l) := by
  induction l with
  | nil => exact .refl _
  | cons y ys ih =>
    unfold ins
    split
    · exact .refl _
    · exact (List.Perm.cons y ih).trans (List.Perm.swap _ _ _)
theorem srt_perm (l : List Int) : (srt l).Perm l := by
  suffices h : ∀ acc : List Int, (l.foldl ins acc).Perm (acc ++ l) by simpa [srt] using h []
  induction l with
  | nil => intro acc; simp
  | cons x l ih =>
    intro acc
    rw [List.foldl_cons]
    refine (ih _).trans (((ins_perm acc x).append_right l).trans ?_)
    exact List.perm_middle.symm
theorem rm_erase (l : List Int) (x : Int) : Law22.rm l x = l.erase x := by
  induction l with
  | nil => rfl
  | cons y ys ih =>
    rw [Law22.rm, List.erase_cons]
    by_cases h : y = x
    · simp [h]
    · simp [h, ih]
theorem srt_erase (l : List Int) (x : Int) : srt (l.erase x) = Law22.rm (srt l) x := by
  rw [rm_erase]
  have h1 : (srt (l.erase x)).Perm ((srt l).erase x) := (srt_perm _).trans ((srt_perm l).symm.erase x)
  exact h1.eq_of_pairwise (le := (· ≤ ·)) (fun a b _ _ h1 h2 => by omega) (srt_srtd _) ((srt_srtd l).sublist List.erase_sublist)

/-- a tree of at most n things, of which l are alive -/
def Tr (S : Nat → Prop) (w : World) (t : TV) (n : Nat) (l : List X) : Prop := l.length ≤ n ∧ Law22.Bag S w (.pointer t) (srt l)
theorem Tr.keep {S : Nat → Prop} {w w' : World} {t : TV} {n : Nat} {l : List X} (h : Tr S w t n l) (hb : ∀ b, b < w.heap.size → S b → w'.heap[b]? = w.heap[b]?) : Tr S w' t n l := ⟨h.1, h.2.keep hb⟩
theorem Tr.mono {S T : Nat → Prop} {w : World} {t : TV} {n : Nat} {l : List X} (h : Tr S w t n l) (hST : ∀ b, b < w.heap.size → S b → T b) : Tr T w t n l := by
  obtain ⟨h0, p, lv, hv, hp, hc, ho, hw⟩ := h
  exact ⟨h0, p, lv, hv, hST p (Array.getElem?_eq_some_iff.1 hc).1 hp, hc, fun g hg => hST g (hw.lt g hg) (ho g hg), hw⟩

theorem build_tr {S : Nat → Prop} {w : World} {v : Value} {l : List X} (h : RdL S encX KX w v l) {n : Nat} (hn : l.length ≤ n) (hl : n ≤ 1000000) :
    Calls Try.prog 5 #[v] w fun e w' => ∃ t, e = .returned (.pointer t) ∧ Tr (w.heap.size ≤ ·) w' t n l ∧ Below w.heap.size w w' := by
  refine (Law22.build_any h (by omega)).mono ?_
  rintro e w' ⟨v', rfl, hB, hb⟩
  obtain ⟨p, lv, rfl, hp⟩ := hB
  exact ⟨_, rfl, ⟨hn, p, lv, rfl, hp⟩, hb⟩

theorem drop_tr {S : Nat → Prop} {w : World} {t : TV} {n : Nat} {l : List X} (h : Tr S w t n l) (hl : n ≤ 1000000) {x : X} (hx : x ∈ l) :
    Calls Try.prog 6 #[.pointer t, ek x] w fun e w' => (∃ b, e = .returned (.bool b)) ∧ Tr (fun b => S b ∨ w.heap.size ≤ b) w' t n (l.erase x) ∧ Mod S w w' := by
  have hlen := h.1
  refine (Law22.drop_any h.2 x (by rw [srt_length]; omega)).mono ?_
  rintro e w' ⟨rfl, hB, hm⟩
  refine ⟨⟨_, rfl⟩, ⟨?_, ?_⟩, hm⟩
  · rw [List.length_erase_of_mem hx]; omega
  · rw [srt_erase]; exact hB

end Go.Proofs.Ytecbheeffmhlnaa.TrI
