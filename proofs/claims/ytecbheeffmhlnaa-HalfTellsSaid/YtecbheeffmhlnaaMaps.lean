/- Maps of the call's own, from keys of some type to numbers: what a look-up, a store, a deletion and 'len' give. -/
import Derived.Test.YtecbheeffmhlnaaBase
import Derived.MapKept
import Derived.WideKeyRuns
import Derived.DeepKeys2
namespace Go.Proofs.Ytecbheeffmhlnaa
open Go.RowKit

/-- where a key stands among the entries, and its number -/
def mfind {X : Type} [DecidableEq X] (x : X) : List (X × Int) → Nat → Option (Nat × Int)
  | [], _ => none
  | p :: ps, i => if x = p.1 then some (i, p.2) else mfind x ps (i + 1)

theorem mfind_none {X : Type} [DecidableEq X] {x : X} : ∀ {m : List (X × Int)} {i : Nat}, x ∉ m.map (·.1) → mfind x m i = none := by
  intro m
  induction m with
  | nil => intro i _; rfl
  | cons p ps ih =>
    intro i h
    simp only [List.map_cons, List.mem_cons, not_or] at h
    rw [mfind, if_neg h.1, ih h.2]

theorem mfind_some {X : Type} [DecidableEq X] {x : X} {n : Int} : ∀ {m : List (X × Int)} (i : Nat), (x, n) ∈ m → (m.map (·.1)).Nodup → ∃ j, mfind x m i = some (i + j, n) ∧ j < m.length ∧ m.eraseIdx j = m.eraseP (fun p => decide (x = p.1)) := by
  intro m
  induction m with
  | nil => intro i h; simp at h
  | cons p ps ih =>
    intro i h hn
    simp only [List.map_cons, List.nodup_cons] at hn
    rcases List.mem_cons.1 h with e | h
    · subst e
      exact ⟨0, by simp [mfind], by simp, by simp⟩
    · have hne : x ≠ p.1 := fun e => hn.1 (by rw [← e]; exact List.mem_map.2 ⟨_, h, rfl⟩)
      obtain ⟨j, h1, h2, h3⟩ := ih (i + 1) h hn.2
      refine ⟨j + 1, by rw [mfind, if_neg hne, h1]; congr 2; omega, by simp; omega, ?_⟩
      simp [hne, h3]

/-- a type of keys, told apart by what they stand for -/
structure KTy (kt : TypeId) {X : Type} [DecidableEq X] (ek : X → Value) : Prop where
  chk : ∀ (e : Bool) (x : X) (W : World), (Instr.checkKey e 10000 kt (ek x)).run Try.prog W = .ok () W
  find : ∀ (x : X) (es : List MapEntry) (m : List (X × Int)), es.map (fun e => (e.key, e.val)) = m.map (fun p => (ek p.1, Value.int .i64 p.2)) →
    ∀ W, (Instr.findKey kt (ek x) es).run Try.prog W = .ok ((mfind x m 0).map fun q => (q.1, Value.int .i64 q.2)) W
  stay : ∀ (x : X) (W : World), (Instr.keyThatStays (ek x) (ek x)).run Try.prog W = .ok (ek x) W

theorem KTy.int {kt : TypeId} (hk : Try.prog.underlying kt = some (.int .i64)) : KTy kt (Value.int .i64) where
  chk := fun e x W => MapKept.run_checkKey hk (by simp [MapKept.IsKey]) e 9999
  find := fun x es m h W => by
    refine MapKept.run_findKey hk ?_
    have : ∀ (es : List MapEntry) (m : List (Int × Int)) (i : Nat), es.map (fun e => (e.key, e.val)) = m.map (fun p => (Value.int .i64 p.1, Value.int .i64 p.2)) →
        Instr.findNow (.int .i64) (.int .i64 x) es i = some ((mfind x m i).map fun q => (q.1, Value.int .i64 q.2)) := by
      intro es
      induction es with
      | nil => intro m i h; cases m with
        | nil => rfl
        | cons p ps => simp at h
      | cons e es ih =>
        intro m i h
        cases m with
        | nil => simp at h
        | cons p ps =>
          simp only [List.map_cons, List.cons.injEq, Prod.mk.injEq] at h
          obtain ⟨⟨h1, h2⟩, h3⟩ := h
          rw [Instr.findNow, h1]
          by_cases he : x = p.1
          · subst he; simp [Instr.sameNow, mfind, h2]
          · have : (x == p.1) = false := by simp [he]
            simp only [Instr.sameNow, if_true, this, mfind, if_neg he]
            exact ih ps (i + 1) h3
    exact this es m 0 h
  stay := fun x W => MapKept.run_keyThatStays (d := .int .i64) (by simp [MapKept.IsKey])

/-- a map's block: its entries, in the order in which they came -/
def MapAt {X : Type} (ek : X → Value) (w : World) (b : Nat) (m : List (X × Int)) : Prop :=
  ∃ es clock, w.heap[b]? = some (.map es clock) ∧ es.toList.map (fun e => (e.key, e.val)) = m.map (fun p => (ek p.1, Value.int .i64 p.2))

theorem MapAt.keep {X : Type} {ek : X → Value} {w w' : World} {b : Nat} {m : List (X × Int)} (h : MapAt ek w b m) (hk : w'.heap[b]? = w.heap[b]?) : MapAt ek w' b m := by
  obtain ⟨es, clock, h1, h2⟩ := h
  exact ⟨es, clock, hk.trans h1, h2⟩
theorem MapAt.made {X : Type} (ek : X → Value) (w : World) : MapAt ek (w.alloc (.map #[] 0)) w.heap.size [] := ⟨#[], 0, heap_alloc_new w _, rfl⟩
theorem run_mm (t : TypeId) (W : World) : Sem.run Try.prog (Instr.makeMap t none) W = .ok (.map (some W.heap.size)) (W.alloc (.map #[] 0)) := by simp [Instr.makeMap, Result.andThen]
theorem MapAt.lt {X : Type} {ek : X → Value} {w : World} {b : Nat} {m : List (X × Int)} (h : MapAt ek w b m) : b < w.heap.size := by
  obtain ⟨es, clock, h1, h2⟩ := h
  exact (Array.getElem?_eq_some_iff.1 h1).1
theorem MapAt.ne {X : Type} {ek : X → Value} {w : World} {b g : Nat} {m : List (X × Int)} {cs : Array Value} {E : TypeId} {fr : Nat × Nat} (h : MapAt ek w b m) (hg : w.heap[g]? = some (.cells cs E fr)) : g ≠ b := by
  obtain ⟨es, clock, h1, h2⟩ := h
  intro e
  subst e
  rw [h1] at hg
  cases hg

section
variable {X : Type} [DecidableEq X] {ek : X → Value} {kt tM e : TypeId} {w : World} {b : Nat} {m : List (X × Int)}

theorem MapAt.look_out (h : MapAt ek w b m) (hK : KTy kt ek) (ht : Try.prog.underlying tM = some (.map kt e)) (hz : (zeroValue e).run Try.prog w = .ok (.int .i64 0) w) {x : X} (hx : x ∉ m.map (·.1)) :
    (Instr.lookup tM (.map (some b)) (ek x) true).run Try.prog w = .ok (.tuple #[.int .i64 0, .bool false]) w := by
  obtain ⟨es, clock, hb, he⟩ := h
  have hf := hK.find x es.toList m he w
  rw [mfind_none hx] at hf
  simp [Instr.lookup, MapKept.run_getObj_map hb, hK.chk, hf, hz, Result.andThen, run_underlying ht]

theorem MapAt.look_in (h : MapAt ek w b m) (hK : KTy kt ek) (ht : Try.prog.underlying tM = some (.map kt e)) {x : X} {n : Int} (hx : (x, n) ∈ m) (hn : (m.map (·.1)).Nodup) :
    (Instr.lookup tM (.map (some b)) (ek x) true).run Try.prog w = .ok (.tuple #[.int .i64 n, .bool true]) w := by
  obtain ⟨es, clock, hb, he⟩ := h
  have hf := hK.find x es.toList m he w
  obtain ⟨j, h1, _⟩ := mfind_some 0 hx hn
  rw [h1] at hf
  simp [Instr.lookup, MapKept.run_getObj_map hb, hK.chk, hf, Result.andThen, run_underlying ht]

theorem MapAt.put (h : MapAt ek w b m) (hK : KTy kt ek) (ht : Try.prog.underlying tM = some (.map kt e)) {x : X} (n : Int) (hx : x ∉ m.map (·.1)) :
    ∃ w1, (Instr.mapUpdate tM (.map (some b)) (ek x) (.int .i64 n)).run Try.prog w = .ok () w1 ∧ MapAt ek w1 b (m ++ [(x, n)]) ∧ Mod (· = b) w w1 ∧ w1.heap.size = w.heap.size := by
  obtain ⟨es, clock, hb, he⟩ := h
  have hf := hK.find x es.toList m he w
  rw [mfind_none hx] at hf
  refine ⟨{ w with heap := w.heap.setIfInBounds b (.map (es.push { key := ek x, val := .int .i64 n, born := clock }) (clock + 1)) }, by simp [Instr.mapUpdate, MapKept.run_getObj_map hb, hK.chk, hf, Result.andThen, run_underlying ht, MapKept.run_setObj_map _ hb], ⟨_, _, (MapKept.heap_set hb).1, ?_⟩, ⟨rfl, rfl, rfl, by simp, fun i _ hi => (MapKept.heap_set hb).2 i hi⟩, by simp⟩
  simp [he]

theorem MapAt.del (h : MapAt ek w b m) (hK : KTy kt ek) (ht : Try.prog.underlying tM = some (.map kt e)) {x : X} {n : Int} (hx : (x, n) ∈ m) (hn : (m.map (·.1)).Nodup) (ty : TypeId) :
    ∃ w1, (Builtin.delete_ #[tM, kt] ty #[.map (some b), ek x]).run Try.prog w = .ok (.tuple #[]) w1 ∧ MapAt ek w1 b (m.eraseP (fun p => decide (x = p.1))) ∧ Mod (· = b) w w1 ∧ w1.heap.size = w.heap.size := by
  obtain ⟨es, clock, hb, he⟩ := h
  have hf := hK.find x es.toList m he w
  obtain ⟨j, h1, h2, h3⟩ := mfind_some 0 hx hn
  rw [h1] at hf
  simp only [Option.map_some, Nat.zero_add] at hf
  refine ⟨{ w with heap := w.heap.setIfInBounds b (.map (es.eraseIdxIfInBounds j) clock) }, by simp [Builtin.delete_, MapKept.run_getObj_map hb, hK.chk, hf, Result.andThen, run_underlying ht, MapKept.run_setObj_map _ hb], ⟨_, _, (MapKept.heap_set hb).1, ?_⟩, ⟨rfl, rfl, rfl, by simp, fun i _ hi => (MapKept.heap_set hb).2 i hi⟩, by simp⟩
  rw [← h3]
  simp only [Array.toList_eraseIdxIfInBounds, List.eraseIdx_eq_take_drop_succ, List.map_append, List.map_take, List.map_drop, he]

omit [DecidableEq X] in
theorem MapAt.len (h : MapAt ek w b m) (ht : Try.prog.underlying tM = some (.map kt e)) (ty : TypeId) : (Builtin.len_ #[tM] ty #[.map (some b)]).run Try.prog w = .ok (.int .i64 m.length) w := by
  obtain ⟨es, clock, hb, he⟩ := h
  have hl : es.size = m.length := by have := congrArg List.length he; simpa using this
  simp [Builtin.len_, run_underlying ht, MapKept.run_getObj_map hb, goInt, Result.andThen, hl]
end

end Go.Proofs.Ytecbheeffmhlnaa
