/- A region that draws its order, its remaining operations going in threads that do not touch one another: each operation is shown once, whatever order is drawn. -/
import Derived.Test.YtecbheeffmhlnaaBase
import Derived.Test.YtecbheeffmhlnaaHeld
namespace Go.Proofs.Ytecbheeffmhlnaa
open Go Go.RowKit

/-- one slot turned -/
def upd (f : Nat → Value) (t : Nat) (v : Value) : Nat → Value := fun s => if s = t then v else f s

/-- does operation j wait for operation i? -/
def waits (md : Region.Mode) (ops : Array Oper) (j i : Nat) : Bool := ((ops[j]?).map fun o => o.after.any fun e => Region.binds md e && (e.on == i)).getD false

/-- .. or for one that waits for it -/
def waits2 (md : Region.Mode) (ops : Array Oper) (U : List Nat) (j i : Nat) : Bool := waits md ops j i || U.any (fun k => waits md ops j k && waits md ops k i)

/-- what threads are: U: the operations that are left, K0: listed ones whose facts count, th: the thread of each, dst: its slot, sl: the slots of its fact, us: whose facts it uses -/
structure Plan where
  U : List Nat
  K0 : List Nat
  th : Nat → Nat
  dst : Nat → Nat
  sl : Nat → List Nat
  us : Nat → List Nat

/-- a frame whose slots D are turned to vals -/
def mkD (a : Act) (D : List Nat) (vals : Nat → Value) : Act := D.foldl (fun a t => a.put (some t) (vals t)) a
theorem put_self (a : Act) (t : Nat) : a.put (some t) (a.tmps.getD t undef) = a := by
  obtain ⟨tmps, d⟩ := a
  simp only [Act.put]
  congr 1
  apply Array.ext
  · simp
  · intro i h1 h2
    rw [Array.getElem_setIfInBounds]
    split
    · rename_i h; subst h; simp [h2]
    · rfl
theorem put_put (a : Act) (t : Nat) (u v : Value) : (a.put (some t) u).put (some t) v = a.put (some t) v := by
  obtain ⟨tmps, d⟩ := a
  simp [Act.put]
theorem mkD_self (a : Act) (D : List Nat) : mkD a D (fun t => a.tmps.getD t undef) = a := by
  suffices h : ∀ (D : List Nat), D.foldl (fun b t => b.put (some t) (a.tmps.getD t undef)) a = a from h D
  intro D
  induction D with
  | nil => rfl
  | cons t D ih => rw [List.foldl_cons, put_self, ih]
theorem mkD_put (D : List Nat) (vals : Nat → Value) {t : Nat} (v : Value) (h : t ∉ D) : ∀ a, (mkD a D vals).put (some t) v = mkD (a.put (some t) v) D vals := by
  induction D with
  | nil => intro a; rfl
  | cons s D ih =>
    intro a
    simp only [List.mem_cons, not_or] at h
    show (mkD (a.put (some s) (vals s)) D vals).put (some t) v = mkD ((a.put (some t) v).put (some s) (vals s)) D vals
    rw [ih h.2, Act.put_comm _ _ _ (by simpa using fun e => h.1 e)]
theorem mkD_congr {f g : Nat → Value} : ∀ (D : List Nat) (a : Act), (∀ t ∈ D, f t = g t) → mkD a D f = mkD a D g := by
  intro D
  induction D with
  | nil => intro a _; rfl
  | cons s D ih =>
    intro a h
    show mkD (a.put (some s) (f s)) D f = mkD (a.put (some s) (g s)) D g
    rw [h s (by simp), ih _ fun t ht => h t (by simp [ht])]
theorem mkD_upd {vals : Nat → Value} {t : Nat} {v : Value} : ∀ (D : List Nat) (a : Act), D.Nodup → t ∈ D → (mkD a D vals).put (some t) v = mkD a D (upd vals t v) := by
  intro D
  induction D with
  | nil => intro a _ h; simp at h
  | cons s D ih =>
    intro a hn h
    rw [List.nodup_cons] at hn
    show (mkD (a.put (some s) (vals s)) D vals).put (some t) v = mkD (a.put (some s) (upd vals t v s)) D (upd vals t v)
    by_cases hs : s = t
    · subst hs
      rw [mkD_put D vals v hn.1, put_put]
      have e : upd vals s v s = v := if_pos rfl
      rw [e]
      exact mkD_congr D _ fun r ht => (if_neg (show ¬ r = s from fun e => hn.1 (by rw [← e]; exact ht))).symm
    · rw [ih _ hn.2 ((List.mem_cons.1 h).resolve_left (fun e => hs e.symm))]
      have e : upd vals t v s = vals s := if_neg hs
      rw [e]

theorem mkD_other {vals : Nat → Value} {t : Nat} : ∀ (D : List Nat) (a : Act), t ∉ D → (mkD a D vals).eval (.tmp t) = a.tmps.getD t undef := by
  intro D
  induction D with
  | nil => intro a _; rfl
  | cons s D ih =>
    intro a h
    simp only [List.mem_cons, not_or] at h
    show (mkD (a.put (some s) (vals s)) D vals).eval (.tmp t) = _
    rw [ih _ h.2]
    simp only [Act.put]
    rw [Array.getD_eq_getD_getElem?, Array.getElem?_setIfInBounds_ne (fun e => h.1 e.symm), Array.getD_eq_getD_getElem?]
theorem mkD_slot {vals : Nat → Value} {t : Nat} : ∀ (D : List Nat) (a : Act), D.Nodup → t ∈ D → t < a.tmps.size → (mkD a D vals).eval (.tmp t) = vals t := by
  intro D
  induction D with
  | nil => intro a _ h; simp at h
  | cons s D ih =>
    intro a hn h hs
    rw [List.nodup_cons] at hn
    show (mkD (a.put (some s) (vals s)) D vals).eval (.tmp t) = _
    by_cases hst : s = t
    · subst hst
      rw [mkD_other _ _ hn.1]
      simp [Act.put, hs]
    · exact ih _ hn.2 ((List.mem_cons.1 h).resolve_left (fun e => hst e.symm)) (by simpa [Act.put] using hs)

def Plan.ok (p : Plan) (md : Region.Mode) (ops : Array Oper) (L0 L1 : Array Bool) : Bool :=
  p.U.all (fun i => !(L0.getD i true) && !(p.K0.contains i) && ((ops[i]?).map fun o => o.after.all fun e => !Region.binds md e || L0.getD e.on false || (p.U.contains e.on && decide (e.on < i))).getD false
    && p.U.all (fun j => !(p.th j == p.th i) || decide (j ≤ i) || waits2 md ops p.U j i)
    && (p.us i).all (fun k => ((p.U.contains k && waits md ops i k) || p.K0.contains k) && p.U.all (fun j => !(p.th j == p.th k) || decide (j ≤ k) || (j == i) || waits2 md ops p.U j i))
    && p.U.all (fun k => (k == i) || !((p.sl k).contains (p.dst i)) || waits2 md ops p.U k i) && p.K0.all (fun k => !((p.sl k).contains (p.dst i)) && (!(p.th k == p.th i) || decide (k < i))))
  && (List.range ops.size).all (fun j => L0.getD j true || p.U.contains j || p.U.all (fun i => waits md ops j i || p.U.any (fun k => waits md ops j k && waits md ops k i)))
  && (List.range L0.size).all (fun k => L1.getD k true == (L0.getD k true || p.U.contains k)) && (L1.size == L0.size) && decide (p.U.Nodup) && decide ((p.U.map p.dst).Nodup)

theorem waits_listed {md : Region.Mode} {ops : Array Oper} {j i : Nat} {o : Oper} {L : Array Bool} (h : waits md ops j i = true) (ho : ops[j]? = some o) (ha : ∀ e ∈ o.after, Region.binds md e = true → L.getD e.on false = true) : L.getD i false = true := by
  unfold waits at h
  simp only [ho, Option.map_some, Option.getD_some, Array.any_eq_true', Bool.and_eq_true, beq_iff_eq] at h
  obtain ⟨e, he, hb, rfl⟩ := h
  exact ha e he hb

theorem least {p : Nat → Prop} (h : ∃ i, p i) : ∃ i, p i ∧ ∀ j, j < i → ¬ p j := by
  obtain ⟨i, hi⟩ := h
  induction i using Nat.strongRecOn with
  | _ i ih =>
    by_cases hj : ∃ j, j < i ∧ p j
    · obtain ⟨j, h1, h2⟩ := hj; exact ih j h1 h2
    · exact ⟨i, hi, fun j h1 h2 => hj ⟨j, h1, h2⟩⟩

theorem wpOp_of {P : Program} {ops : Array Oper} {Q : Exit → Act → World → Prop} {i : Nat} {o : Oper} {K : Act → World → Prop} {a : Act} {w : World} (hi : ops[i]? = some o) (hg : o.guard = none) (h : o.wp P a w K Q) : wpOp P ops Q i K a w := by
  unfold wpOp
  simp only [hi, Region.wanted, hg, if_true]
  exact .inl h

/-- 'T{}': an empty row -/
theorem wp_lit0 {T E k : Nat} (hE : ETy T E k) {o : Oper} {a : Act} {w : World} {K : Act → World → Prop} {Q : Exit → Act → World → Prop} (ho : o.op = .buildSlice T 0 #[])
    (h : K (a.put o.dst (.slice (some ⟨w.heap.size, 0, none⟩) 0 0)) (w.alloc (.cells #[] E))) : o.wp Try.prog a w K Q := by
  obtain ⟨ht, ⟨i, z, hi, hz, hsz, hby, hzs⟩, hk⟩ := hE
  have hr : (Instr.buildSlice T 0 #[]).run Try.prog w = .ok (.slice (some ⟨w.heap.size, 0, none⟩) 0 0) (w.alloc (.cells #[] E)) := by
    have e : Array.range 0 = #[] := rfl
    simp [Instr.buildSlice, run_underlying ht, sizeOf, typeInfo, hi, newRow, Instr.fill, e]
  unfold Oper.wp execOp
  simp only [ho, Sem.run_bind, List.map_toArray, List.map_nil, hr, Result.andThen_ok]
  exact h

/-- 'T{x}' of one cell -/
theorem wp_lit1 {T E : Nat} (hE : ETy T E 1) {o : Oper} {a : Act} {w : World} {K : Act → World → Prop} {Q : Exit → Act → World → Prop} (x : Operand) {v : Value} (ho : o.op = .buildSlice T 1 #[(0, x)]) (hv : a.eval x = v) (h1 : v.cells = #[v])
    (h : K (a.put o.dst (.slice (some ⟨w.heap.size, 0, none⟩) 1 1)) (w.alloc (.cells #[v] E))) : o.wp Try.prog a w K Q := by
  obtain ⟨ht, ⟨i, z, hi, hz, hsz, hby, hzs⟩, hk⟩ := hE
  have hr : (Instr.buildSlice T 1 #[(0, v)]).run Try.prog w = .ok (.slice (some ⟨w.heap.size, 0, none⟩) 1 1) (w.alloc (.cells #[v] E)) := by
    have e : Array.range 1 = #[0] := rfl
    simp [Instr.buildSlice, run_underlying ht, sizeOf, typeInfo, zeroValue, hi, hz, hsz, newRow, Instr.fill, h1, e]
  unfold Oper.wp execOp
  simp only [ho, Sem.run_bind, List.map_toArray, List.map_cons, List.map_nil, hv, hr, Result.andThen_ok]
  exact h

/-- what is known behind an operation of a thread: of the values of some slots, and of the blocks of its colour -/
structure Fact where
  holds : List Value → (Nat → Prop) → World → Prop
  keep : ∀ vs A w w', holds vs A w → (∀ b, b < w.heap.size → A b → w'.heap[b]? = w.heap[b]?) → holds vs A w'
  mono : ∀ vs A B w, holds vs A w → (∀ b, b < w.heap.size → A b → B b) → holds vs B w
/-- a row of its own -/
def Fact.row (E k n : Nat) (xs : List Value) : Fact where
  holds := fun vs A w => Own w E k (vs.headD undef) n xs ∧ OB (vs.headD undef) A
  keep := fun _ _ _ _ h hb => ⟨h.1.keep fun g hg => hb g (h.1.lt g hg) (h.2 g hg), h.2⟩
  mono := fun _ _ _ _ h hb => ⟨h.1, fun g hg => hb g (h.1.lt g hg) (h.2 g hg)⟩
/-- .. whose value is known -/
def Fact.rowAt (E k n : Nat) (xs : List Value) (v : Value) : Fact where
  holds := fun vs A w => vs.headD undef = v ∧ Own w E k v n xs ∧ OB v A
  keep := fun _ _ _ _ h hb => ⟨h.1, h.2.1.keep fun g hg => hb g (h.2.1.lt g hg) (h.2.2 g hg), h.2.2⟩
  mono := fun _ _ _ _ h hb => ⟨h.1, h.2.1, fun g hg => hb g (h.2.1.lt g hg) (h.2.2 g hg)⟩
theorem Fact.rowAt_row {E k n s : Nat} {xs : List Value} {v : Value} {vals : Nat → Value} {A : Nat → Prop} {w : World} (h : (Fact.rowAt E k n xs v).holds ([s].map vals) A w) : (Fact.row E k n xs).holds ([s].map vals) A w ∧ vals s = v := by
  obtain ⟨h1, h2, h3⟩ := h
  have e : ([s].map vals).headD undef = vals s := rfl
  rw [e] at h1
  refine ⟨⟨?_, ?_⟩, h1⟩
  · rw [e, h1]; exact h2
  · rw [e, h1]; exact h3
/-- a literal in a block of its own -/
def Fact.lit (E n : Nat) (cs : Array Value) : Fact where
  holds := fun vs A w => ∃ g, vs.headD undef = .slice (some ⟨g, 0, none⟩) n n ∧ A g ∧ w.heap[g]? = some (.cells cs E (0, 0))
  keep := fun _ _ _ _ ⟨g, h1, h2, h3⟩ hb => ⟨g, h1, h2, (hb g (Array.getElem?_eq_some_iff.1 h3).1 h2).trans h3⟩
  mono := fun _ _ _ _ ⟨g, h1, h2, h3⟩ hb => ⟨g, h1, hb g (Array.getElem?_eq_some_iff.1 h3).1 h2, h3⟩
/-- a variable of its own -/
def Fact.var (E : Nat) (cs : Array Value) : Fact where
  holds := fun vs A w => ∃ g, vs.headD undef = .pointer (some ⟨g, 0, none⟩) ∧ A g ∧ w.heap[g]? = some (.cells cs E (0, 0))
  keep := fun _ _ _ _ ⟨g, h1, h2, h3⟩ hb => ⟨g, h1, h2, (hb g (Array.getElem?_eq_some_iff.1 h3).1 h2).trans h3⟩
  mono := fun _ _ _ _ ⟨g, h1, h2, h3⟩ hb => ⟨g, h1, hb g (Array.getElem?_eq_some_iff.1 h3).1 h2, h3⟩
/-- of values alone -/
def Fact.vals (p : List Value → Prop) : Fact where
  holds := fun vs _ _ => p vs
  keep := fun _ _ _ _ h _ => h
  mono := fun _ _ _ _ h _ => h

section
variable {P : Program} {ops : Array Oper} {Q : Exit → Act → World → Prop} {md : Region.Mode} {S : World → Prop} {T : List Nat}

/-- is the fact of operation k in force? -/
def Plan.live (p : Plan) (L : Array Bool) (k : Nat) : Prop := (k ∈ p.K0 ∨ k ∈ p.U ∧ L.getD k true = true) ∧ ∀ j ∈ p.U, L.getD j true = true → p.th j = p.th k → j ≤ k

theorem wpAnyG_threads (p : Plan) (F : Nat → Fact) (L0 L1 : Array Bool) (hok : p.ok md ops L0 L1 = true) {w0 : World} {C0 : Nat → Nat} {a : Act} {fuel : Nat}
    (hS : ∀ w', Mod (fun b => C0 b ≠ 0) w0 w' → S w') (hth : ∀ i ∈ p.U, p.th i ≠ 0)
    (h0 : ∀ k ∈ p.K0, (F k).holds ((p.sl k).map fun t => a.tmps.getD t undef) (fun b => C0 b = p.th k) w0)
    (hstep : ∀ i ∈ p.U, ∀ (vals : Nat → Value) (C : Nat → Nat) (w : World), Mod (fun b => C0 b ≠ 0) w0 w → (∀ k ∈ p.us i, (F k).holds ((p.sl k).map vals) (fun b => C b = p.th k) w) →
      wpOp P ops Q i (fun a' w' => ∃ v, a' = (mkD a (p.U.map p.dst) vals).put (some (p.dst i)) v ∧ Mod (fun b => C b = p.th i) w w' ∧ (F i).holds ((p.sl i).map (upd vals (p.dst i) v)) (fun b => tint C w.heap.size (p.th i) b = p.th i) w') (mkD a (p.U.map p.dst) vals) w)
    (hend : ∀ (vals : Nat → Value) (C : Nat → Nat) (w : World), Mod (fun b => C0 b ≠ 0) w0 w → (∀ b, b < w0.heap.size → C b = C0 b) → (∀ k, (k ∈ p.K0 ∨ k ∈ p.U) → (∀ j ∈ p.U, p.th j = p.th k → j ≤ k) → (F k).holds ((p.sl k).map vals) (fun b => C b = p.th k) w) → wpAnyG P md ops Q S T fuel L1 (mkD a (p.U.map p.dst) vals) w) :
    wpAnyG P md ops Q S T (p.U.length + fuel) L0 a w0 := by
  simp only [Plan.ok, Bool.and_eq_true, List.all_eq_true, beq_iff_eq, decide_eq_true_eq] at hok
  obtain ⟨⟨⟨⟨⟨hU, hout⟩, hL1⟩, hsz⟩, hnd⟩, hdn⟩ := hok
  have main : ∀ n (L : Array Bool) (vals : Nat → Value) (C : Nat → Nat) (w : World), (p.U.filter fun i => !(L.getD i true)).length = n → L.size = L0.size → (∀ k, k ∉ p.U → L.getD k true = L0.getD k true) → (∀ k, k ∉ p.U → L.getD k false = L0.getD k false) →
      (∀ j ∈ p.U, L.getD j true = true → ∀ i ∈ p.U, waits md ops j i = true → L.getD i true = true) →
      Mod (fun b => C0 b ≠ 0) w0 w → (∀ b, b < w0.heap.size → C b = C0 b) → (∀ k, p.live L k → (F k).holds ((p.sl k).map vals) (fun b => C b = p.th k) w) → wpAnyG P md ops Q S T (n + fuel) L (mkD a (p.U.map p.dst) vals) w := by
    intro n
    induction n with
    | zero =>
      intro L vals C w hn hs hk hk' hd hm hC hF
      have hall : ∀ i ∈ p.U, L.getD i true = true := fun i hi => by
        have := List.length_eq_zero_iff.1 hn
        rw [List.filter_eq_nil_iff] at this
        simpa using this i hi
      have hLL : L = L1 := by
        apply Array.ext
        · rw [hs, hsz]
        · intro k h1 h2
          have h3 := hL1 k (by rw [List.mem_range]; omega)
          have e1 : L.getD k true = L[k] := by simp [h1]
          have e2 : L1.getD k true = L1[k] := by simp [h2]
          rw [← e1, ← e2, h3]
          by_cases hU' : k ∈ p.U
          · rw [hall k hU']; simp [hU']
          · rw [hk k hU']; simp [hU']
      subst hLL
      rw [Nat.zero_add]
      refine hend vals C w hm hC fun k hk hj => hF k ⟨hk.imp id fun h => ⟨h, hall k h⟩, fun j h1 _ h3 => hj j h1 h3⟩
    | succ n ih =>
      intro L vals C w hn hs hk hk' hd hm hC hF
      have hex : ∃ i, i ∈ p.U ∧ L.getD i true = false := by
        have : 0 < (p.U.filter fun i => !(L.getD i true)).length := by omega
        obtain ⟨i, hi⟩ := List.exists_mem_of_length_pos this
        rw [List.mem_filter] at hi
        exact ⟨i, hi.1, by simpa using hi.2⟩
      have hlt : ∀ i, i ∈ p.U → i < L.size := fun i hi => by
        have h1 := (hU i hi).1.1.1.1.1.1
        rw [hs]
        rcases Nat.lt_or_ge i L0.size with h | h
        · exact h
        · simp [Array.getElem?_eq_none h] at h1
      have hUL : ∀ i, i ∈ p.U → L.getD i true = L.getD i false := fun i hi => by simp [hlt i hi]
      rw [show n + 1 + fuel = (n + fuel) + 1 by omega]
      refine ⟨fun hr => ?_, fun i hi => ?_⟩
      · exfalso
        obtain ⟨i, ⟨hi, hiL⟩, hmin⟩ := least hex
        have h1 := (hU i hi).1.1.1.1.2
        cases ho : ops[i]? with
        | none => rw [ho] at h1; cases h1
        | some o =>
          rw [ho] at h1
          simp only [Option.map_some, Option.getD_some, Array.all_eq_true_iff_forall_mem, Bool.or_eq_true, Bool.not_eq_true', Bool.and_eq_true, List.contains_iff_mem, decide_eq_true_eq] at h1
          have : i ∈ Region.ready md ops L := mem_ready.2 ⟨hiL, o, ho, fun e he hb => by
            rcases h1 e he with (h2 | h2) | h2
            · rw [hb] at h2; cases h2
            · by_cases hu : e.on ∈ p.U
              · rw [← hUL _ hu]
                have h3 := (hU _ hu).1.1.1.1.1.1
                have : e.on < L0.size := by rw [← hs]; exact hlt _ hu
                simp [this] at h2 h3
                rw [h2] at h3; cases h3
              · rw [hk' _ hu]; exact h2
            · have h4 := hmin e.on h2.2
              rw [← hUL _ h2.1]
              cases h5 : L.getD e.on true with
              | true => rfl
              | false => exact absurd ⟨h2.1, h5⟩ h4⟩
          rw [hr] at this; cases this
      · obtain ⟨hiL, o, ho, hall⟩ := mem_ready.1 hi
        have hiU : i ∈ p.U := by
          by_cases hu : i ∈ p.U
          · exact hu
          · exfalso
            have h1 := hk i hu
            rw [hiL] at h1
            have h2 := hout i (by rw [List.mem_range]; exact (Array.getElem?_eq_some_iff.1 ho).1)
            rw [← h1] at h2
            obtain ⟨j, hj, hjL⟩ := hex
            simp only [Bool.false_or, Bool.or_eq_true, List.contains_iff_mem, hu, false_or, List.all_eq_true] at h2
            have h3 : L.getD j true = true := by
              rcases h2 j hj with h3 | h3
              · rw [hUL j hj]; exact waits_listed h3 ho hall
              · simp only [List.any_eq_true, Bool.and_eq_true] at h3
                obtain ⟨k, hkU, h4, h5⟩ := h3
                exact hd k hkU (by rw [hUL k hkU]; exact waits_listed h4 ho hall) j hj h5
            rw [hjL] at h3
            cases h3
        obtain ⟨⟨⟨⟨⟨⟨_, _⟩, _⟩, hthr⟩, hus⟩, hsl⟩, hslK⟩ := hU i hiU
        have hno : ∀ j, j ∈ p.U → L.getD j true = true → waits2 md ops p.U j i = true → False := fun j hj hjl hw => by
          have : L.getD i true = true := by
            unfold waits2 at hw
            rw [Bool.or_eq_true] at hw
            rcases hw with hw | hw
            · exact hd j hj hjl i hiU hw
            · simp only [List.any_eq_true, Bool.and_eq_true] at hw
              obtain ⟨k, hkU, h4, h5⟩ := hw
              exact hd k hkU (hd j hj hjl k hkU h4) i hiU h5
          rw [hiL] at this; cases this
        refine wpOp_mono ?_ (hstep i hiU vals C w hm fun k hku => hF k ?_)
        · rintro a' w' ⟨v, rfl, hmod, hFi⟩
          rw [mkD_upd _ _ hdn (List.mem_map.2 ⟨i, hiU, rfl⟩)]
          have hm' : Mod (fun b => C0 b ≠ 0) w0 w' := hm.then hmod fun b hb hc => by
            rw [← hC b hb, hc]; exact hth i hiU
          refine ⟨fun _ _ => hS w' hm', ih (L.setIfInBounds i true) (upd vals (p.dst i) v) (tint C w.heap.size (p.th i)) w' ?_ (by rw [Array.size_setIfInBounds]; exact hs) ?_ ?_ ?_ hm' ?_ ?_⟩
          · have e : (p.U.filter fun j => !((L.setIfInBounds i true).getD j true)) = (p.U.filter fun j => !(L.getD j true)).erase i := by
              have hnf : (p.U.filter fun j => !(L.getD j true)).Nodup := hnd.sublist List.filter_sublist
              rw [List.Nodup.erase_eq_filter hnf, List.filter_filter]
              apply List.filter_congr
              intro j hj
              by_cases hji : j = i
              · subst hji; simp [hlt j hj]
              · rw [getD_set_ne true (Ne.symm hji)]; simp [hji]
            rw [e, List.length_erase_of_mem (List.mem_filter.2 ⟨hiU, by simp only [hiL]; rfl⟩), hn]; rfl
          · intro k hkU
            have : i ≠ k := fun e => hkU (by rw [← e]; exact hiU)
            rw [getD_set_ne true this]; exact hk k hkU
          · intro k hkU
            have : i ≠ k := fun e => hkU (by rw [← e]; exact hiU)
            rw [← hk' k hkU]
            simp [this]
          · intro j hj hjl i' hi' hw
            by_cases hii : i' = i
            · subst hii; simp [hlt i' hi']
            · rw [getD_set_ne true (Ne.symm hii)]
              by_cases hji : j = i
              · subst hji
                rw [hUL i' hi']
                exact waits_listed hw ho hall
              · rw [getD_set_ne true (Ne.symm hji)] at hjl
                exact hd j hj hjl i' hi' hw
          · intro b hb
            rw [tint_old (Nat.lt_of_lt_of_le hb hm.size)]; exact hC b hb
          · intro k hkl
            obtain ⟨hk1, hk2⟩ := hkl
            by_cases hki : k = i
            · subst hki; exact hFi
            · have hkL : k ∈ p.K0 ∨ k ∈ p.U ∧ L.getD k true = true := hk1.imp id fun h => ⟨h.1, by have := h.2; rwa [getD_set_ne true (Ne.symm hki)] at this⟩
              have hlive : p.live L k := ⟨hkL, fun j hj hjl ht => hk2 j hj (by
                by_cases hji : j = i
                · subst hji; simp [hlt j hj]
                · rw [getD_set_ne true (Ne.symm hji)]; exact hjl) ht⟩
              have hne : p.th k ≠ p.th i := fun e => by
                have hle := hk2 i hiU (by simp [hlt i hiU]) e.symm
                rcases hkL with h | h
                · have h1 := (hslK k h).2
                  simp only [Bool.or_eq_true, Bool.not_eq_true', beq_eq_false_iff_ne, decide_eq_true_eq] at h1
                  rcases h1 with h1 | h1
                  · exact h1 e
                  · omega
                · have h1 := hthr k h.1
                  simp only [Bool.or_eq_true, Bool.not_eq_true', beq_eq_false_iff_ne, decide_eq_true_eq] at h1
                  rcases h1 with (h1 | h1) | h1
                  · exact h1 e
                  · omega
                  · exact hno k h.1 h.2 h1
              have hds : (p.sl k).map (upd vals (p.dst i) v) = (p.sl k).map vals := by
                have hnot : (p.sl k).contains (p.dst i) = false := by
                  rcases hkL with h | h
                  · have := (hslK k h).1; simpa using this
                  · have h1 := hsl k h.1
                    simp only [Bool.or_eq_true, Bool.not_eq_true', beq_iff_eq] at h1
                    rcases h1 with (h1 | h1) | h1
                    · exact absurd h1 hki
                    · exact h1
                    · exact (hno k h.1 h.2 h1).elim
                apply List.map_congr_left
                intro t ht
                unfold upd
                rw [if_neg]
                intro e
                subst e
                have : (p.sl k).contains (p.dst i) = true := by simpa using ht
                rw [hnot] at this; cases this
              rw [hds]
              have h1 := hF k hlive
              refine (F k).keep _ _ _ _ ((F k).mono _ _ (fun b => tint C w.heap.size (p.th i) b = p.th k) _ h1 fun b hb hc => by rw [tint_old hb]; exact hc) fun b hb hc => hmod.block b hb fun e => ?_
              rw [tint_old hb] at hc
              exact hne (hc.symm.trans e)
        · have h1 := hus k hku
          obtain ⟨h2, h3⟩ := h1
          refine ⟨?_, fun j hj hjl ht => ?_⟩
          · simp only [Bool.or_eq_true, Bool.and_eq_true, List.contains_iff_mem] at h2
            rcases h2 with h2 | h2
            · exact .inr ⟨h2.1, by rw [hUL k h2.1]; exact waits_listed h2.2 ho hall⟩
            · exact .inl h2
          · have h4 := h3 j hj
            simp only [Bool.or_eq_true, Bool.not_eq_true', beq_eq_false_iff_ne, decide_eq_true_eq, beq_iff_eq] at h4
            rcases h4 with ((h4 | h4) | h4) | h4
            · exact absurd ht h4
            · exact h4
            · subst h4; rw [hiL] at hjl; cases hjl
            · exact (hno j hj hjl h4).elim
  have hun : ∀ i ∈ p.U, L0.getD i true = false := fun i hi => by have := (hU i hi).1.1.1.1.1.1; simpa using this
  rw [← mkD_self a (p.U.map p.dst)]
  refine main _ L0 _ C0 w0 ?_ rfl (fun _ _ => rfl) (fun _ _ => rfl) (fun j hj hjl => ?_) (Mod.refl _ _) (fun _ _ => rfl) fun k hk => ?_
  · congr 1
    rw [List.filter_eq_self]
    intro i hi
    rw [hun i hi]; rfl
  · rw [hun j hj] at hjl; cases hjl
  · obtain ⟨h1, _⟩ := hk
    rcases h1 with h1 | h1
    · exact h0 k h1
    · have := h1.2; rw [hun k h1.1] at this; cases this
end

section
variable {ops : Array Oper} {Q : Exit → Act → World → Prop} {C : Nat → Nat} {vals : Nat → Value} {t d i : Nat} {o : Oper} {a : Act} {w : World}

theorem upd_same (f : Nat → Value) (d : Nat) (v : Value) : ([d].map (upd f d v)).headD undef = v := by simp [upd]

theorem thr_lit1 {T E : Nat} (hE : ETy T E 1) (hi : ops[i]? = some o) (hg : o.guard = none) (hd : o.dst = some d) (x : Operand) {u : Value} (ho : o.op = .buildSlice T 1 #[(0, x)]) (hv : a.eval x = u) (h1 : u.cells = #[u]) :
    wpOp Try.prog ops Q i (fun a' w' => ∃ v, a' = a.put (some d) v ∧ Mod (fun b => C b = t) w w' ∧ (Fact.lit E 1 #[u]).holds ([d].map (upd vals d v)) (fun b => tint C w.heap.size t b = t) w') a w := by
  refine wpOp_of hi hg (wp_lit1 hE x ho hv h1 ?_)
  rw [hd]
  exact ⟨_, rfl, Mod.of_below _ ((Below.refl _ w).alloc (Nat.le_refl _) _), w.heap.size, upd_same _ _ _, tint_new (Nat.le_refl _), heap_alloc_new w _⟩

theorem thr_lit0 {T E k : Nat} (hE : ETy T E k) (hi : ops[i]? = some o) (hg : o.guard = none) (hd : o.dst = some d) (ho : o.op = .buildSlice T 0 #[]) :
    wpOp Try.prog ops Q i (fun a' w' => ∃ v, a' = a.put (some d) v ∧ Mod (fun b => C b = t) w w' ∧ (Fact.row E k 0 []).holds ([d].map (upd vals d v)) (fun b => tint C w.heap.size t b = t) w') a w := by
  refine wpOp_of hi hg (wp_lit0 hE ho ?_)
  rw [hd]
  refine ⟨_, rfl, Mod.of_below _ ((Below.refl _ w).alloc (Nat.le_refl _) _), ?_, ?_⟩
  · rw [upd_same]; exact Own.made w E k
  · rw [upd_same]; exact OB.some_iff.2 (tint_new (Nat.le_refl _))

theorem thr_app {T E k n m s : Nat} (hE : ETy T E k) (hi : ops[i]? = some o) (hg : o.guard = none) (hd : o.dst = some d) (x y : Operand) (ho : o.op = .call { callee := .builtin .append, args := #[x, y], argTypes := #[T, T] })
    {xs news : List Value} (hrow : (Fact.row E k n xs).holds ([s].map vals) (fun b => C b = t) w) (hx : a.eval x = vals s) {u : Value} (hy : a.eval y = u) (hs : Src Try.prog k T u m news w) (hnm : n + m ≤ 1073741824) :
    wpOp Try.prog ops Q i (fun a' w' => ∃ v, a' = a.put (some d) v ∧ Mod (fun b => C b = t) w w' ∧ (Fact.row E k (n + m) (xs ++ news)).holds ([d].map (upd vals d v)) (fun b => tint C w.heap.size t b = t) w') a w := by
  obtain ⟨h1, h2⟩ := hrow
  have e : ([s].map vals).headD undef = vals s := rfl
  rw [e] at h1 h2
  refine wpOp_of hi hg (wp_app hE x y ho h1 hx hs hy hnm fun A' c' w' ho hg hob => ?_)
  rw [hd]
  refine ⟨_, rfl, (Mod.of_grown hg).mono fun b _ hb => h2 b hb, ?_, ?_⟩
  · rw [upd_same]; exact ho
  · rw [upd_same]
    intro g hg'
    rcases hob g hg' with h | h
    · exact (tint_old (h1.lt g h)).trans (h2 g h)
    · exact tint_new h

/-- a literal's cells, as a source of append -/
theorem src_lit {T E k n s : Nat} (ht : Try.prog.underlying T = some (.slice E)) {cs : Array Value} {A : Nat → Prop} (h : (Fact.lit E n cs).holds ([s].map vals) A w) (hl : cs.size = n * k) (h1 : ∀ u ∈ cs.toList, u.oneCell' = true) : Src Try.prog k T (vals s) n cs.toList w := by
  obtain ⟨g, h2, _, h3⟩ := h
  have e : ([s].map vals).headD undef = vals s := rfl
  rw [e] at h2
  rw [h2]
  exact src_blk ht n h3 hl h1
end
end Go.Proofs.Ytecbheeffmhlnaa
