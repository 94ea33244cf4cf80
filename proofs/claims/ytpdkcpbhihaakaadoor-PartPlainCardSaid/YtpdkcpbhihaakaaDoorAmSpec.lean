/- What is told of a function, from its evaluation. No condition. -/
import Derived.Test.YtpdkcpbhihaakaaDoorAmFrame
namespace Go.Am

theorem specOK_of_eval {P : Program} (hP : NoNum P) {S : Specs} (hS : SpecsOK P S) {pu : FuncId → Bool} (hpu : PuresOK S pu) {m : Nat} {keep : FuncId → List Nat} {LS : FuncId → List LI}
    (hLS : LoopsOK P S pu m keep LS) (d : Nat) {f : FuncId} {s : Spec}
    (h : ∀ args h out h', (s args h).get = some (out, h') → evF P S pu m keep LS d (.fn f) args h (fun o h => some (o, h)) = some (out, h')) : SpecOK P f s := by
  intro args hp out h' hs ι w cargs hr ha
  refine (evF_sound hP hS hpu hLS d).fn f args hp _ _ (h _ _ _ _ hs) ι w cargs _ hr ha ?_
  intro o g ι' w' e hk hE hR hO
  cases hk
  exact ⟨ι', hE, hR, hO⟩

theorem semCall_of_eval {P : Program} (hP : NoNum P) {S : Specs} (hS : SpecsOK P S) {pu : FuncId → Bool} (hpu : PuresOK S pu) {m : Nat} {keep : FuncId → List Nat} {LS : FuncId → List LI}
    (hLS : LoopsOK P S pu m keep LS) (d : Nat) {f : FuncId} {args : List AV} {h : Heap} {out : Out} {h' : Heap}
    (he : evF P S pu m keep LS d (.fn f) args h (fun o h => some (o, h)) = some (out, h')) : SemCall P f args h out h' := by
  intro ι w cargs hr ha
  refine (evF_sound hP hS hpu hLS d).fn f args h _ _ he ι w cargs _ hr ha ?_
  intro o g ι' w' e hk hE hR hO
  cases hk
  exact ⟨ι', hE, hR, hO⟩

/-- An evaluation from no memory, what nothing leads to left out. -/
def packOut (x : Fin) : Fin :=
  match x with
  | some (o, g) => pack 0 [] o.vals g (fun f _ h => some (o.map f, h))
  | none => none

theorem semCall_of_packed {P : Program} (hP : NoNum P) {S : Specs} (hS : SpecsOK P S) {pu : FuncId → Bool} (hpu : PuresOK S pu) {m : Nat} {keep : FuncId → List Nat} {LS : FuncId → List LI}
    (hLS : LoopsOK P S pu m keep LS) (d : Nat) {f : FuncId} {args : List AV} {out : Out} {h' : Heap}
    (he : packOut (evF P S pu m keep LS d (.fn f) args [] (fun o h => some (o, h))) = some (out, h')) : SemCall P f args [] out h' := by
  unfold packOut at he
  split at he
  · rename_i o g hx
    exact (semCall_of_eval hP hS hpu hLS d hx).packed he
  · cases he

/-- From the evaluation of a function's body, whatever is told of the function itself. -/
theorem semCall_of_body {P : Program} (hP : NoNum P) {S : Specs} (hS : SpecsOK P S) {pu : FuncId → Bool} (hpu : PuresOK S pu) {m : Nat} {keep : FuncId → List Nat} {LS : FuncId → List LI} (hLS : LoopsOK P S pu m keep LS) (d : Nat)
    {f : FuncId} {fn : Func} {c : Code} (hf : P.funcs[f]? = some fn) (hb : fn.body = some c) {ls : List LI} (hl : LSOK P (evF P S pu m keep LS d) pu m (keep f) true c ls) {args : List AV} {h : Heap} {out : Out} {h' : Heap}
    (he : evB P (evF P S pu m keep LS d) pu m (keep f) ls fn c args h (fun o h => some (o, h)) = some (out, h')) : SemCall P f args h out h' := by
  intro ι w cargs hr ha
  refine evB_sound hP (evF_sound hP hS hpu hLS d) (evF_leaf d) (evF_pure hpu d) hf hb hl he hr ha ?_
  intro o g ι' w' e hk hE hR hO
  cases hk
  exact ⟨ι', hE, hR, hO⟩

theorem specOK_of_sem {P : Program} {f : FuncId} {s : Spec} (h : ∀ args h out h', (s args h).get = some (out, h') → SemCall P f args h out h') : SpecOK P f s :=
  fun args hp out h' hs ι w cargs hr ha => h args hp out h' hs ι w cargs hr ha

/-- A call that needs no memory and leaves none. -/
theorem SemCall.neutral {P : Program} {f : FuncId} {args : List AV} {v : AV} (hs : SemCall P f args [] (.ret v) []) (ha : AV.withinL (fun _ => False) args) (hv : ∀ σ, v.ren σ = v) (h : Heap) : SemCall P f args h (.ret v) h := by
  have := hs.anywhere ha h
  simpa [Out.ren, hv] using this

/-- What is told of a function's loops, each by itself. -/
theorem LSOK_of {P : Program} {cl : Caller} {pu : FuncId → Bool} {m : Nat} {keep : List Nat} {top : Bool} : ∀ (c : Code) (ls : List LI),
    (∀ i c' s, (loopsL c)[i]? = some c' → ls[i]? = some (.spec s) → ∀ τ h k r, (s τ h).run k = some r → loopN keep h.length (fun τ h k => evC P cl pu m keep top c' (ls.drop (i + 1)) τ h k) m τ h k = some r) →
    LSOK P cl pu m keep top c ls := by
  have hlen : ∀ c : Code, (loopsL c).length = nloops c := by
    intro c
    induction c with
    | seq a b iha ihb => simp [loopsL, nloops, iha, ihb]
    | cond c a b iha ihb => simp [loopsL, nloops, iha, ihb]
    | block id c ih => simpa [loopsL, nloops] using ih
    | scope c ih => simpa [loopsL, nloops] using ih
    | loop c ih => simp [loopsL, nloops, ih]; omega
    | _ => rfl
  intro c
  have two : ∀ (a b : Code), (∀ ls, (∀ i c' s, (loopsL a)[i]? = some c' → ls[i]? = some (.spec s) → ∀ τ h k r, (s τ h).run k = some r → loopN keep h.length (fun τ h k => evC P cl pu m keep top c' (ls.drop (i + 1)) τ h k) m τ h k = some r) → LSOK P cl pu m keep top a ls) →
      (∀ ls, (∀ i c' s, (loopsL b)[i]? = some c' → ls[i]? = some (.spec s) → ∀ τ h k r, (s τ h).run k = some r → loopN keep h.length (fun τ h k => evC P cl pu m keep top c' (ls.drop (i + 1)) τ h k) m τ h k = some r) → LSOK P cl pu m keep top b ls) →
      ∀ ls, (∀ i c' s, (loopsL a ++ loopsL b)[i]? = some c' → ls[i]? = some (.spec s) → ∀ τ h k r, (s τ h).run k = some r → loopN keep h.length (fun τ h k => evC P cl pu m keep top c' (ls.drop (i + 1)) τ h k) m τ h k = some r) →
      LSOK P cl pu m keep top a ls ∧ LSOK P cl pu m keep top b (ls.drop (nloops a)) := by
    intro a b iha ihb ls h
    refine ⟨iha ls fun i c' s hc hs => h i c' s (by rw [List.getElem?_append_left (List.getElem?_eq_some_iff.1 hc).1]; exact hc) hs, ihb _ fun i c' s hc hs => ?_⟩
    rw [List.getElem?_drop] at hs
    have := h (nloops a + i) c' s (by rw [List.getElem?_append_right (by rw [hlen]; omega), hlen, Nat.add_sub_cancel_left]; exact hc) hs
    rw [List.drop_drop]
    exact this
  induction c with
  | seq a b iha ihb => intro ls h; exact two a b iha ihb ls h
  | cond c a b iha ihb => intro ls h; exact two a b iha ihb ls h
  | block id c ih => intro ls h; exact ih ls h
  | scope c ih => intro ls h; exact ih ls h
  | loop c ih =>
    intro ls h
    refine ⟨ih _ fun i c' s hc hs => ?_, fun s hs => ?_⟩
    · rw [List.getElem?_drop] at hs
      have := h (i + 1) c' s (by simpa [loopsL] using hc) (by rw [Nat.add_comm]; exact hs)
      rw [List.drop_drop, show 1 + (i + 1) = i + 1 + 1 by omega]
      exact this
    · have hs' : ls[0]? = some (.spec s) := by rwa [List.head?_eq_getElem?] at hs
      exact h 0 c s (by simp [loopsL]) hs'
  | _ => intro ls _; trivial

/-- No loop of which something is told. -/
theorem noLS {P : Program} {S : Specs} {pu : FuncId → Bool} {m : Nat} {keep : FuncId → List Nat} : LoopsOK P S pu m keep (fun _ => []) := fun _ _ _ c _ _ _ => LSOK_nil c

theorem noSpecs {P : Program} : SpecsOK P (fun _ => none) := fun f s h => by cases h
theorem noPures {S : Specs} : PuresOK S (fun _ => false) := fun f h => by cases h

/-- A list of functions and what is told of them. -/
def specsOf : List (FuncId × Spec) → Specs
  | [], _ => none
  | (g, s) :: l, f => bif Nat.beq f g then some s else specsOf l f

theorem specsOf_ok {P : Program} : ∀ {l : List (FuncId × Spec)}, (∀ x ∈ l, SpecOK P x.1 x.2) → SpecsOK P (specsOf l) := by
  intro l
  induction l with
  | nil => intro _ f s h; cases h
  | cons x l ih =>
    obtain ⟨g, s0⟩ := x
    intro h f s hs
    simp only [specsOf] at hs
    cases hb : Nat.beq f g with
    | true =>
      rw [hb, cond_true] at hs
      have := Nat.eq_of_beq_eq_true hb
      subst this
      cases hs
      exact h (f, s0) (by simp)
    | false =>
      rw [hb, cond_false] at hs
      exact ih (fun x hx => h x (by simp [hx])) f s hs

theorem noNum_of {P : Program} (h : (P.funcs.toList.all fun fn => !(fn.name == "runtime.NumGoroutine")) = true) : NoNum P := by
  intro f fn hf
  have hm : fn ∈ P.funcs.toList := by
    have : P.funcs.toList[f]? = some fn := by simpa using hf
    exact List.mem_of_getElem? this
  have := List.all_eq_true.1 h fn hm
  simpa using this

end Go.Am
