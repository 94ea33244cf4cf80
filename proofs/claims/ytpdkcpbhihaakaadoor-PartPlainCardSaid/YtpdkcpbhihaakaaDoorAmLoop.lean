/- Loops, round by round. No condition. -/
import Derived.Test.YtpdkcpbhihaakaaDoorAmSpec
namespace Go.Am

theorem keepSome_idem (keep : List Nat) : ∀ (τ : List AV) (i : Nat), keepSome keep i (keepSome keep i τ) = keepSome keep i τ
  | [], i => rfl
  | v :: τ, i => by
    simp only [keepSome, keepSome_idem keep τ (i + 1)]
    congr 1
    split <;> rfl

theorem keepIn_idem (keep : List Nat) (τ : List AV) (i : Nat) : keepIn keep i (keepIn keep i τ) = keepIn keep i τ := by
  cases keep with
  | nil => rfl
  | cons x l => exact keepSome_idem _ τ i

theorem ble_refl' (n : Nat) : Nat.ble n n = true := Nat.ble_eq.mpr (Nat.le_refl n)

theorem pack_self (τ v : List AV) (h : Heap) (k : (AV → AV) → List AV → Heap → Fin) : pack h.length τ v h k = k id τ h := by
  unfold pack; rw [ble_refl']; rfl

def AEx.isNormal : AEx → Bool
  | .normal => true
  | _ => false

theorem AEx.map_id (ex : AEx) : ex.map id = ex := by cases ex <;> rfl

/-- What is behind a round. -/
def loopK (keep : List Nat) (base : Nat) (g : Ctl) (m : Nat) (k : AEx → List AV → Heap → Fin) : AEx → List AV → Heap → Fin := fun ex τ' h' =>
  match ex with
  | .normal => loopN keep base g m τ' h' k
  | ex => pack base (keepIn keep 0 τ') ex.vals h' fun f τ' h' => k (ex.map f) τ' h'

theorem loopN_succ (keep : List Nat) (base : Nat) (g : Ctl) (m : Nat) (τ : List AV) (h : Heap) (k : AEx → List AV → Heap → Fin) :
    loopN keep base g (m + 1) τ h k = pack base (keepIn keep 0 τ) [] h fun _ τ h => g τ h (loopK keep base g m k) := rfl

/-- What is behind a round, of kept slots alone. -/
def loopK2 (keep : List Nat) (base : Nat) (g : Ctl) (m : Nat) (k : AEx → List AV → Heap → Fin) : AEx → List AV → Heap → Fin := fun ex τ' h' =>
  match ex with
  | .normal => loopN keep base g m τ' h' k
  | ex => pack base τ' ex.vals h' fun f τ' h' => k (ex.map f) τ' h'

theorem loopK_eq (keep : List Nat) (base : Nat) (g : Ctl) (m : Nat) (k : AEx → List AV → Heap → Fin) : loopK keep base g m k = fun ex τ' h' => loopK2 keep base g m k ex (keepIn keep 0 τ') h' := by
  funext ex τ' h'
  cases ex with
  | normal =>
    show loopN keep base g m τ' h' k = loopN keep base g m (keepIn keep 0 τ') h' k
    cases m with
    | zero => rfl
    | succ m => rw [loopN_succ, loopN_succ, keepIn_idem]
  | exit id => rfl
  | ret => rfl
  | pan v => rfl

/-- A loop whose states are a family, memory along with them. -/
theorem loop_rule {α : Type} {keep : List Nat} {base : Nat} {g : Ctl} (I : α → List AV) (H : α → Heap) (μ : α → Nat) (ex : α → AEx) (F : α → List AV) (FH : α → Heap) (ok : α → Prop)
    (step : ∀ a, ok a →
      (∃ a' h', ok a' ∧ (∀ k : AEx → List AV → Heap → Fin, g (I a) (H a) (fun e τ h => k e (keepIn keep 0 τ) h) = k .normal (I a') h') ∧ (∀ k : (AV → AV) → List AV → Heap → Fin, ∃ f, pack base (I a') [] h' k = k f (I a') (H a')) ∧ μ a' < μ a ∧ ex a' = ex a ∧ F a' = F a ∧ FH a' = FH a) ∨
      (∃ (e : AEx) (τ' : List AV) (h' : Heap), e.isNormal = false ∧ (∀ k : AEx → List AV → Heap → Fin, g (I a) (H a) (fun e τ h => k e (keepIn keep 0 τ) h) = k e τ' h') ∧ (∀ k : (AV → AV) → List AV → Heap → Fin, ∃ f, pack base τ' e.vals h' k = k f (F a) (FH a) ∧ e.map f = ex a))) :
    ∀ (m : Nat) (a : α) (τ : List AV) (h : Heap) (k : AEx → List AV → Heap → Fin), ok a → μ a < m → (∀ k : (AV → AV) → List AV → Heap → Fin, ∃ f, pack base (keepIn keep 0 τ) [] h k = k f (I a) (H a)) → loopN keep base g m τ h k = k (ex a) (F a) (FH a) := by
  intro m
  induction m with
  | zero => intro a τ h k _ hm; omega
  | succ m ih =>
    intro a τ h k hok hm hp
    rw [loopN_succ]
    obtain ⟨f, hp⟩ := hp (fun _ τ h => g τ h (loopK keep base g m k))
    rw [hp, loopK_eq]
    rcases step a hok with ⟨a', h', hok', h1, h2, h3, h4, h5, h6⟩ | ⟨e, τ', h', h0, h1, h2⟩
    · rw [h1]
      show loopN keep base g m (I a') h' k = _
      rw [← h4, ← h5, ← h6]
      refine ih a' _ _ k hok' (by omega) (fun k => ?_)
      have hki : keepIn keep 0 (I a') = I a' := by
        have e1 := h1 (fun _ τ _ => some (.ret (.tup τ), []))
        have e2 := h1 (fun _ τ _ => some (.ret (.tup (keepIn keep 0 τ)), []))
        simp only [keepIn_idem] at e2
        rw [e1] at e2
        simp only [Option.some.injEq, Prod.mk.injEq, Out.ret.injEq, AV.tup.injEq, and_true] at e2
        exact e2.symm
      rw [hki]
      exact h2 k
    · rw [h1]
      obtain ⟨f2, h3, h4⟩ := h2 (fun f τ' h' => k (e.map f) τ' h')
      cases e with
      | normal => cases h0
      | exit id => exact h3.trans (by rw [h4])
      | ret => exact h3.trans (by rw [h4])
      | pan v => exact h3.trans (by rw [h4])

/-- A loop that leaves memory alone. -/
theorem loop_plain {α : Type} {keep : List Nat} {g : Ctl} {h : Heap} (I : α → List AV) (μ : α → Nat) (ex : α → AEx) (F : α → List AV) (ok : α → Prop)
    (step : ∀ a, ok a →
      (∃ a', ok a' ∧ (∀ k : AEx → List AV → Heap → Fin, g (I a) h (fun e τ h => k e (keepIn keep 0 τ) h) = k .normal (I a') h) ∧ μ a' < μ a ∧ ex a' = ex a ∧ F a' = F a) ∨
      ((ex a).isNormal = false ∧ (∀ k : AEx → List AV → Heap → Fin, g (I a) h (fun e τ h => k e (keepIn keep 0 τ) h) = k (ex a) (F a) h))) :
    ∀ (m : Nat) (a : α) (τ : List AV) (k : AEx → List AV → Heap → Fin), ok a → μ a < m → keepIn keep 0 τ = I a → loopN keep h.length g m τ h k = k (ex a) (F a) h := by
  intro m a τ k hok hm hI
  refine loop_rule I (fun _ => h) μ ex F (fun _ => h) ok (fun a hok => ?_) m a τ h k hok hm (fun k => ⟨id, by rw [hI]; exact pack_self _ _ _ _⟩)
  rcases step a hok with ⟨a', g1, g2, g3, g4, g5⟩ | ⟨g1, g2⟩
  · exact .inl ⟨a', h, g1, g2, fun k => ⟨id, pack_self _ _ _ _⟩, g3, g4, g5, rfl⟩
  · exact .inr ⟨ex a, F a, h, g1, g2, fun k => ⟨id, pack_self _ _ _ _, AEx.map_id _⟩⟩

/-! ### Rounds with what nothing leads to left out -/

theorem pack_none {base : Nat} {τ v : List AV} {h : Heap} : pack base τ v h (fun _ _ _ => none) = none := by
  unfold pack
  cases Nat.ble h.length base with
  | true => rfl
  | false =>
    rw [cond_false]
    unfold packed
    split
    · split <;> rfl
    · rfl

def roundK (base : Nat) (keep : List Nat) (k : AEx → List AV → Heap → Fin) : AEx → List AV → Heap → Fin := fun e τ h => pack base (keepIn keep 0 τ) e.vals h fun f τ h => k (e.map f) τ h

def loopB (keep : List Nat) (base : Nat) (g : Ctl) : Nat → Ctl
  | 0, _, _, _ => none
  | m + 1, τ, h, k => g τ h (loopK keep base g m k)

theorem loopK_round (keep : List Nat) (base : Nat) (g : Ctl) (m : Nat) (k : AEx → List AV → Heap → Fin) :
    loopK keep base g m k = roundK base keep fun e τ h => match e with | .normal => loopB keep base g m τ h k | e => k e τ h := by
  funext ex τ h
  cases ex with
  | normal =>
    show loopN keep base g m τ h k = pack base (keepIn keep 0 τ) [] h fun f τ h => loopB keep base g m τ h k
    cases m with
    | zero => exact pack_none.symm
    | succ m => rw [loopN_succ]; rfl
  | exit id => rfl
  | ret => rfl
  | pan v => rfl

/-- A loop whose states are a family, memory along with them. -/
theorem loop_mem {α : Type} {keep : List Nat} {base : Nat} {g : Ctl} (I : α → List AV) (H : α → Heap) (μ : α → Nat) (ex : α → AEx) (F : α → List AV) (FH : α → Heap) (ok : α → Prop)
    (step : ∀ a, ok a →
      (∃ a', ok a' ∧ (∀ k : AEx → List AV → Heap → Fin, g (I a) (H a) (roundK base keep k) = k .normal (I a') (H a')) ∧ μ a' < μ a ∧ ex a' = ex a ∧ F a' = F a ∧ FH a' = FH a) ∨
      ((ex a).isNormal = false ∧ (∀ k : AEx → List AV → Heap → Fin, g (I a) (H a) (roundK base keep k) = k (ex a) (F a) (FH a)))) :
    ∀ (m : Nat) (a : α) (τ : List AV) (h : Heap) (k : AEx → List AV → Heap → Fin), ok a → μ a < m → (∀ k : List AV → Heap → Fin, pack base (keepIn keep 0 τ) [] h (fun _ τ h => k τ h) = k (I a) (H a)) → loopN keep base g m τ h k = k (ex a) (F a) (FH a) := by
  have key : ∀ (m : Nat) (a : α) (k : AEx → List AV → Heap → Fin), ok a → μ a < m → loopB keep base g m (I a) (H a) k = k (ex a) (F a) (FH a) := by
    intro m
    induction m with
    | zero => intro a k _ hm; omega
    | succ m ih =>
      intro a k hok hm
      show g (I a) (H a) (loopK keep base g m k) = _
      rw [loopK_round]
      rcases step a hok with ⟨a', hok', h1, h3, h4, h5, h6⟩ | ⟨h0, h1⟩
      · rw [h1]
        show loopB keep base g m (I a') (H a') k = _
        rw [ih a' k hok' (by omega), h4, h5, h6]
      · rw [h1]
        cases he : ex a with
        | normal => rw [he] at h0; cases h0
        | exit id => rfl
        | ret => rfl
        | pan v => rfl
  intro m a τ h k hok hm hp
  cases m with
  | zero => omega
  | succ m =>
    rw [loopN_succ]
    rw [hp (fun τ h => g τ h (loopK keep base g m k))]
    exact key (m + 1) a k hok hm

/-- A condition that is known, or not. -/
noncomputable def cdec (p : Prop) : Bool := @decide p (Classical.propDecidable p)
theorem cdec_true {p : Prop} (h : p) : cdec p = true := by unfold cdec; simp [h]
theorem cdec_elim {p : Prop} (h : cdec p = true) : p := by unfold cdec at h; simpa using h

/-- The ranges over functions in a piece of code, as they come: their variables, how these are set, their bodies. -/
def rangesL : Code → List (List Tmp × Code × Code)
  | .seq a b | .cond _ a b => rangesL a ++ rangesL b
  | .block _ c | .scope c | .loop c => rangesL c
  | .rangeFunc _ ps asg body => [(ps.toList, asg, body)]
  | _ => []

def bodyOf (P : Program) (f : FuncId) : Code := ((P.funcs[f]?).bind (·.body)).getD .skip
def loopOf (P : Program) (f : FuncId) (n : Nat) : Code := (loopsL (bodyOf P f)).getD n .skip

def asgOf (P : Program) (f : FuncId) (n : Nat) : Code := ((rangesL (bodyOf P f)).getD n ([], .skip, .skip)).2.1
def rbodyOf (P : Program) (f : FuncId) (n : Nat) : Code := ((rangesL (bodyOf P f)).getD n ([], .skip, .skip)).2.2

/-- A list of functions and what is told of their loops. -/
def lsOf : List (FuncId × List LI) → FuncId → List LI
  | [], _ => []
  | (g, s) :: l, f => bif Nat.beq f g then s else lsOf l f

/-- A list of functions and the slots that their loops keep. -/
def keepOf : List (FuncId × List Nat) → FuncId → List Nat
  | [], _ => []
  | (g, s) :: l, f => bif Nat.beq f g then s else keepOf l f

def LoopTrue (P : Program) (S : Specs) (pu : FuncId → Bool) (m : Nat) (keep : FuncId → List Nat) (LS : FuncId → List LI) (f : FuncId) (i : Nat) (s : LSpec) : Prop :=
  ∀ d τ h k r, (s τ h).run k = some r → loopN (keep f) h.length (fun τ h k => evC P (evF P S pu m keep LS (d + 8)) pu m (keep f) true (loopOf P f i) ((LS f).drop (i + 1)) τ h k) m τ h k = some r

theorem lsOf_mem {f : FuncId} : ∀ {l : List (FuncId × List LI)}, lsOf l f = [] ∨ (f, lsOf l f) ∈ l := by
  intro l
  induction l with
  | nil => exact .inl rfl
  | cons x l ih =>
    obtain ⟨g, s⟩ := x
    simp only [lsOf]
    cases hb : Nat.beq f g with
    | true => have := Nat.eq_of_beq_eq_true hb; subst this; exact .inr (by simp)
    | false =>
      rcases ih with h | h
      · exact .inl h
      · exact .inr (List.mem_cons_of_mem _ h)

theorem loopsOK_of {P : Program} {S : Specs} {pu : FuncId → Bool} {m : Nat} {keep : FuncId → List Nat} {l : List (FuncId × List LI)}
    (h : ∀ x ∈ l, ∀ i s, x.2[i]? = some (.spec s) → x.2 = lsOf l x.1 → LoopTrue P S pu m keep (lsOf l) x.1 i s) : LoopsOK P S pu m keep (lsOf l) := by
  intro d f fn c hf hb _
  rcases lsOf_mem (f := f) (l := l) with he | hm
  · rw [he]; exact LSOK_nil c
  · refine LSOK_of c _ fun i c' s hc hs => ?_
    have := h _ hm i s hs rfl
    have hbo : bodyOf P f = c := by simp [bodyOf, hf, hb]
    have hlo : loopOf P f i = c' := by unfold loopOf; rw [hbo]; simp [List.getD, hc]
    intro τ g k r he
    have h2 := this d τ g k r he
    rw [hlo] at h2
    exact h2

/-- A function's answer from its own body. -/
theorem evF_body {P : Program} {S : Specs} {pu : FuncId → Bool} {m : Nat} {keep : FuncId → List Nat} {LS : FuncId → List LI} {f : FuncId} {s : Spec} (hP : NoNum P) (hS : SpecsOK P S) (hpu : PuresOK S pu) (hLS : LoopsOK P S pu m keep LS) (d : Nat)
    {fn : Func} (hf : P.funcs[f]? = some fn) (hb : fn.body.isSome = true) (hn : S f = none)
    (h : ∀ args h out h', (s args h).get = some (out, h') → ∀ k, evB P (evF P S pu m keep LS (d + 8)) pu m (keep f) (LS f) fn (bodyOf P f) args h k = k out h') : SpecOK P f s := by
  refine specOK_of_sem fun args h0 out h' hs => ?_
  cases hbd : fn.body with
  | none => rw [hbd] at hb; cases hb
  | some c =>
    have hbo : bodyOf P f = c := by simp [bodyOf, hf, hbd]
    refine semCall_of_body hP hS hpu hLS (d + 8) hf hbd (hLS d f fn c hf hbd hn) ?_
    rw [← hbo]
    exact h args h0 out h' hs _

end Go.Am
