/- The evaluator comes to one end, whatever is done with it. No condition. -/
import Derived.Test.YtpdkcpbhihaakaaDoorAmCode
namespace Go.Am

/-- Going on behind an end. -/
def bnd (x : Fin) (k : AV → Heap → Fin) : Fin :=
  match x with
  | some (.ret v, h) => k v h
  | _ => none

def retK : AV → Heap → Fin := fun v h => some (.ret v, h)

theorem bnd_none (k : AV → Heap → Fin) : bnd none k = none := rfl
theorem bnd_ret (k : AV → Heap → Fin) (v : AV) (h : Heap) : bnd (retK v h) k = k v h := rfl
theorem bnd_bif (c : Bool) (x y : Fin) (k : AV → Heap → Fin) : bnd (bif c then x else y) k = bif c then bnd x k else bnd y k := by cases c <;> rfl
theorem bnd_ite (c : Prop) [Decidable c] (x y : Fin) (k : AV → Heap → Fin) : bnd (if c then x else y) k = if c then bnd x k else bnd y k := by split <;> rfl
theorem bnd_kbind (o : Option AV) (h : Heap) (k : AV → Heap → Fin) : bnd (kbind o fun v => retK v h) k = kbind o fun v => k v h := by cases o <;> rfl
theorem bnd_cat (a b : List UInt8) (h : Heap) (k : AV → Heap → Fin) : bnd (cat a b fun v => retK v h) k = cat a b fun v => k v h := by unfold cat; rw [bnd_bif]; rfl

theorem append_bnd (P : Program) (t : TypeId) (s x : AV) (h : Heap) (k : AV → Heap → Fin) : evAppend P t s x h k = bnd (evAppend P t s x h retK) k := by
  unfold evAppend
  repeat' (first
    | rfl
    | (simp only [bnd_none, bnd_ret, bnd_bif, bnd_ite]; done)
    | split)

theorem evOp_bnd (P : Program) (o : Oper) (τ : List AV) (h : Heap) (k : AV → Heap → Fin) : evOp P o τ h k = bnd (evOp P o τ h retK) k := by
  obtain ⟨dst, op, ty, pos, after, guard⟩ := o
  unfold evOp
  cases op <;> simp only
  all_goals
    repeat' (first
      | rfl
      | exact append_bnd ..
      | exact (bnd_kbind _ _ _).symm
      | exact (bnd_cat _ _ _ _).symm
      | (simp only [bnd_none, bnd_ret, bnd_bif, bnd_ite]; done)
      | (rw [bnd_ite]; congr 1; done)
      | split)

/-- A caller comes to one end. -/
def CallerLeaf (cl : Caller) : Prop := ∀ f args h K r, cl f args h K = some r → ∃ out h', ∀ K', cl f args h K' = K' out h'

theorem evOp_leaf {P : Program} {o : Oper} {τ : List AV} {h : Heap} {k : AV → Heap → Fin} {r : Out × Heap} (he : evOp P o τ h k = some r) : ∃ v h', ∀ k', evOp P o τ h k' = k' v h' := by
  rw [evOp_bnd] at he
  cases hx : evOp P o τ h retK with
  | none => rw [hx] at he; cases he
  | some x =>
    obtain ⟨out, h'⟩ := x
    cases out with
    | ret v => exact ⟨v, h', fun k' => by rw [evOp_bnd, hx]; rfl⟩
    | pan v => rw [hx] at he; cases he

theorem evOp1_leaf {P : Program} {cl : Caller} (hcl : CallerLeaf cl) {o : Oper} {τ : List AV} {h : Heap} {k kp : AV → Heap → Fin} {r : Out × Heap} (he : evOp1 P cl o τ h k kp = some r) :
    (∃ v h', ∀ k' kp', evOp1 P cl o τ h k' kp' = k' v h') ∨ (∃ v h', ∀ k' kp', evOp1 P cl o τ h k' kp' = kp' v h') := by
  unfold evOp1 at he ⊢
  split at he
  · split at he
    · obtain ⟨out, h', hl⟩ := hcl _ _ _ _ _ he
      cases out with
      | ret v => exact .inl ⟨v, h', fun k' kp' => by simp only [hl]⟩
      | pan v => exact .inr ⟨v, h', fun k' kp' => by simp only [hl]⟩
    · obtain ⟨v, h', hl⟩ := evOp_leaf he
      exact .inl ⟨v, h', fun k' kp' => by simp only [hl]⟩
  · split at he
    · exact .inr ⟨_, _, fun k' kp' => rfl⟩
    · cases he
  · obtain ⟨v, h', hl⟩ := evOp_leaf he
    exact .inl ⟨v, h', fun k' kp' => by simp only [hl]⟩

theorem evOps_leaf {P : Program} {cl : Caller} (hcl : CallerLeaf cl) {all : Array Oper} : ∀ (l : List Oper) {τ : List AV} {h : Heap} {k : List AV → Heap → Fin} {kp : AV → List AV → Heap → Fin} {r : Out × Heap}, evOps P cl all l τ h k kp = some r →
    (∃ τ' h', ∀ k' kp', evOps P cl all l τ h k' kp' = k' τ' h') ∨ (∃ v τ' h', ∀ k' kp', evOps P cl all l τ h k' kp' = kp' v τ' h') := by
  intro l
  induction l with
  | nil => intro τ h k kp r _; exact .inl ⟨τ, h, fun _ _ => rfl⟩
  | cons o rest ih =>
    intro τ h k kp r he
    have one : ∀ {τ : List AV}, evOp1 P cl o τ h (fun v h' => evOps P cl all rest (put τ o.dst v) h' k kp) (fun v h' => kp v τ h') = some r →
        (∃ τ' h', ∀ (k' : List AV → Heap → Fin) (kp' : AV → List AV → Heap → Fin), evOp1 P cl o τ h (fun v h' => evOps P cl all rest (put τ o.dst v) h' k' kp') (fun v h' => kp' v τ h') = k' τ' h') ∨
        (∃ v τ' h', ∀ (k' : List AV → Heap → Fin) (kp' : AV → List AV → Heap → Fin), evOp1 P cl o τ h (fun v h' => evOps P cl all rest (put τ o.dst v) h' k' kp') (fun v h' => kp' v τ h') = kp' v τ' h') := by
      intro τ he
      rcases evOp1_leaf hcl he with ⟨v, h', hl⟩ | ⟨v, h', hl⟩
      · rw [hl] at he
        rcases ih he with ⟨τ', h2, h3⟩ | ⟨v2, τ', h2, h3⟩
        · exact .inl ⟨τ', h2, fun k' kp' => by rw [hl]; exact h3 k' kp'⟩
        · exact .inr ⟨v2, τ', h2, fun k' kp' => by rw [hl]; exact h3 k' kp'⟩
      · exact .inr ⟨v, τ, h', fun k' kp' => hl _ _⟩
    unfold evOps at he ⊢
    split at he
    · exact one he
    · rename_i j want hg
      split at he
      · cases he
      · rename_i g hj
        split at he
        · rename_i c hc
          cases c <;> cases want <;> simp only [cond_false, cond_true] at he ⊢
          · exact one he
          · exact ih he
          · exact ih he
          · exact one he
        · exact ih he
        · cases he

end Go.Am
