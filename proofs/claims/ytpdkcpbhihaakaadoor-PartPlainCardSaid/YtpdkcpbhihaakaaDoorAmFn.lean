/- Functions and programs: what the evaluator says is what the machine does. The condition: no function is runtime.NumGoroutine. -/
import Derived.Test.YtpdkcpbhihaakaaDoorAmDefer
namespace Go.Am

/-- What is told of loops is true. -/
def LoopsOK (P : Program) (S : Specs) (pu : FuncId → Bool) (m : Nat) (keep : FuncId → List Nat) (LS : FuncId → List LI) : Prop :=
  ∀ d f fn c, P.funcs[f]? = some fn → fn.body = some c → S f = none → LSOK P (evF P S pu m keep LS (d + 8)) pu m (keep f) true c (LS f)

theorem lsAt_ok {P : Program} {S : Specs} {pu : FuncId → Bool} {m : Nat} {keep : FuncId → List Nat} {LS : FuncId → List LI} (h : LoopsOK P S pu m keep LS) (d : Nat) {f : FuncId} {fn : Func} {c : Code} (hf : P.funcs[f]? = some fn) (hb : fn.body = some c) (hs : S f = none) :
    LSOK P (evF P S pu m keep LS d) pu m (keep f) true c (lsAt d (LS f)) := by
  unfold lsAt
  cases hd : Nat.ble 8 d with
  | false => exact LSOK_nil c
  | true =>
    have := Nat.le_of_ble_eq_true hd
    have h1 := h (d - 8) f fn c hf hb hs
    rw [show d - 8 + 8 = d by omega] at h1
    exact h1

theorem evF_leaf {P : Program} {S : Specs} {pu : FuncId → Bool} {m : Nat} {keep : FuncId → List Nat} {LS : FuncId → List LI} : ∀ d, CallerLeaf (evF P S pu m keep LS d) := by
  intro d
  induction d with
  | zero => intro f args h K r he; cases he
  | succ d ih =>
    intro f args h K r he
    cases f with
    | yld b => simp only [evF] at he ⊢; exact evRound_leaf ih he
    | fn f =>
      simp only [evF] at he ⊢
      split at he
      · obtain ⟨o, h', _, hl⟩ := RT.leaf he
        exact ⟨o, h', hl⟩
      · split at he
        · split at he
          · rename_i c _
            cases hdf : hasDefer c with
            | true => rw [hdf, cond_true] at he; simp only [cond_true]; exact evD_leaf ih _ _ he
            | false =>
            rw [hdf, cond_false] at he
            simp only [cond_false]
            unfold evB at he ⊢
            obtain ⟨ex, τ', h', hl⟩ := evC_leaf ih _ _ _ _ _ _ he
            rw [hl] at he
            cases ex with
            | normal =>
              simp only at he
              split at he
              · rename_i l hr; exact ⟨.ret (tupOf l), h', fun K' => by rw [hl]; simp only [hr]⟩
              · cases he
            | ret =>
              simp only at he
              split at he
              · rename_i l hr; exact ⟨.ret (tupOf l), h', fun K' => by rw [hl]; simp only [hr]⟩
              · cases he
            | pan v => exact ⟨.pan v, h', fun K' => by rw [hl]⟩
            | exit id => cases he
          · cases he
        · cases he

theorem evF_pure {P : Program} {S : Specs} {pu : FuncId → Bool} (hpu : PuresOK S pu) {m : Nat} {keep : FuncId → List Nat} {LS : FuncId → List LI} : ∀ d, PureOK pu (evF P S pu m keep LS d) := by
  intro d f hf args h K r he
  obtain ⟨s, hs, hk⟩ := hpu f hf
  cases d with
  | zero => cases he
  | succ d =>
    simp only [evF, hs] at he ⊢
    obtain ⟨o, h', hsa, hl⟩ := RT.leaf he
    obtain ⟨rfl, v, rfl⟩ := hk _ _ _ _ hsa
    exact ⟨v, hl⟩

theorem evF_sound {P : Program} (hP : NoNum P) {S : Specs} (hS : SpecsOK P S) {pu : FuncId → Bool} (hpu : PuresOK S pu) {m : Nat} {keep : FuncId → List Nat} {LS : FuncId → List LI}
    (hLS : LoopsOK P S pu m keep LS) : ∀ d, CallerOK P (evF P S pu m keep LS d) := by
  intro d
  induction d with
  | zero => exact ⟨fun f args h K r he => by simp [evF] at he, fun b args h K r he => by simp [evF] at he⟩
  | succ d ih =>
    constructor
    · intro f args h K r he ι w cargs R hr ha hk
      simp only [evF] at he
      split at he
      · rename_i s hs
        obtain ⟨o, h', hs', hl⟩ := RT.leaf he
        rw [hl] at he
        refine callsIn_mono (hS f s hs args h o h' hs' ι w cargs hr ha) ?_
        rintro e w' ⟨ι', h1, h2, h3⟩
        exact hk _ _ _ _ _ he h1 h2 h3
      · rename_i hs
        split at he
        · rename_i fn hf
          split at he
          · rename_i c hb
            cases hdf : hasDefer c with
            | true => rw [hdf, cond_true] at he; exact evDB_sound hP ih (evF_leaf d) (evF_pure hpu d) hf hb he hr ha hk
            | false =>
              rw [hdf, cond_false] at he
              exact evB_sound hP ih (evF_leaf d) (evF_pure hpu d) hf hb (lsAt_ok hLS d hf hb hs) he hr ha hk
          · cases he
        · cases he
    · intro b args h K r he ι w cargs R hr ha hk
      simp only [evF] at he
      exact evRound_sound hP ih (evF_leaf d) (evF_pure hpu d) he hr ha hk

end Go.Am
