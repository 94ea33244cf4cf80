/- part.Parse of a plain text, and of a text in quotes: its loop, and the whole. The condition: the text is not too long. -/
import Derived.Test.YtpdkcpbhihaakaaDoorTkP
namespace Go.Proofs
open Go Go.Am

abbrev st41 : List AV := T41 (.yld 4) (.ptr 3 0 0) (.ptr 2 0 0)

theorem drop1_take (c : UInt8) (w : List UInt8) : ((c :: w).drop 1).take (((c :: w).length : Int).toNat - 1) = w := by
  simp

def res41 (w : List UInt8) : Option (List UInt8 × Bool) → List UInt8 × Bool
  | none => bif okP w then (w, false) else (innerQ w, true)
  | some (t, q) => (t ++ w, q)

theorem okQ_inv {c : UInt8} {w : List UInt8} (h : okQ (c :: w) = true) : c = 39 ∧ q42 (39 :: w) = true ∧ (end94 (39 :: w) 1 39 false).2 = w.length - 1 ∧ 0 < w.length ∧ w.length ≤ 1000000000 := by
  simp only [okQ, Bool.and_eq_true] at h
  obtain ⟨hq, hn⟩ := h
  have hq2 := hq
  simp only [q42, Bool.and_eq_true] at hq2
  have := is39_cons hq2.1.2
  subst this
  have hl := inText_inv hq2.1.1
  have hn := Nat.eq_of_beq_eq_true hn
  simp only [List.length_cons] at hn hl
  exact ⟨rfl, hq, by omega, by omega, by omega⟩

theorem loop41 (d : Nat) (w0 w : List UInt8) (hw : okP w = true ∨ okQ w = true) (τ : List AV) (hτ : keepIn [0, 1, 2] 0 τ = st41) (k : AEx → List AV → Heap → Am.Fin) :
    loopN [0, 1, 2] 5 (fun τ h k => evC Tryd.prog (evF Tryd.prog (specsOf S41) (fun _ => false) tkM kp41 LS41 (d + 8)) (fun _ => false) tkM [0, 1, 2] true (lo 41 0) [.keep []] τ h k) tkM τ (H41 (R9 w0) w none) k =
    k (.exit 0) st41 (H41 (R9 w0) [] (some (res41 w none))) := by
  have hlen : w.length ≤ 1000000001 := by
    rcases hw with h | h
    · simp only [okP, Bool.and_eq_true] at h; have := fits_le h.1.1; omega
    · cases w with
      | nil => simp
      | cons c w => have := (okQ_inv h).2.2.2.2; simp only [List.length_cons]; omega
  refine loop_mem (α := List UInt8 × Option (List UInt8 × Bool)) (fun _ => st41) (fun a => H41 (R9 w0) a.1 a.2) (fun a => a.1.length) (fun _ => .exit 0) (fun _ => st41) (fun a => H41 (R9 w0) [] (some (res41 a.1 a.2)))
    (fun a => match a with
      | (w, none) => okP w = true ∨ okQ w = true
      | (w, some (t, q)) => w.all p42 = true ∧ (w ≠ [] → q = false) ∧ t.length + w.length ≤ 1000000001) ?_ tkM (w, none) τ _ k hw (by show w.length < tkM; unfold tkM; omega) (fun k => by rw [hτ]; exact pack_self (h := H41 (R9 w0) w none) _ _ _)
  rintro ⟨w, acc⟩ hok
  cases w with
  | nil =>
    cases acc with
    | none =>
      rcases hok with h | h
      · simp [okP] at h
      · simp [okQ, q42, inText] at h
    | some a =>
      obtain ⟨t, q⟩ := a
      refine .inr ⟨rfl, fun k => (rd41e d w0 t q k).trans ?_⟩
      simp [res41, H41, pt]
  | cons c w =>
    have c1 : decide ((0 : Int) ≤ 1 ∧ (1 : Int) ≤ ((c :: w).length : Int) ∧ ((c :: w).length : Int) ≤ ((c :: w).length : Int)) = true := decide_eq_true (by rw [List.length_cons]; omega)
    cases acc with
    | none =>
      cases hp : okP (c :: w) with
      | true =>
        have hp2 := hp
        simp only [okP, Bool.and_eq_true, List.all_cons] at hp2
        have hl := fits_le hp2.1.1
        refine .inl ⟨(w, some ([c], false)), ⟨hp2.2.2, fun _ => rfl, by simp at hl ⊢; omega⟩, fun k => (rd41a d c w w0 k).trans ?_, by simp, rfl, rfl, ?_⟩
        · simp only [hp2.2.1, c1, cond_true, drop1_take]
          rfl
        · simp [res41, hp]
      | false =>
        have hq : okQ (c :: w) = true := hok.resolve_left (by rw [hp]; simp)
        obtain ⟨rfl, hq2, hn, hpos, hl⟩ := okQ_inv hq
        refine .inl ⟨([], some (innerQ (39 :: w), true)), ⟨rfl, fun h => absurd rfl h, by simp only [innerQ, List.length_take, List.length_nil]; omega⟩, fun k => (rd41q d w w0 k).trans ?_, by simp, rfl, rfl, ?_⟩
        · have e2 : decide ((0 : Int) ≤ ((end94 (39 :: w) 1 39 false).2 : Int) + 2 ∧ ((end94 (39 :: w) 1 39 false).2 : Int) + 2 ≤ ((39 :: w : List UInt8).length : Int) ∧ ((39 :: w : List UInt8).length : Int) ≤ ((39 :: w : List UInt8).length : Int)) = true := decide_eq_true (by rw [List.length_cons, hn]; omega)
          have e3 : ((39 :: w : List UInt8).drop (((end94 (39 :: w) 1 39 false).2 : Int) + 2).toNat).take (((39 :: w : List UInt8).length : Int).toNat - (((end94 (39 :: w) 1 39 false).2 : Int) + 2).toNat) = [] := by
            rw [List.drop_eq_nil_of_le (by rw [List.length_cons, hn]; omega)]; exact List.take_nil
          simp only [hq2, e2, e3, cond_true]
          rfl
        · simp [res41, hp]
    | some a =>
      obtain ⟨t, q⟩ := a
      obtain ⟨h1, h2, h3⟩ := hok
      have hq := h2 (by simp)
      subst hq
      simp only [List.all_cons, Bool.and_eq_true] at h1
      have e2 : decide (t.length + [c].length ≤ 9223372036854775807) = true := decide_eq_true (by simp at h3 ⊢; omega)
      refine .inl ⟨(w, some (t ++ [c], false)), ⟨h1.2, fun _ => rfl, by simp at h3 ⊢; omega⟩, fun k => (rd41b d c w w0 t k).trans ?_, by simp, rfl, rfl, ?_⟩
      · simp only [h1.1, c1, e2, cond_true, drop1_take]
        rfl
      · simp [res41]

theorem loops41 : LoopsOK Tryd.prog (specsOf S41) (fun _ => false) tkM kp41 LS41 := loopsOK_of fun x hx i s hs hl => by
  simp only [List.mem_cons, List.not_mem_nil, or_false] at hx
  subst hx
  cases i with
  | zero =>
    simp only [List.getElem?_cons_zero, Option.some.injEq, LI.spec.injEq] at hs
    subst hs
    intro d τ h k r he
    unfold ls41 at he
    split at he
    · rename_i w rec
      simp only [LT.run] at he
      cases hc : cdec (∃ w0, rec = R9 w0) with
      | false => rw [hc] at he; cases he
      | true =>
        rw [hc, cond_true] at he
        obtain ⟨w0, rfl⟩ := cdec_elim hc
        cases hp : okP w with
        | true =>
          rw [hp, cond_true] at he
          refine Eq.trans (loop41 d w0 w (.inl hp) _ ?_ k) ?_
          · rfl
          · simp only [res41, hp, cond_true]; exact he
        | false =>
          rw [hp, cond_false] at he
          cases hq : okQ w with
          | false => rw [hq] at he; cases he
          | true =>
            rw [hq, cond_true] at he
            refine Eq.trans (loop41 d w0 w (.inr hq) _ ?_ k) ?_
            · rfl
            · simp only [res41, hp, cond_false]; exact he
    · cases he
  | succ i =>
    cases i with
    | zero => simp at hs
    | succ i => simp at hs

/-- part.Parse of a word. -/
def s9 : Am.Spec := fun args h => match args with
  | [.str w, .int .i64 0] => .ite (okP w) (.done (.ret (.tup [.slc h.length 0 1, .int .i64 0])) (h ++ [pt w false]))
      (.ite (okQ w) (.done (.ret (.tup [.slc h.length 0 1, .int .i64 0])) (h ++ [pt (innerQ w) true])) .none)
  | _ => .none

theorem ev9 (d : Nat) (w : List UInt8) (k : Out → Heap → Am.Fin) :
    evF Tryd.prog (specsOf S41) (fun _ => false) tkM kp41 LS41 (d + 20) (.fn 9) [.str w, .int .i64 0] [] (packK k) =
    (bif cdec (∃ w0, R9 w = R9 w0) then (bif okP w then k (.ret (.tup [.slc 0 0 1, .int .i64 0])) [pt w false] else (bif okQ w then k (.ret (.tup [.slc 0 0 1, .int .i64 0])) [pt (innerQ w) true] else none)) else none) := by kernel_rfl

theorem ok9 : SpecOK Tryd.prog 9 s9 := specOK_of_sem fun args h out h' hs => by
  unfold s9 at hs
  split at hs
  · rename_i w
    have hc : cdec (∃ w0, R9 w = R9 w0) = true := cdec_true ⟨w, rfl⟩
    cases hp : okP w with
    | true =>
      rw [hp] at hs
      simp only [RT.get, cond_true, Option.some.injEq, Prod.mk.injEq] at hs
      obtain ⟨rfl, rfl⟩ := hs
      have := semCall_of_k tkNoNum S41_ok noPures loops41 20 ((ev9 0 w _).trans (by rw [hc, hp]; rfl))
      exact this.anywhere ⟨trivial, trivial, trivial⟩ h
    | false =>
      rw [hp] at hs
      cases hq : okQ w with
      | false => rw [hq] at hs; cases hs
      | true =>
        rw [hq] at hs
        simp only [RT.get, cond_true, cond_false, Option.some.injEq, Prod.mk.injEq] at hs
        obtain ⟨rfl, rfl⟩ := hs
        have := semCall_of_k tkNoNum S41_ok noPures loops41 20 ((ev9 0 w _).trans (by rw [hc, hp, hq]; rfl))
        exact this.anywhere ⟨trivial, trivial, trivial⟩ h
  · cases hs

end Go.Proofs
