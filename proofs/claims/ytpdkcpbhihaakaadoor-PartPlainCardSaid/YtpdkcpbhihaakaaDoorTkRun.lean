/- token.text.run: where a run of bytes up to a mark ends. The condition: the text is not too long. -/
import Derived.Test.YtpdkcpbhihaakaaDoorTkC
import Derived.Test.YtpdkcpbhihaakaaDoorAmPure
namespace Go.Proofs
open Go Go.Am

noncomputable abbrev lo (f : FuncId) (n : Nat) : Code := loopOf Tryd.prog f n

theorem w64 {x : Int} (h1 : -9223372036854775808 ≤ x) (h2 : x ≤ 9223372036854775807) : IntKind.i64.wrap x = x := by rw [IntKind.wrap_i64]; omega

def T94 (a0 a1 a2 a3 a8 : AV) : List AV := [a0, a1, a2, a3, .any, .any, .any, .any, a8, .any, .any, .any, .any, .any, .any, .any, .any, .any, .any, .any, .any, .any, .any, .any, .any, .any, .any, .any, .any, .any, .any, .any, .any, .any]

theorem st94 (cl : Caller) (pu : FuncId → Bool) (M : Nat) (ls : List LI) (s : List UInt8) (i m z : Int) (e : Bool) (h : Heap) (k : AEx → List AV → Heap → Am.Fin) :
    evC Tryd.prog cl pu M [0, 1, 2, 3, 8] true (lo 94 0) ls (T94 (.str s) (.int .i64 i) (.int .u8 m) (.bool e) (.int .i64 z)) h (fun e τ h => k e (keepIn [0, 1, 2, 3, 8] 0 τ) h) =
    (bif decide ((i : Int) < (s.length : Int)) then (bif decide (0 ≤ i ∧ i < (s.length : Int)) then (bif (((s.getD i.toNat 0).toNat : Int) : Int) == m then k .ret (T94 (.str s) (.int .i64 i) (.int .u8 m) (.bool e) (.int .i64 (IntKind.i64.wrap (i + 1)))) h else (bif e then (bif decide (0 ≤ i ∧ i < (s.length : Int)) then (bif (((s.getD i.toNat 0).toNat : Int) : Int) == 92 then k .normal (T94 (.str s) (.int .i64 (IntKind.i64.wrap ((IntKind.i64.wrap (i + 1)) + 1))) (.int .u8 m) (.bool e) (.int .i64 z)) h else k .normal (T94 (.str s) (.int .i64 (IntKind.i64.wrap (i + 1))) (.int .u8 m) (.bool e) (.int .i64 z)) h) else none) else k .normal (T94 (.str s) (.int .i64 (IntKind.i64.wrap (i + 1))) (.int .u8 m) (.bool e) (.int .i64 z)) h)) else none) else k (.exit 0) (T94 (.str s) (.int .i64 i) (.int .u8 m) (.bool e) (.int .i64 z)) h) := by kernel_rfl


def runL (m : Int) (e : Bool) : List UInt8 → Bool × Nat
  | [] => (false, 0)
  | c :: r => bif ((c.toNat : Int) == m) then (true, 0) else bif e && ((c.toNat : Int) == 92) then (match r with | [] => (false, 2) | _ :: r' => ((runL m e r').1, (runL m e r').2 + 2)) else ((runL m e r).1, (runL m e r).2 + 1)

/-- A text that is not too long. -/
def fits (s : List UInt8) : Bool := Nat.ble s.length 1000000000

theorem fits_le {s : List UInt8} (h : fits s = true) : s.length ≤ 1000000000 := Nat.ble_eq.mp h

theorem drop_cons {s : List UInt8} {i : Int} (h0 : 0 ≤ i) (h : i < s.length) : s.drop i.toNat = s.getD i.toNat 0 :: s.drop (i + 1).toNat := by
  have hl : i.toNat < s.length := by omega
  rw [List.drop_eq_getElem_cons hl, show (i + 1).toNat = i.toNat + 1 by omega]
  simp [List.getD, hl]

theorem drop_nil {s : List UInt8} {i : Int} (h : (s.length : Int) ≤ i) : s.drop i.toNat = [] := List.drop_eq_nil_of_le (by omega)

def end94 (s : List UInt8) (i m : Int) (e : Bool) : Bool × Nat := runL m e (s.drop i.toNat)

def g94 (s : List UInt8) (i : Int) : Bool := fits s && decide (0 ≤ i) && decide (i ≤ (s.length : Int))

def ls94 : LSpec := fun τ h => match τ with
  | .str s :: .int .i64 i :: .int .u8 m :: .bool e :: _ :: _ :: _ :: _ :: .int .i64 z :: _ :: _ :: _ :: _ :: _ :: _ :: _ :: _ :: _ :: _ :: _ :: _ :: _ :: _ :: _ :: _ :: _ :: _ :: _ :: _ :: _ :: _ :: _ :: _ :: _ :: [] =>
    .ite (g94 s i)
      (.ite (end94 s i m e).1 (.done .ret (T94 (.str s) (.int .i64 (i + (end94 s i m e).2)) (.int .u8 m) (.bool e) (.int .i64 (i + (end94 s i m e).2 + 1))) h)
        (.done (.exit 0) (T94 (.str s) (.int .i64 (i + (end94 s i m e).2)) (.int .u8 m) (.bool e) (.int .i64 z)) h)) .none
  | _ => .none

theorem loop94 (cl : Caller) (pu : FuncId → Bool) (M : Nat) (hM : 1000000999 < M) (ls : List LI) (s : List UInt8) (hs : fits s = true) (i m z : Int) (e : Bool) (h0 : 0 ≤ i) (h1 : i ≤ s.length) (τ : List AV) (hτ : keepIn [0, 1, 2, 3, 8] 0 τ = T94 (.str s) (.int .i64 i) (.int .u8 m) (.bool e) (.int .i64 z)) (h : Heap) (k : AEx → List AV → Heap → Am.Fin) :
    loopN [0, 1, 2, 3, 8] h.length (fun τ h k => evC Tryd.prog cl pu M [0, 1, 2, 3, 8] true (lo 94 0) ls τ h k) M τ h k =
    k (bif (end94 s i m e).1 then .ret else .exit 0) (bif (end94 s i m e).1 then (T94 (.str s) (.int .i64 (i + (end94 s i m e).2)) (.int .u8 m) (.bool e) (.int .i64 (i + (end94 s i m e).2 + 1))) else (T94 (.str s) (.int .i64 (i + (end94 s i m e).2)) (.int .u8 m) (.bool e) (.int .i64 z))) h := by
  have hl := fits_le hs
  refine loop_plain (g := fun τ h k => evC Tryd.prog cl pu M [0, 1, 2, 3, 8] true (lo 94 0) ls τ h k) (h := h) (fun i : Int => T94 (.str s) (.int .i64 i) (.int .u8 m) (.bool e) (.int .i64 z)) (fun i => (s.length + 2 - i).toNat) (fun i => bif (end94 s i m e).1 then .ret else .exit 0)
    (fun i => bif (end94 s i m e).1 then (T94 (.str s) (.int .i64 (i + (end94 s i m e).2)) (.int .u8 m) (.bool e) (.int .i64 (i + (end94 s i m e).2 + 1))) else (T94 (.str s) (.int .i64 (i + (end94 s i m e).2)) (.int .u8 m) (.bool e) (.int .i64 z)))
    (fun i => 0 ≤ i ∧ i ≤ s.length + 1) (fun i hi => ?_) M i τ k ⟨h0, by omega⟩ (by omega) hτ
  obtain ⟨h0, h1⟩ := hi
  by_cases hlt : i < s.length
  · have hd := drop_cons h0 hlt
    have c1 : decide (i < (s.length : Int)) = true := decide_eq_true hlt
    have c2 : decide (0 ≤ i ∧ i < (s.length : Int)) = true := decide_eq_true ⟨h0, hlt⟩
    cases hm : ((((s.getD i.toNat 0).toNat : Int) : Int) == m) with
    | true =>
      have he : end94 s i m e = (true, 0) := by unfold end94; rw [hd, runL.eq_def]; simp only [hm, cond_true]
      refine .inr ⟨by rw [he]; rfl, fun k => ?_⟩
      refine (st94 cl pu M ls s i m z e h k).trans ?_
      rw [c1, c2, hm, he]
      simp only [cond_true, w64 (x := i + 1) (by omega) (by omega)]
      simp
    | false =>
      cases hee : (e && ((((s.getD i.toNat 0).toNat : Int) : Int) == 92)) with
      | false =>
        have he : end94 s i m e = ((end94 s (i + 1) m e).1, (end94 s (i + 1) m e).2 + 1) := by unfold end94; rw [hd, runL.eq_def]; simp only [hm, hee, cond_false]
        refine .inl ⟨i + 1, ⟨by omega, by omega⟩, fun k => ?_, by omega, by rw [he], by rw [he]; simp only [Int.natCast_add, Int.cast_ofNat_Int, show i + 1 + ((end94 s (i + 1) m e).2 : Int) = i + (((end94 s (i + 1) m e).2 : Int) + 1) by omega]⟩
        refine (st94 cl pu M ls s i m z e h k).trans ?_
        rw [c1, c2, hm]
        cases e with
        | false => simp only [cond_true, cond_false, w64 (x := i + 1) (by omega) (by omega)]
        | true => rw [Bool.true_and] at hee; rw [hee]; simp only [cond_true, cond_false, w64 (x := i + 1) (by omega) (by omega)]
      | true =>
        simp only [Bool.and_eq_true] at hee
        obtain ⟨rfl, h92⟩ := hee
        have step : ∀ k : AEx → List AV → Heap → Am.Fin, evC Tryd.prog cl pu M [0, 1, 2, 3, 8] true (lo 94 0) ls (T94 (.str s) (.int .i64 i) (.int .u8 m) (.bool true) (.int .i64 z)) h (fun e τ h => k e (keepIn [0, 1, 2, 3, 8] 0 τ) h) = k .normal (T94 (.str s) (.int .i64 (i + 2)) (.int .u8 m) (.bool true) (.int .i64 z)) h := fun k => by
          refine (st94 cl pu M ls s i m z true h k).trans ?_
          rw [c1, c2, hm, h92]
          simp only [cond_true, cond_false, w64 (x := i + 1) (by omega) (by omega), w64 (x := i + 1 + 1) (by omega) (by omega)]
          rw [show i + 1 + 1 = i + 2 by omega]
        by_cases hl2 : i + 1 < s.length
        · have hd2 := drop_cons (s := s) (i := i + 1) (by omega) hl2
          have he : end94 s i m true = ((end94 s (i + 2) m true).1, (end94 s (i + 2) m true).2 + 2) := by unfold end94; rw [hd, hd2, runL.eq_def]; simp only [hm, h92, Bool.and_self, cond_true, cond_false, show i + 1 + 1 = i + 2 by omega]
          exact .inl ⟨i + 2, ⟨by omega, by omega⟩, step, by omega, by rw [he], by rw [he]; simp only [Int.natCast_add, Int.cast_ofNat_Int, show i + 2 + ((end94 s (i + 2) m true).2 : Int) = i + (((end94 s (i + 2) m true).2 : Int) + 2) by omega]⟩
        · have hn : s.drop (i + 1).toNat = [] := drop_nil (by omega)
          have he : end94 s i m true = (false, 2) := by unfold end94; rw [hd, hn, runL.eq_def]; simp only [hm, h92, Bool.and_self, cond_true, cond_false]
          have he2 : end94 s (i + 2) m true = (false, 0) := by unfold end94; rw [drop_nil (by omega)]; rfl
          exact .inl ⟨i + 2, ⟨by omega, by omega⟩, step, by omega, by rw [he, he2], by rw [he, he2]; simp⟩
  · have he : end94 s i m e = (false, 0) := by unfold end94; rw [drop_nil (by omega)]; rfl
    have c1 : decide (i < (s.length : Int)) = false := decide_eq_false hlt
    refine .inr ⟨by rw [he]; rfl, fun k => ?_⟩
    refine (st94 cl pu M ls s i m z e h k).trans ?_
    rw [c1, he]
    simp

theorem ok94 (cl : Caller) (pu : FuncId → Bool) (M : Nat) (hM : 1000000999 < M) (ls : List LI) (τ : List AV) (h : Heap) (k : AEx → List AV → Heap → Am.Fin) (r : Out × Heap) (he : (ls94 τ h).run k = some r) :
    loopN [0, 1, 2, 3, 8] h.length (fun τ h k => evC Tryd.prog cl pu M [0, 1, 2, 3, 8] true (lo 94 0) ls τ h k) M τ h k = some r := by
  unfold ls94 at he
  split at he
  · rename_i s i m e _ _ _ _ z _ _ _ _ _ _ _ _ _ _ _ _ _ _ _ _ _ _ _ _ _ _ _ _ _
    simp only [LT.run] at he
    cases hc : g94 s i with
    | false => rw [hc] at he; cases he
    | true =>
      rw [hc, cond_true] at he
      simp only [g94, Bool.and_eq_true, decide_eq_true_eq] at hc
      rw [loop94 cl pu M hM ls s hc.1.1 i m z e hc.1.2 hc.2 _ rfl h k]
      cases hb : (end94 s i m e).1 with
      | true => rw [hb] at he; exact he
      | false => rw [hb] at he; exact he
  · cases he

def kp94 : FuncId → List Nat := keepOf [(94, [0, 1, 2, 3, 8])]
def LS94 : FuncId → List LI := lsOf [(94, [.spec ls94])]

theorem loops94 {S : Specs} {pu : FuncId → Bool} : LoopsOK Tryd.prog S pu tkM kp94 LS94 := loopsOK_of fun x hx i s hs hl => by
  simp only [List.mem_cons, List.not_mem_nil, or_false] at hx
  subst hx
  cases i with
  | zero =>
    simp only [List.getElem?_cons_zero, Option.some.injEq, LI.spec.injEq] at hs
    subst hs
    intro d τ h k r he
    exact ok94 _ _ _ (by decide) _ τ h k r he
  | succ i => simp at hs

def r94 (s : List UInt8) (i m : Int) (e : Bool) : VT :=
  .ite (g94 s i) (.ite (end94 s i m e).1 (.out (.ret (.int .i64 (i + (end94 s i m e).2 + 1)))) (.out (.pan (.ifc 115 (.int .i64 101))))) .none

/-- token.text.run. -/
def s94 : Am.Spec := pureSpec fun args => match args with
  | [.str s, .int .i64 i, .int .u8 m, .bool e] => r94 s i m e
  | _ => .none

theorem ev94 (d : Nat) (s : List UInt8) (i m : Int) (e : Bool) (k : Out → Heap → Am.Fin) :
    evF Tryd.prog (fun _ => none) (fun _ => false) tkM kp94 LS94 (d + 9) (.fn 94) [.str s, .int .i64 i, .int .u8 m, .bool e] [] (packK k) = (r94 s i m e).run (fun o => k o []) := by kernel_rfl

theorem ok94s : SpecOK Tryd.prog 94 s94 := by
  refine pureSpec_ok (fun args o ho => ?_) fun args o ho => ?_
  · split at ho
    · exact ⟨rfl, VT.closed_get rfl ho⟩
    · cases ho
  · split at ho
    · rename_i s i m e
      exact semCall_of_k tkNoNum noSpecs noPures loops94 9 ((ev94 0 s i m e _).trans (VT.run_get ho _))
    · cases ho

end Go.Proofs
