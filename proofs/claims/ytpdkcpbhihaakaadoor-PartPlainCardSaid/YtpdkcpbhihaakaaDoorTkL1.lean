/- A text without quotes and substitutions is itself, and so is a text in quotes: the law's function answers true. No condition. -/
import Derived.Test.YtpdkcpbhihaakaaDoorTkP2
import Derived.Test.YtpdkcpbhihaakaaDoorTkD
namespace Go.Proofs
open Go Go.Am

theorem sem8 : SemCall Tryd.prog 8 [] [] (.ret (.bool true)) [] := semCall_of_packed tkNoNum tkS2_ok tkPu2_ok noLS 60 ev8

def s8 : Am.Spec := pureSpec fun args => match args with
  | [] => .out (.ret (.bool true))
  | _ => .none
theorem ok8 : SpecOK Tryd.prog 8 s8 := by
  refine pureSpec_ok (fun args o ho => ?_) fun args o ho => ?_
  · split at ho
    · exact ⟨rfl, VT.closed_get rfl ho⟩
    · cases ho
  · split at ho
    · cases ho; exact sem8
    · cases ho

def n39 (c : UInt8) : Bool := !((c.toNat : Int) == 39)

def T3 (a0 a3 a4 a5 : AV) : List AV := [a0, .any, .any, a3, a4, a5, .any, .any, .any, .any, .any, .any, .any, .any, .any, .any, .any, .any, .any, .any, .any, .any, .any, .any, .any, .any, .any, .any, .any, .any, .any, .any, .any, .any, .any, .any, .any, .any, .any, .any, .any, .any, .any, .any, .any, .any, .any, .any, .any, .any, .any, .any, .any, .any, .any, .any, .any, .any, .any, .any, .any, .any, .any, .any, .any, .any, .any, .any, .any, .any, .any]

theorem rd3 (cl : Caller) (pu : FuncId → Bool) (M : Nat) (ls : List LI) (s : List UInt8) (p q : Bool) (i : Int) (h : Heap) (k : AEx → List AV → Heap → Am.Fin) :
    evC Tryd.prog cl pu M [0, 3, 4, 5] true (lo 3 0) ls (T3 (.str s) (.bool p) (.bool q) (.int .i64 i)) h (fun e τ h => k e (keepIn [0, 3, 4, 5] 0 τ) h) =
    (bif decide ((i : Int) < (s.length : Int)) then (bif decide (0 ≤ i ∧ i < (s.length : Int)) then (bif (((s.getD i.toNat 0).toNat : Int) : Int) == 39 then k .normal (T3 (.str s) (.bool false) (.bool false) (.int .i64 (IntKind.i64.wrap (i + 1)))) h else (bif (((s.getD i.toNat 0).toNat : Int) : Int) == 92 then (bif (((s.getD i.toNat 0).toNat : Int) : Int) == 92 then k .normal (T3 (.str s) (.bool false) (.bool q) (.int .i64 (IntKind.i64.wrap (i + 1)))) h else k .normal (T3 (.str s) (.bool p) (.bool q) (.int .i64 (IntKind.i64.wrap (i + 1)))) h) else (bif (((s.getD i.toNat 0).toNat : Int) : Int) == 34 then (bif (((s.getD i.toNat 0).toNat : Int) : Int) == 34 then k .normal (T3 (.str s) (.bool false) (.bool q) (.int .i64 (IntKind.i64.wrap (i + 1)))) h else k .normal (T3 (.str s) (.bool p) (.bool q) (.int .i64 (IntKind.i64.wrap (i + 1)))) h) else (bif (((s.getD i.toNat 0).toNat : Int) : Int) == 36 then (bif (((s.getD i.toNat 0).toNat : Int) : Int) == 36 then k .normal (T3 (.str s) (.bool false) (.bool q) (.int .i64 (IntKind.i64.wrap (i + 1)))) h else k .normal (T3 (.str s) (.bool p) (.bool q) (.int .i64 (IntKind.i64.wrap (i + 1)))) h) else (bif (((s.getD i.toNat 0).toNat : Int) : Int) == 96 then k .normal (T3 (.str s) (.bool false) (.bool q) (.int .i64 (IntKind.i64.wrap (i + 1)))) h else k .normal (T3 (.str s) (.bool p) (.bool q) (.int .i64 (IntKind.i64.wrap (i + 1)))) h))))) else none) else k (.exit 0) (T3 (.str s) (.bool p) (.bool q) (.int .i64 i)) h) := by kernel_rfl

noncomputable def ls3 : LSpec := fun τ h => match τ with
  | .str s :: _ :: _ :: .bool p :: .bool q :: .int .i64 i :: _ :: _ :: _ :: _ :: _ :: _ :: _ :: _ :: _ :: _ :: _ :: _ :: _ :: _ :: _ :: _ :: _ :: _ :: _ :: _ :: _ :: _ :: _ :: _ :: _ :: _ :: _ :: _ :: _ :: _ :: _ :: _ :: _ :: _ :: _ :: _ :: _ :: _ :: _ :: _ :: _ :: _ :: _ :: _ :: _ :: _ :: _ :: _ :: _ :: _ :: _ :: _ :: _ :: _ :: _ :: _ :: _ :: _ :: _ :: _ :: _ :: _ :: _ :: _ :: _ :: [] =>
    .ite (g94 s i) (.done (.exit 0) (T3 (.str s) (.bool (p && (s.drop i.toNat).all p42)) (.bool (q && (s.drop i.toNat).all n39)) (.int .i64 s.length)) h) .none
  | _ => .none

theorem p42_int (c : UInt8) : p42 c = (!((c.toNat : Int) == 39) && !((c.toNat : Int) == 92) && !((c.toNat : Int) == 34) && !((c.toNat : Int) == 36) && !((c.toNat : Int) == 96)) := by
  have key : ∀ n : Fin 256, p42 (UInt8.ofNat n.val) = (!(((UInt8.ofNat n.val).toNat : Int) == 39) && !(((UInt8.ofNat n.val).toNat : Int) == 92) && !(((UInt8.ofNat n.val).toNat : Int) == 34) && !(((UInt8.ofNat n.val).toNat : Int) == 36) && !(((UInt8.ofNat n.val).toNat : Int) == 96)) := by decide +kernel
  have := key ⟨c.toNat, c.toNat_lt⟩
  simpa only [UInt8.ofNat_toNat] using this

theorem loop3 (cl : Caller) (pu : FuncId → Bool) (M : Nat) (hM : 1000000999 < M) (ls : List LI) (s : List UInt8) (hs : fits s = true) (p q : Bool) (i : Int) (h0 : 0 ≤ i) (h1 : i ≤ s.length) (τ : List AV) (hτ : keepIn [0, 3, 4, 5] 0 τ = T3 (.str s) (.bool p) (.bool q) (.int .i64 i)) (h : Heap) (k : AEx → List AV → Heap → Am.Fin) :
    loopN [0, 3, 4, 5] h.length (fun τ h k => evC Tryd.prog cl pu M [0, 3, 4, 5] true (lo 3 0) ls τ h k) M τ h k =
    k (.exit 0) (T3 (.str s) (.bool (p && (s.drop i.toNat).all p42)) (.bool (q && (s.drop i.toNat).all n39)) (.int .i64 s.length)) h := by
  have hl := fits_le hs
  refine loop_plain (α := Bool × Bool × Int) (g := fun τ h k => evC Tryd.prog cl pu M [0, 3, 4, 5] true (lo 3 0) ls τ h k) (h := h) (fun a => T3 (.str s) (.bool a.1) (.bool a.2.1) (.int .i64 a.2.2)) (fun a => (s.length - a.2.2).toNat) (fun _ => .exit 0)
    (fun a => T3 (.str s) (.bool (a.1 && (s.drop a.2.2.toNat).all p42)) (.bool (a.2.1 && (s.drop a.2.2.toNat).all n39)) (.int .i64 s.length))
    (fun a => 0 ≤ a.2.2 ∧ a.2.2 ≤ s.length) ?_ M (p, q, i) τ k ⟨h0, h1⟩ (by show (s.length - i).toNat < M; omega) hτ
  rintro ⟨p, q, i⟩ ⟨h0, h1⟩
  simp only at h0 h1
  by_cases hlt : i < s.length
  · have hd := drop_cons h0 hlt
    have c1 : decide (i < (s.length : Int)) = true := decide_eq_true hlt
    have c2 : decide (0 ≤ i ∧ i < (s.length : Int)) = true := decide_eq_true ⟨h0, hlt⟩
    generalize hc : s.getD i.toNat 0 = c at hd
    refine .inl ⟨(p && p42 c, q && n39 c, i + 1), ⟨by show 0 ≤ i + 1; omega, by show i + 1 ≤ (s.length : Int); omega⟩, fun k => (rd3 cl pu M ls s p q i h k).trans ?_, by show (s.length - (i + 1)).toNat < (s.length - i).toNat; omega, rfl, ?_⟩
    · rw [c1, c2, hc]
      simp only [w64 (x := i + 1) (by omega) (by omega), p42_int, n39, cond_true]
      generalize ((c.toNat : Int) == 39) = b1
      generalize ((c.toNat : Int) == 92) = b2
      generalize ((c.toNat : Int) == 34) = b3
      generalize ((c.toNat : Int) == 36) = b4
      generalize ((c.toNat : Int) == 96) = b5
      cases b1 <;> cases b2 <;> cases b3 <;> cases b4 <;> cases b5 <;> simp
    · simp only [hd, List.all_cons, Bool.and_assoc]
  · have he : s.drop i.toNat = [] := drop_nil (by omega)
    have c1 : decide (i < (s.length : Int)) = false := decide_eq_false hlt
    refine .inr ⟨rfl, fun k => (rd3 cl pu M ls s p q i h k).trans ?_⟩
    have hi : i = s.length := by omega
    subst hi
    rw [c1]
    simp only [he, List.all_nil, Bool.and_true, cond_false]

theorem okl3 (cl : Caller) (pu : FuncId → Bool) (M : Nat) (hM : 1000000999 < M) (ls : List LI) (τ : List AV) (h : Heap) (k : AEx → List AV → Heap → Am.Fin) (r : Out × Heap) (he : (ls3 τ h).run k = some r) :
    loopN [0, 3, 4, 5] h.length (fun τ h k => evC Tryd.prog cl pu M [0, 3, 4, 5] true (lo 3 0) ls τ h k) M τ h k = some r := by
  unfold ls3 at he
  split at he
  · rename_i s _ _ p q i _ _ _ _ _ _ _ _ _ _ _ _ _ _ _ _ _ _ _ _ _ _ _ _ _ _ _ _ _ _ _ _ _ _ _ _ _ _ _ _ _ _ _ _ _ _ _ _ _ _ _ _ _ _ _ _ _ _ _ _ _ _ _ _ _
    simp only [LT.run] at he
    cases hc : g94 s i with
    | false => rw [hc] at he; cases he
    | true =>
      rw [hc, cond_true] at he
      simp only [g94, Bool.and_eq_true, decide_eq_true_eq] at hc
      refine Eq.trans (loop3 cl pu M hM ls s hc.1.1 p q i hc.1.2 hc.2 _ ?_ h k) he
      rfl
  · cases he

def kp3 : FuncId → List Nat := keepOf [(3, [0, 3, 4, 5])]
noncomputable def LS3 : FuncId → List LI := lsOf [(3, [.spec ls3])]
theorem loops3 {S : Specs} {pu : FuncId → Bool} : LoopsOK Tryd.prog S pu tkM kp3 LS3 := loopsOK_of fun x hx i s hs hl => by
  simp only [List.mem_cons, List.not_mem_nil, or_false] at hx
  subst hx
  cases i with
  | zero =>
    simp only [List.getElem?_cons_zero, Option.some.injEq, LI.spec.injEq] at hs
    subst hs
    intro d τ h k r he
    exact okl3 _ _ _ (by decide) _ τ h k r he
  | succ i => simp at hs

def S3 : List (FuncId × Am.Spec) := [(8, s8), (9, s9)]
theorem S3_ok : SpecsOK Tryd.prog (specsOf S3) := specsOf_ok fun x hx => by
  simp only [S3, List.mem_cons, List.not_mem_nil, or_false] at hx
  rcases hx with rfl | rfl
  · exact ok8
  · exact ok9

theorem ev3 (d : Nat) (s : List UInt8) (k : Out → Heap → Am.Fin) :
    evF Tryd.prog (specsOf S3) (fun _ => false) tkM kp3 LS3 (d + 20) (.fn 3) [.str s] [] (packK k) =
    (bif decide (((s.length : Int) : Int) > 3000) then k (.ret (.bool true)) [] else (bif (s : List UInt8) == [] then k (.ret (.bool true)) [] else (bif g94 s 0 then (bif (true && (s.drop 0).all p42) then (bif okP s then (bif !(((0 : Int) == 0) && (((s : List UInt8) == s) && ((([] : List UInt8) == []) && ((([] : List UInt8) == []) && ((([] : List UInt8) == []) && ((false == false) && true)))))) then k (.ret (.bool false)) [] else (bif (true && (s.drop 0).all n39) then (bif decide ([39].length + s.length ≤ 9223372036854775807) then (bif decide (([39] ++ s).length + [39].length ≤ 9223372036854775807) then (bif okP (([39] ++ s) ++ [39]) then (bif !(((0 : Int) == 0) && (((([39] ++ s) ++ [39] : List UInt8) == s) && ((([] : List UInt8) == []) && ((([] : List UInt8) == []) && ((([] : List UInt8) == []) && ((false == true) && true)))))) then k (.ret (.bool false)) [] else k (.ret (.bool true)) []) else (bif okQ (([39] ++ s) ++ [39]) then (bif !(((0 : Int) == 0) && (((innerQ (([39] ++ s) ++ [39]) : List UInt8) == s) && ((([] : List UInt8) == []) && ((([] : List UInt8) == []) && ((([] : List UInt8) == []) && ((true == true) && true)))))) then k (.ret (.bool false)) [] else k (.ret (.bool true)) []) else none)) else none) else none) else k (.ret (.bool true)) [])) else (bif okQ s then (bif !(((0 : Int) == 0) && (((innerQ s : List UInt8) == s) && ((([] : List UInt8) == []) && ((([] : List UInt8) == []) && ((([] : List UInt8) == []) && ((true == false) && true)))))) then k (.ret (.bool false)) [] else (bif (true && (s.drop 0).all n39) then (bif decide ([39].length + s.length ≤ 9223372036854775807) then (bif decide (([39] ++ s).length + [39].length ≤ 9223372036854775807) then (bif okP (([39] ++ s) ++ [39]) then (bif !(((0 : Int) == 0) && (((([39] ++ s) ++ [39] : List UInt8) == s) && ((([] : List UInt8) == []) && ((([] : List UInt8) == []) && ((([] : List UInt8) == []) && ((false == true) && true)))))) then k (.ret (.bool false)) [] else k (.ret (.bool true)) []) else (bif okQ (([39] ++ s) ++ [39]) then (bif !(((0 : Int) == 0) && (((innerQ (([39] ++ s) ++ [39]) : List UInt8) == s) && ((([] : List UInt8) == []) && ((([] : List UInt8) == []) && ((([] : List UInt8) == []) && ((true == true) && true)))))) then k (.ret (.bool false)) [] else k (.ret (.bool true)) []) else none)) else none) else none) else k (.ret (.bool true)) [])) else none)) else (bif (true && (s.drop 0).all n39) then (bif decide ([39].length + s.length ≤ 9223372036854775807) then (bif decide (([39] ++ s).length + [39].length ≤ 9223372036854775807) then (bif okP (([39] ++ s) ++ [39]) then (bif !(((0 : Int) == 0) && (((([39] ++ s) ++ [39] : List UInt8) == s) && ((([] : List UInt8) == []) && ((([] : List UInt8) == []) && ((([] : List UInt8) == []) && ((false == true) && true)))))) then k (.ret (.bool false)) [] else k (.ret (.bool true)) []) else (bif okQ (([39] ++ s) ++ [39]) then (bif !(((0 : Int) == 0) && (((innerQ (([39] ++ s) ++ [39]) : List UInt8) == s) && ((([] : List UInt8) == []) && ((([] : List UInt8) == []) && ((([] : List UInt8) == []) && ((true == true) && true)))))) then k (.ret (.bool false)) [] else k (.ret (.bool true)) []) else none)) else none) else none) else k (.ret (.bool true)) [])) else none))) := by kernel_rfl

theorem runL_q : ∀ s : List UInt8, s.all n39 = true → runL 39 false (s ++ [39]) = (true, s.length)
  | [], _ => by decide
  | c :: s, h => by
    simp only [List.all_cons, Bool.and_eq_true, n39, Bool.not_eq_true'] at h
    rw [List.cons_append, runL.eq_def]
    simp only [h.1, Bool.false_and, cond_false]
    rw [runL_q s h.2]
    rfl

theorem quoted (s : List UInt8) (hl : s.length ≤ 3000) (h : s.all n39 = true) : okP (([39] ++ s) ++ [39]) = false ∧ okQ (([39] ++ s) ++ [39]) = true ∧ innerQ (([39] ++ s) ++ [39]) = s := by
  have e : ([39] ++ s) ++ [39] = 39 :: (s ++ [39]) := rfl
  have he : end94 (39 :: (s ++ [39])) 1 39 false = (true, s.length) := runL_q s h
  rw [e]
  have hf : fits (39 :: (s ++ [39])) = true := Nat.ble_eq.mpr (by simp; omega)
  refine ⟨?_, ?_, ?_⟩
  · simp only [okP, List.all_cons]
    rw [show p42 39 = false by decide]
    simp
  · unfold okQ q42
    rw [he]
    have h1 : inText (39 :: (s ++ [39])) 0 = true := by simp only [inText, hf, Bool.true_and, Bool.and_eq_true, decide_eq_true_eq]; exact ⟨by omega, by simp; omega⟩
    rw [h1, show is39 (39 :: (s ++ [39])) 0 = true by rfl]
    simp
  · unfold innerQ
    rw [he]
    simp

theorem law3 (s : List UInt8) : SemCall Tryd.prog 3 [.str s] [] (.ret (.bool true)) [] := by
  refine semCall_of_k tkNoNum S3_ok noPures loops3 20 ((ev3 0 s _).trans ?_)
  by_cases hl : s.length ≤ 3000
  · have c0 : decide (((s.length : Int) : Int) > 3000) = false := decide_eq_false (by omega)
    have c2 : decide ([39].length + s.length ≤ 9223372036854775807) = true := decide_eq_true (by simp; omega)
    have c3 : decide (([39] ++ s).length + [39].length ≤ 9223372036854775807) = true := decide_eq_true (by simp; omega)
    have hf : fits s = true := Nat.ble_eq.mpr (by omega)
    have hg : g94 s 0 = true := by simp only [g94, hf, Bool.true_and, Bool.and_eq_true, decide_eq_true_eq]; omega
    cases he : ((s : List UInt8) == []) with
    | true => simp only [c0, cond_true, cond_false]
    | false =>
      have hne : s.isEmpty = false := by cases s with | nil => cases he | cons c s => rfl
      simp only [c0, c2, c3, hg, cond_true, cond_false, List.drop_zero, Bool.true_and]
      cases hn : s.all n39 with
      | false =>
        cases hp : s.all p42 with
        | false => rfl
        | true =>
          have hok : okP s = true := by simp only [okP, hf, hne, hp]; rfl
          simp only [hok, cond_true, cond_false, beq_self_eq_true, Bool.and_self, Bool.not_true]
      | true =>
        obtain ⟨q1, q2, q3⟩ := quoted s hl hn
        simp only [q1, q2, q3, cond_true, cond_false, beq_self_eq_true, Bool.and_self, Bool.not_true]
        cases hp : s.all p42 with
        | false => rfl
        | true =>
          have hok : okP s = true := by simp only [okP, hf, hne, hp]; rfl
          simp only [hok, cond_true]
  · have c0 : decide (((s.length : Int) : Int) > 3000) = true := decide_eq_true (by omega)
    rw [c0]; rfl

end Go.Proofs
