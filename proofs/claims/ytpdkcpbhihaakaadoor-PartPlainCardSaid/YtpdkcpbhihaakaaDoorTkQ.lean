/- token.Skip at a quote. The condition: the text is not too long. -/
import Derived.Test.YtpdkcpbhihaakaaDoorTkRun
namespace Go.Proofs
open Go Go.Am

def kpA : FuncId → List Nat := fun _ => []
def LS0 : FuncId → List LI := fun _ => []

def S59 : List (FuncId × Am.Spec) := [(94, s94), (95, noSpec), (97, noSpec), (99, noSpec), (33, s33)]
theorem S59_ok : SpecsOK Tryd.prog (specsOf S59) := specsOf_ok fun x hx => by
  simp only [S59, List.mem_cons, List.not_mem_nil, or_false] at hx
  rcases hx with rfl | rfl | rfl | rfl | rfl
  · exact ok94s
  · exact noSpec_ok
  · exact noSpec_ok
  · exact noSpec_ok
  · exact ok33

theorem ev59 (d : Nat) (s : List UInt8) (a dp : Int) (k : Out → Heap → Am.Fin) :
    evF Tryd.prog (specsOf S59) (fun _ => false) tkM kpA LS0 (d + 9) (.fn 59) [.str s, .int .i64 a, .int .i64 dp] [] (packK k) =
    (bif decide ((dp : Int) > 64) then k (.pan (.ifc 115 (.int .i64 104))) [] else (bif decide ((0 : Int) ≤ a ∧ a ≤ (s.length : Int) ∧ (s.length : Int) ≤ (s.length : Int)) then (bif decide (0 ≤ (0 : Int) ∧ (0 : Int) < (((s.drop a.toNat).take ((s.length : Int).toNat - a.toNat)).length : Int)) then (bif (((((s.drop a.toNat).take ((s.length : Int).toNat - a.toNat)).getD 0 0).toNat : Int) : Int) == 92 then k (.ret (.int .i64 (if (s.length : Int) < (IntKind.i64.wrap (a + 2)) then (s.length : Int) else (IntKind.i64.wrap (a + 2))))) [] else (bif decide (0 ≤ (0 : Int) ∧ (0 : Int) < (((s.drop a.toNat).take ((s.length : Int).toNat - a.toNat)).length : Int)) then (bif (((((s.drop a.toNat).take ((s.length : Int).toNat - a.toNat)).getD 0 0).toNat : Int) : Int) == 39 then (bif g94 s (IntKind.i64.wrap (a + 1)) then (bif (end94 s (IntKind.i64.wrap (a + 1)) 39 false).1 then k (.ret (.int .i64 ((IntKind.i64.wrap (a + 1)) + ((end94 s (IntKind.i64.wrap (a + 1)) 39 false).2 : Int) + 1))) [] else k (.pan (.ifc 115 (.int .i64 101))) []) else none) else (bif decide (0 ≤ (0 : Int) ∧ (0 : Int) < (((s.drop a.toNat).take ((s.length : Int).toNat - a.toNat)).length : Int)) then (bif (((((s.drop a.toNat).take ((s.length : Int).toNat - a.toNat)).getD 0 0).toNat : Int) : Int) == 96 then (bif g94 s (IntKind.i64.wrap (a + 1)) then (bif (end94 s (IntKind.i64.wrap (a + 1)) 96 true).1 then k (.ret (.int .i64 ((IntKind.i64.wrap (a + 1)) + ((end94 s (IntKind.i64.wrap (a + 1)) 96 true).2 : Int) + 1))) [] else k (.pan (.ifc 115 (.int .i64 101))) []) else none) else (bif decide (0 ≤ (0 : Int) ∧ (0 : Int) < (((s.drop a.toNat).take ((s.length : Int).toNat - a.toNat)).length : Int)) then (bif (((((s.drop a.toNat).take ((s.length : Int).toNat - a.toNat)).getD 0 0).toNat : Int) : Int) == 34 then none else (bif hasPre ((s.drop a.toNat).take ((s.length : Int).toNat - a.toNat)) [36, 40] then none else (bif hasPre ((s.drop a.toNat).take ((s.length : Int).toNat - a.toNat)) [36, 123] then none else k (.ret (.int .i64 (IntKind.i64.wrap (a + 1)))) []))) else none)) else none)) else none)) else none) else none)) := by kernel_rfl

def is39 (s : List UInt8) (a : Int) : Bool := (((s.getD a.toNat 0).toNat : Int) == 39)
def inText (s : List UInt8) (a : Int) : Bool := fits s && decide (0 ≤ a) && decide (a < (s.length : Int))

def r59 (s : List UInt8) (a dp : Int) : VT :=
  .ite (inText s a && decide (dp ≤ 64)) (.ite (is39 s a) (.ite (end94 s (a + 1) 39 false).1 (.out (.ret (.int .i64 (a + (end94 s (a + 1) 39 false).2 + 2)))) (.out (.pan (.ifc 115 (.int .i64 101))))) .none) .none

theorem inText_inv {s : List UInt8} {a : Int} (h : inText s a = true) : s.length ≤ 1000000000 ∧ 0 ≤ a ∧ a < s.length := by
  simp only [inText, Bool.and_eq_true, decide_eq_true_eq] at h
  exact ⟨fits_le h.1.1, h.1.2, h.2⟩

theorem ev59q (d : Nat) (s : List UInt8) (a dp : Int) (o : Out) (ho : (r59 s a dp).get = some o) (k : Out → Heap → Am.Fin) :
    evF Tryd.prog (specsOf S59) (fun _ => false) tkM kpA LS0 (d + 9) (.fn 59) [.str s, .int .i64 a, .int .i64 dp] [] (packK k) = k o [] := by
  rw [ev59, ← VT.run_get ho (fun o => k o [])]
  unfold r59 at ho ⊢
  cases hg : (inText s a && decide (dp ≤ 64)) with
  | false => rw [hg] at ho; cases ho
  | true =>
    cases h39 : is39 s a with
    | false => rw [hg, h39] at ho; cases ho
    | true =>
      simp only [Bool.and_eq_true, decide_eq_true_eq] at hg
      obtain ⟨hin, hd⟩ := hg
      obtain ⟨hl, h0, h1⟩ := inText_inv hin
      have hfit : fits s = true := by simp only [inText, Bool.and_eq_true] at hin; exact hin.1.1
      have hu : (s.drop a.toNat).take ((s.length : Int).toNat - a.toNat) = s.drop a.toNat := List.take_of_length_le (by simp)
      have hg0 : (s.drop a.toNat).getD 0 0 = s.getD a.toNat 0 := by simp [List.getD, List.getElem?_drop]
      have e1 : decide ((dp : Int) > 64) = false := decide_eq_false (by omega)
      have e2 : decide ((0 : Int) ≤ a ∧ a ≤ (s.length : Int) ∧ (s.length : Int) ≤ (s.length : Int)) = true := decide_eq_true (by omega)
      have e3 : decide (0 ≤ (0 : Int) ∧ (0 : Int) < ((s.drop a.toNat).length : Int)) = true := decide_eq_true (by simp; omega)
      have hb : (((s.getD a.toNat 0).toNat : Int) == 39) = true := h39
      have hv : ((s.getD a.toNat 0).toNat : Int) = 39 := by simpa using hb
      have e4 : (((s.getD a.toNat 0).toNat : Int) == 92) = false := by rw [hv]; rfl
      have e5 : g94 s (a + 1) = true := by simp only [g94, hfit, Bool.true_and, Bool.and_eq_true, decide_eq_true_eq]; omega
      simp only [hu, hg0, e1, e2, e3, e4, hb, cond_true, cond_false, w64 (x := a + 1) (by omega) (by omega), e5, VT.run]
      rw [show a + 1 + ((end94 s (a + 1) 39 false).2 : Int) + 1 = a + ((end94 s (a + 1) 39 false).2 : Int) + 2 by omega]

/-- token.text.skip at a quote. -/
def s59 : Am.Spec := pureSpec fun args => match args with
  | [.str s, .int .i64 a, .int .i64 dp] => r59 s a dp
  | _ => .none

theorem ok59 : SpecOK Tryd.prog 59 s59 := by
  refine pureSpec_ok (fun args o ho => ?_) fun args o ho => ?_
  · split at ho
    · exact ⟨rfl, VT.closed_get rfl ho⟩
    · cases ho
  · split at ho
    · rename_i s a dp
      exact semCall_of_k tkNoNum S59_ok noPures noLS 9 (ev59q 0 s a dp o ho _)
    · cases ho

def S36 : List (FuncId × Am.Spec) := [(59, s59)]
theorem S36_ok : SpecsOK Tryd.prog (specsOf S36) := specsOf_ok fun x hx => by
  simp only [S36, List.mem_cons, List.not_mem_nil, or_false] at hx
  subst hx
  exact ok59

theorem ev36 (d : Nat) (s : List UInt8) (a : Int) (k : Out → Heap → Am.Fin) :
    evF Tryd.prog (specsOf S36) (fun _ => false) tkM kpA LS0 (d + 9) (.fn 36) [.str s, .int .i64 a] [] (packK k) =
    (bif decide (a < 0) then k (.ret (.tup [.int .i64 a, .int .i64 101])) [] else (bif decide (a ≥ (s.length : Int)) then k (.ret (.tup [.int .i64 a, .int .i64 101])) [] else
      (bif (inText s a && decide ((1 : Int) ≤ 64)) then (bif is39 s a then (bif (end94 s (a + 1) 39 false).1 then k (.ret (.tup [.int .i64 (a + (end94 s (a + 1) 39 false).2 + 2), .int .i64 0])) [] else k (.ret (.tup [.int .i64 a, .int .i64 101])) []) else none) else none))) := by kernel_rfl

end Go.Proofs
