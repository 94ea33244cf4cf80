/- Small functions of bytes and texts, from their evaluation. No condition. -/
import Derived.Test.YtpdkcpbhihaakaaDoorTkA
namespace Go.Proofs
open Go Go.Am

noncomputable abbrev ev1 (f : FuncId) (args : List AV) (h : Heap) (k : Out → Heap → Am.Fin) : Am.Fin := evF Tryd.prog (specsOf tkS1) tkPu1 tkM tkKeep tkLS 20 (.fn f) args h k

/-- chars.Digit. -/
def s87 : Am.Spec := fun args h => match args with
  | [.int .u8 c] => .done (.ret (.bool (decide (IntKind.u8.wrap (c - 48) < 10)))) h
  | _ => .none

theorem ev87 (c : Int) (h : Heap) (k : Out → Heap → Am.Fin) : ev1 87 [.int .u8 c] h k = k (.ret (.bool (decide (IntKind.u8.wrap (c - 48) < 10)))) h := by kernel_rfl

theorem ok87 : SpecOK Tryd.prog 87 s87 := specOK_of_eval tkNoNum tkS1_ok tkPu1_ok noLS 20 fun args h out h' hs => by
  unfold s87 at hs
  split at hs
  · cases hs; exact ev87 _ _ _
  · cases hs

def isBegin (c : Int) : Bool := (decide ((65 : Int) ≤ c) && decide (c ≤ 90)) || ((decide ((97 : Int) ≤ c) && decide (c ≤ 122)) || c == 95)

/-- chars.Begins. -/
def s123 : Am.Spec := fun args h => match args with
  | [.int .u8 c] => .done (.ret (.bool (isBegin c))) h
  | _ => .none

theorem ev123 (c : Int) (h : Heap) (k : Out → Heap → Am.Fin) : ev1 123 [.int .u8 c] h k =
    (bif decide ((65 : Int) ≤ c) then (bif decide ((c : Int) ≤ 90) then k (.ret (.bool true)) h else (bif decide ((97 : Int) ≤ c) then (bif decide ((c : Int) ≤ 122) then k (.ret (.bool true)) h else k (.ret (.bool ((c : Int) == 95))) h) else k (.ret (.bool ((c : Int) == 95))) h)) else (bif decide ((97 : Int) ≤ c) then (bif decide ((c : Int) ≤ 122) then k (.ret (.bool true)) h else k (.ret (.bool ((c : Int) == 95))) h) else k (.ret (.bool ((c : Int) == 95))) h)) := by kernel_rfl

theorem ok123 : SpecOK Tryd.prog 123 s123 := specOK_of_eval tkNoNum tkS1_ok tkPu1_ok noLS 20 fun args h out h' hs => by
  unfold s123 at hs
  split at hs
  · rename_i c
    cases hs
    refine (ev123 c _ _).trans ?_
    unfold isBegin
    generalize decide ((65 : Int) ≤ c) = b1
    generalize decide (c ≤ (90 : Int)) = b2
    generalize decide ((97 : Int) ≤ c) = b3
    generalize decide (c ≤ (122 : Int)) = b4
    cases b1 <;> cases b2 <;> cases b3 <;> cases b4 <;> rfl
  · cases hs

def hasPre (s t : List UInt8) : Bool := decide ((t.length : Int) ≤ s.length) && (s.take t.length == t)

/-- strings.HasPrefix. -/
def s33 : Am.Spec := fun args h => match args with
  | [.str s, .str t] => .done (.ret (.bool (hasPre s t))) h
  | _ => .none

theorem ev33 (s t : List UInt8) (h : Heap) (k : Out → Heap → Am.Fin) : ev1 33 [.str s, .str t] h k =
    (bif decide (((s.length : Int) : Int) ≥ (t.length : Int)) then (bif decide ((0 : Int) ≤ 0 ∧ (0 : Int) ≤ (t.length : Int) ∧ (t.length : Int) ≤ (s.length : Int)) then k (.ret (.bool (((s.drop 0).take ((t.length : Int).toNat - 0) : List UInt8) == t))) h else none) else k (.ret (.bool false)) h) := by kernel_rfl

theorem ok33 : SpecOK Tryd.prog 33 s33 := specOK_of_eval tkNoNum tkS1_ok tkPu1_ok noLS 20 fun args h out h' hs => by
  unfold s33 at hs
  split at hs
  · rename_i s t
    cases hs
    refine (ev33 s t _ _).trans ?_
    unfold hasPre
    by_cases hc : (t.length : Int) ≤ s.length
    · have h1 : decide (((s.length : Int) : Int) ≥ (t.length : Int)) = true := by simpa using hc
      have h2 : decide ((0 : Int) ≤ 0 ∧ (0 : Int) ≤ (t.length : Int) ∧ (t.length : Int) ≤ (s.length : Int)) = true := by simp; omega
      rw [h1, h2]
      simp [hc]
    · have h1 : decide (((s.length : Int) : Int) ≥ (t.length : Int)) = false := by simpa using hc
      rw [h1]
      simp [hc]
  · cases hs

end Go.Proofs
