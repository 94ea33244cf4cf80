/- The smallest functions of the program, from their evaluation. No condition. -/
import Derived.Test.YtpdkcpbhihaakaaDoorAmSpec
import Derived.Test.YtpdkcpbhihaakaaDoorProg
import Derived.KernelRfl
namespace Go.Proofs
open Go Go.Am

def tkM : Nat := 1099511627776
def tkKeep : FuncId → List Nat := fun _ => []
def tkLS : FuncId → List LI := fun _ => []

theorem tkNoNum : NoNum Tryd.prog := noNum_of (by kernel_rfl)

/-- strings.IndexByte. -/
def s35 : Am.Spec := fun args h => match args with
  | [.str s, .int .u8 c] => .done (.ret (.int .i64 (Lib.indexByte s c.toNat.toUInt8))) h
  | _ => .none

theorem ev35 (s : List UInt8) (c : Int) (h : Heap) (k : Out → Heap → Am.Fin) : evF Tryd.prog (fun _ => none) (fun _ => false) tkM tkKeep tkLS 3 (.fn 35) [.str s, .int .u8 c] h k = k (.ret (.int .i64 (Lib.indexByte s c.toNat.toUInt8))) h := by kernel_rfl

theorem ok35 : SpecOK Tryd.prog 35 s35 := specOK_of_eval tkNoNum noSpecs noPures noLS 3 fun args h out h' hs => by
  unfold s35 at hs
  split at hs
  · cases hs; exact ev35 _ _ _ _
  · cases hs

/-- (part.reader).quoted. -/
def s61 : Am.Spec := fun args h => match args with
  | [.agg [.int .i64 m]] => .done (.ret (.bool (m != 0))) h
  | _ => .none

theorem ev61 (m : Int) : ∃ g, evF Tryd.prog (fun _ => none) (fun _ => false) tkM tkKeep tkLS 3 (.fn 61) [.agg [.int .i64 m]] [] (fun o h => some (o, h)) = some (.ret (.bool (m != 0)), g) ∧
    pack 0 [] (Out.ret (.bool (m != 0))).vals g (fun f _ h => some ((Out.ret (.bool (m != 0))).map f, h)) = some (.ret (.bool (m != 0)), []) := ⟨[.mem 49 1 [.avs [.int .i64 m]] true], by kernel_rfl, by kernel_rfl⟩

theorem ok61 : SpecOK Tryd.prog 61 s61 := specOK_of_sem fun args h out h' hs => by
  unfold s61 at hs
  split at hs
  · rename_i m
    cases hs
    obtain ⟨g, h1, h2⟩ := ev61 m
    exact ((semCall_of_eval tkNoNum noSpecs noPures noLS 3 h1).packed h2).neutral ⟨⟨trivial, trivial⟩, trivial⟩ (fun _ => rfl) h
  · cases hs

def tkS1 : List (FuncId × Am.Spec) := [(35, s35), (61, s61)]
def tkPu1 : FuncId → Bool := fun f => Nat.beq f 35 || Nat.beq f 61

theorem tkS1_ok : SpecsOK Tryd.prog (specsOf tkS1) := specsOf_ok fun x hx => by
  simp only [tkS1, List.mem_cons, List.not_mem_nil, or_false] at hx
  rcases hx with rfl | rfl
  · exact ok35
  · exact ok61

theorem tkPu1_ok : PuresOK (specsOf tkS1) tkPu1 := fun f hf => by
  simp only [tkPu1, Bool.or_eq_true] at hf
  rcases hf with hf | hf
  · cases Nat.eq_of_beq_eq_true hf
    refine ⟨s35, rfl, fun args h out h' hs => ?_⟩
    unfold s35 at hs
    split at hs
    · cases hs; exact ⟨rfl, _, rfl⟩
    · cases hs
  · cases Nat.eq_of_beq_eq_true hf
    refine ⟨s61, rfl, fun args h out h' hs => ?_⟩
    unfold s61 at hs
    split at hs
    · cases hs; exact ⟨rfl, _, rfl⟩
    · cases hs

end Go.Proofs
