/- The small functions together; those that leave memory alone. No condition. -/
import Derived.Test.YtpdkcpbhihaakaaDoorTkB
namespace Go.Proofs
open Go Go.Am

/-- A function that hands something back and leaves memory alone. -/
def Leaves (s : Am.Spec) : Prop := ∀ args h out h', (s args h).get = some (out, h') → h' = h ∧ ∃ v, out = .ret v

theorem leaves35 : Leaves s35 := fun args h out h' hs => by
  unfold s35 at hs; split at hs
  · cases hs; exact ⟨rfl, _, rfl⟩
  · cases hs
theorem leaves61 : Leaves s61 := fun args h out h' hs => by
  unfold s61 at hs; split at hs
  · cases hs; exact ⟨rfl, _, rfl⟩
  · cases hs
theorem leaves87 : Leaves s87 := fun args h out h' hs => by
  unfold s87 at hs; split at hs
  · cases hs; exact ⟨rfl, _, rfl⟩
  · cases hs
theorem leaves123 : Leaves s123 := fun args h out h' hs => by
  unfold s123 at hs; split at hs
  · cases hs; exact ⟨rfl, _, rfl⟩
  · cases hs
theorem leaves33 : Leaves s33 := fun args h out h' hs => by
  unfold s33 at hs; split at hs
  · cases hs; exact ⟨rfl, _, rfl⟩
  · cases hs

def tkS2 : List (FuncId × Am.Spec) := [(35, s35), (61, s61), (87, s87), (123, s123), (33, s33)]
def tkPu2 : FuncId → Bool := fun f => [35, 61, 87, 123, 33].any fun g => Nat.beq f g

theorem tkS2_ok : SpecsOK Tryd.prog (specsOf tkS2) := specsOf_ok fun x hx => by
  simp only [tkS2, List.mem_cons, List.not_mem_nil, or_false] at hx
  rcases hx with rfl | rfl | rfl | rfl | rfl
  · exact ok35
  · exact ok61
  · exact ok87
  · exact ok123
  · exact ok33

theorem tkPu2_ok : PuresOK (specsOf tkS2) tkPu2 := fun f hf => by
  simp only [tkPu2, List.any_cons, List.any_nil, Bool.or_false, Bool.or_eq_true] at hf
  rcases hf with hf | hf | hf | hf | hf <;> cases Nat.eq_of_beq_eq_true hf
  · exact ⟨s35, rfl, leaves35⟩
  · exact ⟨s61, rfl, leaves61⟩
  · exact ⟨s87, rfl, leaves87⟩
  · exact ⟨s123, rfl, leaves123⟩
  · exact ⟨s33, rfl, leaves33⟩

end Go.Proofs
