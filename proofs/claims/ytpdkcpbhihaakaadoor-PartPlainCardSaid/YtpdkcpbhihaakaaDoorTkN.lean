/- part.reader.next at a plain byte, and at a quote. The condition: the text is not too long. -/
import Derived.Test.YtpdkcpbhihaakaaDoorTkQ
namespace Go.Proofs
open Go Go.Am

/-- token.Skip at a quote. -/
def r36 (s : List UInt8) : VT := .ite (inText s 0) (.ite (is39 s 0) (.ite (end94 s 1 39 false).1 (.out (.ret (.tup [.int .i64 ((end94 s 1 39 false).2 + 2), .int .i64 0]))) (.out (.ret (.tup [.int .i64 0, .int .i64 101])))) .none) .none
def s36 : Am.Spec := pureSpec fun args => match args with
  | [.str s, .int .i64 0] => r36 s
  | _ => .none

theorem ok36 : SpecOK Tryd.prog 36 s36 := by
  refine pureSpec_ok (fun args o ho => ?_) fun args o ho => ?_
  · split at ho
    · exact ⟨rfl, VT.closed_get rfl ho⟩
    · cases ho
  · split at ho
    · rename_i s
      refine semCall_of_k tkNoNum S36_ok noPures noLS 9 ((ev36 0 s 0 _).trans ?_)
      rw [← VT.run_get ho (fun o => some (o, []))]
      unfold r36 at ho ⊢
      cases hg : inText s 0 with
      | false => rw [hg] at ho; cases ho
      | true =>
        obtain ⟨hl, h0, h1⟩ := inText_inv hg
        have e1 : decide ((0 : Int) < 0) = false := by decide
        have e2 : decide ((0 : Int) ≥ (s.length : Int)) = false := decide_eq_false (by omega)
        have e3 : decide ((1 : Int) ≤ 64) = true := by decide
        simp only [e1, e2, e3, hg, cond_true, cond_false, Bool.and_self, VT.run, Int.zero_add]
    · cases ho

def nP : FuncId → Bool := fun f => Nat.beq f 61 || Nat.beq f 35
def S42 : List (FuncId × Am.Spec) := [(35, s35), (61, s61), (36, s36), (62, noSpec), (64, noSpec), (65, noSpec), (9, noSpec), (39, noSpec)]
theorem S42_ok : SpecsOK Tryd.prog (specsOf S42) := specsOf_ok fun x hx => by
  simp only [S42, List.mem_cons, List.not_mem_nil, or_false] at hx
  rcases hx with rfl | rfl | rfl | rfl | rfl | rfl | rfl | rfl
  · exact ok35
  · exact ok61
  · exact ok36
  · exact noSpec_ok
  · exact noSpec_ok
  · exact noSpec_ok
  · exact noSpec_ok
  · exact noSpec_ok
theorem nP_ok : PuresOK (specsOf S42) nP := fun f hf => by
  simp only [nP, Bool.or_eq_true] at hf
  rcases hf with hf | hf
  · cases Nat.eq_of_beq_eq_true hf; exact ⟨s61, rfl, leaves61⟩
  · cases Nat.eq_of_beq_eq_true hf; exact ⟨s35, rfl, leaves35⟩

def SP : List (FuncId × Am.Spec) := [(35, s35), (61, s61), (36, noSpec), (62, noSpec), (64, noSpec), (65, noSpec), (9, noSpec), (39, noSpec)]
theorem SP_ok : SpecsOK Tryd.prog (specsOf SP) := specsOf_ok fun x hx => by
  simp only [SP, List.mem_cons, List.not_mem_nil, or_false] at hx
  rcases hx with rfl | rfl | rfl | rfl | rfl | rfl | rfl | rfl
  · exact ok35
  · exact ok61
  · exact noSpec_ok
  · exact noSpec_ok
  · exact noSpec_ok
  · exact noSpec_ok
  · exact noSpec_ok
  · exact noSpec_ok
theorem nPP_ok : PuresOK (specsOf SP) nP := fun f hf => by
  simp only [nP, Bool.or_eq_true] at hf
  rcases hf with hf | hf
  · cases Nat.eq_of_beq_eq_true hf; exact ⟨s61, rfl, leaves61⟩
  · cases Nat.eq_of_beq_eq_true hf; exact ⟨s35, rfl, leaves35⟩

theorem ev42p (d : Nat) (c : UInt8) (w : List UInt8) (k : Out → Heap → Am.Fin) :
    evF Tryd.prog (specsOf SP) nP tkM kpA LS0 (d + 9) (.fn 42) [.agg [.int .i64 0], .str (c :: w)] [] (packK k) =
    (bif decide (0 ≤ (0 : Int) ∧ (0 : Int) < ((c :: w).length : Int)) then (bif ((c.toNat : Int) : Int) == 92 then (bif decide ((Lib.indexByte [36, 96] (c.toNat : Int).toNat.toUInt8 : Int) < 0) then (bif decide ((Lib.indexByte [39, 34, 92] (c.toNat : Int).toNat.toUInt8 : Int) < 0) then (bif decide ((0 : Int) ≤ 0 ∧ (0 : Int) ≤ 1 ∧ (1 : Int) ≤ ((c :: w).length : Int)) then k (.ret (.tup [(.agg [(.slc 0 0 1), (.int .i64 1)]), (.int .i64 0)])) [.mem 29 1 [.ints .i64 [0], .strs [((c :: w).drop 0).take (1 - 0)], .strs [[]], .strs [[]], .strs [[]], .bools [false]] true] else none) else none) else none) else (bif decide ((Lib.indexByte [36, 96] (c.toNat : Int).toNat.toUInt8 : Int) < 0) then (bif decide ((Lib.indexByte [39, 34, 92] (c.toNat : Int).toNat.toUInt8 : Int) < 0) then (bif decide ((0 : Int) ≤ 0 ∧ (0 : Int) ≤ 1 ∧ (1 : Int) ≤ ((c :: w).length : Int)) then k (.ret (.tup [(.agg [(.slc 0 0 1), (.int .i64 1)]), (.int .i64 0)])) [.mem 29 1 [.ints .i64 [0], .strs [((c :: w).drop 0).take (1 - 0)], .strs [[]], .strs [[]], .strs [[]], .bools [false]] true] else none) else none) else none)) else none) := by kernel_rfl

theorem ev42q (d : Nat) (w : List UInt8) (k : Out → Heap → Am.Fin) :
    evF Tryd.prog (specsOf S42) nP tkM kpA LS0 (d + 9) (.fn 42) [.agg [.int .i64 0], .str (39 :: w)] [] (packK k) =
    (bif decide (0 ≤ (0 : Int) ∧ (0 : Int) < ((39 :: w).length : Int)) then (bif inText (39 :: w) 0 then (bif is39 (39 :: w) 0 then (bif (end94 (39 :: w) 1 39 false).1 then (bif decide ((0 : Int) ≤ 1 ∧ (1 : Int) ≤ IntKind.i64.wrap ((((end94 (39 :: w) 1 39 false).2 : Int) + 2) - 1) ∧ IntKind.i64.wrap ((((end94 (39 :: w) 1 39 false).2 : Int) + 2) - 1) ≤ ((39 :: w).length : Int)) then k (.ret (.tup [(.agg [(.slc 0 0 1), (.int .i64 (((end94 (39 :: w) 1 39 false).2 : Int) + 2))]), (.int .i64 0)])) [.mem 29 1 [.ints .i64 [0], .strs [((39 :: w).drop 1).take ((IntKind.i64.wrap ((((end94 (39 :: w) 1 39 false).2 : Int) + 2) - 1)).toNat - 1)], .strs [[]], .strs [[]], .strs [[]], .bools [true]] true] else none) else k (.ret (.tup [(.agg [.nilsl, (.int .i64 0)]), (.int .i64 101)])) []) else none) else none) else none) := by kernel_rfl

/-- A part that is a text. -/
def pt (t : List UInt8) (q : Bool) : Blk := .mem 29 1 [.ints .i64 [0], .strs [t], .strs [[]], .strs [[]], .strs [[]], .bools [q]] true

/-- A byte that is itself. -/
def p42 (c : UInt8) : Bool := !(c == 39) && !(c == 92) && !(c == 34) && !(c == 36) && !(c == 96)
/-- Quotes at the beginning. -/
def q42 (w : List UInt8) : Bool := inText w 0 && is39 w 0 && (end94 w 1 39 false).1

theorem p42_ix (c : UInt8) (h : p42 c = true) : decide ((Lib.indexByte [36, 96] (c.toNat : Int).toNat.toUInt8 : Int) < 0) = true ∧ decide ((Lib.indexByte [39, 34, 92] (c.toNat : Int).toNat.toUInt8 : Int) < 0) = true ∧ ((c.toNat : Int) == 92) = false := by
  have key : ∀ n : Fin 256, p42 (UInt8.ofNat n.val) = true → decide ((Lib.indexByte [36, 96] ((UInt8.ofNat n.val).toNat : Int).toNat.toUInt8 : Int) < 0) = true ∧ decide ((Lib.indexByte [39, 34, 92] ((UInt8.ofNat n.val).toNat : Int).toNat.toUInt8 : Int) < 0) = true ∧ (((UInt8.ofNat n.val).toNat : Int) == 92) = false := by decide +kernel
  have := key ⟨c.toNat, c.toNat_lt⟩
  simp only [UInt8.ofNat_toNat] at this
  exact this h

theorem sem42p (c : UInt8) (w : List UInt8) (h : p42 c = true) : SemCall Tryd.prog 42 [.agg [.int .i64 0], .str (c :: w)] [] (.ret (.tup [.agg [.slc 0 0 1, .int .i64 1], .int .i64 0])) [pt [c] false] := by
  refine semCall_of_k tkNoNum SP_ok nPP_ok noLS 9 ((ev42p 0 c w _).trans ?_)
  obtain ⟨h1, h2, h3⟩ := p42_ix c h
  have e1 : decide (0 ≤ (0 : Int) ∧ (0 : Int) < ((c :: w).length : Int)) = true := decide_eq_true (by rw [List.length_cons]; omega)
  have e2 : decide ((0 : Int) ≤ 0 ∧ (0 : Int) ≤ 1 ∧ (1 : Int) ≤ ((c :: w).length : Int)) = true := decide_eq_true (by rw [List.length_cons]; omega)
  simp only [h1, h2, h3, e1, e2, cond_true, cond_false]
  rfl

theorem sem42q (w : List UInt8) (h : q42 (39 :: w) = true) (hn : (end94 (39 :: w) 1 39 false).2 ≤ w.length) : SemCall Tryd.prog 42 [.agg [.int .i64 0], .str (39 :: w)] [] (.ret (.tup [.agg [.slc 0 0 1, .int .i64 ((end94 (39 :: w) 1 39 false).2 + 2)], .int .i64 0])) [pt (((39 :: w : List UInt8).drop 1).take (end94 (39 :: w) 1 39 false).2) true] := by
  refine semCall_of_k tkNoNum S42_ok nP_ok noLS 9 ((ev42q 0 w _).trans ?_)
  simp only [q42, Bool.and_eq_true] at h
  obtain ⟨⟨h1, h2⟩, h3⟩ := h
  obtain ⟨hl, _, _⟩ := inText_inv h1
  have hl' : w.length ≤ 1000000000 := by simp at hl; omega
  have e1 : decide (0 ≤ (0 : Int) ∧ (0 : Int) < ((39 :: w : List UInt8).length : Int)) = true := decide_eq_true (by rw [List.length_cons]; omega)
  have e3 : IntKind.i64.wrap (((end94 (39 :: w) 1 39 false).2 : Int) + 2 - 1) = ((end94 (39 :: w) 1 39 false).2 : Int) + 1 := by rw [w64 (by omega) (by omega)]; omega
  have e2 : decide ((0 : Int) ≤ 1 ∧ (1 : Int) ≤ ((end94 (39 :: w) 1 39 false).2 : Int) + 1 ∧ ((end94 (39 :: w) 1 39 false).2 : Int) + 1 ≤ ((39 :: w : List UInt8).length : Int)) = true := decide_eq_true (by rw [List.length_cons]; omega)
  have e4 : (((end94 (39 :: w) 1 39 false).2 : Int) + 1).toNat - 1 = (end94 (39 :: w) 1 39 false).2 := by omega
  simp only [h1, h2, h3, e1, e3, e2, e4, cond_true, cond_false]
  rfl

end Go.Proofs
