/- part.Parse of a plain text, and of a text in quotes. The condition: the text is not too long. -/
import Derived.Test.YtpdkcpbhihaakaaDoorTkN
namespace Go.Proofs
open Go Go.Am

theorem runL_le (m : Int) : ∀ l, (runL m false l).2 ≤ l.length ∧ ((runL m false l).1 = true → (runL m false l).2 < l.length)
  | [] => ⟨Nat.le_refl _, fun h => by cases h⟩
  | c :: r => by
    have := runL_le m r
    rw [runL.eq_def]
    simp only [Bool.false_and, cond_false]
    cases ((c.toNat : Int) == m) with
    | true => simp
    | false => simp only [cond_false, List.length_cons]; exact ⟨by omega, fun h => by have := this.2 h; omega⟩

def s42 : Am.Spec := fun args h => match args with
  | [.agg [.int .i64 0], .str (c :: w)] => .ite (p42 c) (.done (.ret (.tup [.agg [.slc h.length 0 1, .int .i64 1], .int .i64 0])) (h ++ [pt [c] false]))
      (.ite (q42 (c :: w)) (.done (.ret (.tup [.agg [.slc h.length 0 1, .int .i64 (((end94 (c :: w) 1 39 false).2 : Int) + 2)], .int .i64 0])) (h ++ [pt (((c :: w : List UInt8).drop 1).take (end94 (c :: w) 1 39 false).2) true])) .none)
  | _ => .none

theorem is39_cons {c : UInt8} {w : List UInt8} (h : is39 (c :: w) 0 = true) : c = 39 := by
  unfold is39 at h
  have : (c.toNat : Int) = 39 := by simpa using h
  have h2 : c.toNat = 39 := by omega
  exact UInt8.toNat_inj.1 h2

theorem ok42 : SpecOK Tryd.prog 42 s42 := specOK_of_sem fun args h out h' hs => by
  unfold s42 at hs
  split at hs
  · rename_i c w
    cases hp : p42 c with
    | true =>
      rw [hp] at hs
      simp only [RT.get, cond_true, Option.some.injEq, Prod.mk.injEq] at hs
      obtain ⟨rfl, rfl⟩ := hs
      exact (sem42p c w hp).anywhere ⟨⟨trivial, trivial⟩, trivial, trivial⟩ h
    | false =>
      rw [hp] at hs
      cases hq : q42 (c :: w) with
      | false => rw [hq] at hs; cases hs
      | true =>
        rw [hq] at hs
        simp only [RT.get, cond_true, cond_false, Option.some.injEq, Prod.mk.injEq] at hs
        obtain ⟨rfl, rfl⟩ := hs
        have hq2 := hq
        simp only [q42, Bool.and_eq_true] at hq2
        have := is39_cons hq2.1.2
        subst this
        have hle := (runL_le 39 ((39 :: w : List UInt8).drop (1 : Int).toNat)).1
        exact (sem42q w hq hle).anywhere ⟨⟨trivial, trivial⟩, trivial, trivial⟩ h
  · cases hs

def T41 (a0 a1 a2 : AV) : List AV := [a0, a1, a2, .any, .any, .any, .any, .any, .any, .any, .any, .any, .any, .any, .any, .any, .any, .any, .any, .any, .any, .any, .any, .any, .any, .any, .any, .any, .any, .any, .any, .any, .any, .any, .any, .any, .any, .any]
noncomputable def R9 (w0 : List UInt8) : Blk := .loop .ready none [] [(.str w0), (.int .i64 0), .undef, .undef, .nilsl, (.int .i64 0), (.ptr 0 0 0), (.ptr 1 0 0), .undef, .undef, .undef, (.int .i64 0), (.bool false), (.bool false), (.int .i64 0), (.bool false), (.bool false), (.int .i64 0), (.agg [(.int .i64 0)]), (.str w0), (.fn (.func 41) [] [(.ptr 3 0 0), (.ptr 2 0 0)]), .undef, .undef, .undef, .undef, .undef, .undef, .undef, .undef, .undef, .undef, .undef, .undef, .undef, .undef, .undef, .undef, .undef, .undef, .undef, .undef, .undef, .undef, .undef, .undef, .undef, .undef, .undef, .undef, .undef, .undef, .undef, .undef, .undef, .undef, .undef, .undef, .undef, .undef, .undef, .undef, .undef, .undef, .undef, .undef, .undef, .undef, .undef, .undef, .undef] [21, 22] (asgOf Tryd.prog 9 0) (rbodyOf Tryd.prog 9 0)

def H41 (rec : Blk) (w : List UInt8) : Option (List UInt8 × Bool) → Heap
  | none => [.mem 23 1 [.avs [.nilsl]] true, .mem 24 1 [.avs [(.int .i64 0)]] true, .mem 49 1 [.avs [(.int .i64 0)]] true, .mem 9 1 [.avs [(.str w)]] true, rec]
  | some (t, q) => [.mem 23 1 [.avs [(.slc 5 0 1)]] true, .mem 24 1 [.avs [(.int .i64 0)]] true, .mem 49 1 [.avs [(.int .i64 0)]] true, .mem 9 1 [.avs [(.str w)]] true, rec, pt t q]

/-- A text of plain bytes. -/
def okP (w : List UInt8) : Bool := fits w && !w.isEmpty && w.all p42
/-- A text in quotes. -/
def okQ (w : List UInt8) : Bool := q42 w && Nat.beq ((end94 w 1 39 false).2 + 2) w.length
/-- What stands in quotes. -/
def innerQ (w : List UInt8) : List UInt8 := (w.drop 1).take (end94 w 1 39 false).2

noncomputable def ls41 : LSpec := fun τ h => match τ, h with
  | .yld 4 :: .ptr 3 0 0 :: .ptr 2 0 0 :: _ :: _ :: _ :: _ :: _ :: _ :: _ :: _ :: _ :: _ :: _ :: _ :: _ :: _ :: _ :: _ :: _ :: _ :: _ :: _ :: _ :: _ :: _ :: _ :: _ :: _ :: _ :: _ :: _ :: _ :: _ :: _ :: _ :: _ :: _ :: [], [.mem 23 1 [.avs [.nilsl]] true, .mem 24 1 [.avs [.int .i64 0]] true, .mem 49 1 [.avs [.int .i64 0]] true, .mem 9 1 [.avs [.str w]] true, rec] =>
    .ite (cdec (∃ w0, rec = R9 w0))
      (.ite (okP w) (.done (.exit 0) (T41 (.yld 4) (.ptr 3 0 0) (.ptr 2 0 0)) (H41 rec [] (some (w, false))))
        (.ite (okQ w) (.done (.exit 0) (T41 (.yld 4) (.ptr 3 0 0) (.ptr 2 0 0)) (H41 rec [] (some (innerQ w, true)))) .none)) .none
  | _, _ => .none

def S41 : List (FuncId × Am.Spec) := [(42, s42)]
theorem S41_ok : SpecsOK Tryd.prog (specsOf S41) := specsOf_ok fun x hx => by
  simp only [S41, List.mem_cons, List.not_mem_nil, or_false] at hx
  subst hx
  exact ok42
def kp41 : FuncId → List Nat := keepOf [(41, [0, 1, 2])]
noncomputable def LS41 : FuncId → List LI := lsOf [(41, [.spec ls41, .keep []])]

theorem rd41a (d : Nat) (c : UInt8) (w w0 : List UInt8) (k : AEx → List AV → Heap → Am.Fin) :
    evC Tryd.prog (evF Tryd.prog (specsOf S41) (fun _ => false) tkM kp41 LS41 (d + 8)) (fun _ => false) tkM [0, 1, 2] true (lo 41 0) [.keep []] (T41 (.yld 4) (.ptr 3 0 0) (.ptr 2 0 0)) [.mem 23 1 [.avs [.nilsl]] true, .mem 24 1 [.avs [(.int .i64 0)]] true, .mem 49 1 [.avs [(.int .i64 0)]] true, .mem 9 1 [.avs [(.str (c :: w))]] true, R9 w0] (roundK 5 [0, 1, 2] k) =
    (bif p42 c then (bif decide ((0 : Int) ≤ 1 ∧ (1 : Int) ≤ ((c :: w).length : Int) ∧ ((c :: w).length : Int) ≤ ((c :: w).length : Int)) then k .normal (T41 (.yld 4) (.ptr 3 0 0) (.ptr 2 0 0)) [.mem 23 1 [.avs [(.slc 5 0 1)]] true, .mem 24 1 [.avs [(.int .i64 0)]] true, .mem 49 1 [.avs [(.int .i64 0)]] true, .mem 9 1 [.avs [(.str (((c :: w).drop 1).take (((c :: w).length : Int).toNat - 1)))]] true, R9 w0, .mem 29 1 [.ints .i64 [0], .strs [[c]], .strs [[]], .strs [[]], .strs [[]], .bools [false]] true] else none) else (bif q42 (c :: w) then (bif decide ((0 : Int) ≤ ((end94 (c :: w) 1 39 false).2 : Int) + 2 ∧ ((end94 (c :: w) 1 39 false).2 : Int) + 2 ≤ ((c :: w).length : Int) ∧ ((c :: w).length : Int) ≤ ((c :: w).length : Int)) then k .normal (T41 (.yld 4) (.ptr 3 0 0) (.ptr 2 0 0)) [.mem 23 1 [.avs [(.slc 5 0 1)]] true, .mem 24 1 [.avs [(.int .i64 0)]] true, .mem 49 1 [.avs [(.int .i64 0)]] true, .mem 9 1 [.avs [(.str (((c :: w).drop (((end94 (c :: w) 1 39 false).2 : Int) + 2).toNat).take (((c :: w).length : Int).toNat - (((end94 (c :: w) 1 39 false).2 : Int) + 2).toNat)))]] true, R9 w0, .mem 29 1 [.ints .i64 [0], .strs [((c :: w : List UInt8).drop 1).take (end94 (c :: w) 1 39 false).2], .strs [[]], .strs [[]], .strs [[]], .bools [true]] true] else none) else none)) := by kernel_rfl

theorem rd41b (d : Nat) (c : UInt8) (w w0 t : List UInt8) (k : AEx → List AV → Heap → Am.Fin) :
    evC Tryd.prog (evF Tryd.prog (specsOf S41) (fun _ => false) tkM kp41 LS41 (d + 8)) (fun _ => false) tkM [0, 1, 2] true (lo 41 0) [.keep []] (T41 (.yld 4) (.ptr 3 0 0) (.ptr 2 0 0)) [.mem 23 1 [.avs [(.slc 5 0 1)]] true, .mem 24 1 [.avs [(.int .i64 0)]] true, .mem 49 1 [.avs [(.int .i64 0)]] true, .mem 9 1 [.avs [(.str (c :: w))]] true, R9 w0, .mem 29 1 [.ints .i64 [0], .strs [t], .strs [[]], .strs [[]], .strs [[]], .bools [false]] true] (roundK 5 [0, 1, 2] k) =
    (bif p42 c then (bif decide (t.length + [c].length ≤ 9223372036854775807) then (bif decide ((0 : Int) ≤ 1 ∧ (1 : Int) ≤ ((c :: w).length : Int) ∧ ((c :: w).length : Int) ≤ ((c :: w).length : Int)) then k .normal (T41 (.yld 4) (.ptr 3 0 0) (.ptr 2 0 0)) [.mem 23 1 [.avs [(.slc 5 0 1)]] true, .mem 24 1 [.avs [(.int .i64 0)]] true, .mem 49 1 [.avs [(.int .i64 0)]] true, .mem 9 1 [.avs [(.str (((c :: w).drop 1).take (((c :: w).length : Int).toNat - 1)))]] true, R9 w0, .mem 29 1 [.ints .i64 [0], .strs [t ++ [c]], .strs [[]], .strs [[]], .strs [[]], .bools [false]] true] else none) else none) else (bif q42 (c :: w) then (bif decide ((0 : Int) ≤ ((end94 (c :: w) 1 39 false).2 : Int) + 2 ∧ ((end94 (c :: w) 1 39 false).2 : Int) + 2 ≤ ((c :: w).length : Int) ∧ ((c :: w).length : Int) ≤ ((c :: w).length : Int)) then k .normal (T41 (.yld 4) (.ptr 3 0 0) (.ptr 2 0 0)) [.mem 23 1 [.avs [(.slc 5 0 2)]] true, .mem 24 1 [.avs [(.int .i64 0)]] true, .mem 49 1 [.avs [(.int .i64 0)]] true, .mem 9 1 [.avs [(.str (((c :: w).drop (((end94 (c :: w) 1 39 false).2 : Int) + 2).toNat).take (((c :: w).length : Int).toNat - (((end94 (c :: w) 1 39 false).2 : Int) + 2).toNat)))]] true, R9 w0, .mem 29 2 [.ints .i64 [0, 0], .strs [t, ((c :: w : List UInt8).drop 1).take (end94 (c :: w) 1 39 false).2], .strs [[], []], .strs [[], []], .strs [[], []], .bools [false, true]] true] else none) else none)) := by kernel_rfl

theorem rd41q (d : Nat) (w w0 : List UInt8) (k : AEx → List AV → Heap → Am.Fin) :
    evC Tryd.prog (evF Tryd.prog (specsOf S41) (fun _ => false) tkM kp41 LS41 (d + 8)) (fun _ => false) tkM [0, 1, 2] true (lo 41 0) [.keep []] (T41 (.yld 4) (.ptr 3 0 0) (.ptr 2 0 0)) [.mem 23 1 [.avs [.nilsl]] true, .mem 24 1 [.avs [(.int .i64 0)]] true, .mem 49 1 [.avs [(.int .i64 0)]] true, .mem 9 1 [.avs [(.str (39 :: w))]] true, R9 w0] (roundK 5 [0, 1, 2] k) =
    (bif q42 (39 :: w) then (bif decide ((0 : Int) ≤ ((end94 (39 :: w) 1 39 false).2 : Int) + 2 ∧ ((end94 (39 :: w) 1 39 false).2 : Int) + 2 ≤ ((39 :: w).length : Int) ∧ ((39 :: w).length : Int) ≤ ((39 :: w).length : Int)) then k .normal (T41 (.yld 4) (.ptr 3 0 0) (.ptr 2 0 0)) [.mem 23 1 [.avs [(.slc 5 0 1)]] true, .mem 24 1 [.avs [(.int .i64 0)]] true, .mem 49 1 [.avs [(.int .i64 0)]] true, .mem 9 1 [.avs [(.str (((39 :: w).drop (((end94 (39 :: w) 1 39 false).2 : Int) + 2).toNat).take (((39 :: w).length : Int).toNat - (((end94 (39 :: w) 1 39 false).2 : Int) + 2).toNat)))]] true, R9 w0, .mem 29 1 [.ints .i64 [0], .strs [((39 :: w : List UInt8).drop 1).take (end94 (39 :: w) 1 39 false).2], .strs [[]], .strs [[]], .strs [[]], .bools [true]] true] else none) else none) := by kernel_rfl

theorem rd41e (d : Nat) (w0 t : List UInt8) (q : Bool) (k : AEx → List AV → Heap → Am.Fin) :
    evC Tryd.prog (evF Tryd.prog (specsOf S41) (fun _ => false) tkM kp41 LS41 (d + 8)) (fun _ => false) tkM [0, 1, 2] true (lo 41 0) [.keep []] (T41 (.yld 4) (.ptr 3 0 0) (.ptr 2 0 0)) [.mem 23 1 [.avs [(.slc 5 0 1)]] true, .mem 24 1 [.avs [(.int .i64 0)]] true, .mem 49 1 [.avs [(.int .i64 0)]] true, .mem 9 1 [.avs [(.str [])]] true, R9 w0, .mem 29 1 [.ints .i64 [0], .strs [t], .strs [[]], .strs [[]], .strs [[]], .bools [q]] true] (roundK 5 [0, 1, 2] k) =
    k (.exit 0) (T41 (.yld 4) (.ptr 3 0 0) (.ptr 2 0 0)) [.mem 23 1 [.avs [(.slc 5 0 1)]] true, .mem 24 1 [.avs [(.int .i64 0)]] true, .mem 49 1 [.avs [(.int .i64 0)]] true, .mem 9 1 [.avs [(.str [])]] true, R9 w0, .mem 29 1 [.ints .i64 [0], .strs [t], .strs [[]], .strs [[]], .strs [[]], .bools [q]] true] := by kernel_rfl


end Go.Proofs
