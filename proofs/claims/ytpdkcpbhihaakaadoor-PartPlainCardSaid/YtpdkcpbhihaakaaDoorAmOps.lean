/- Each operation that is no call: what the evaluator says is what the machine does. No condition. -/
import Derived.Test.YtpdkcpbhihaakaaDoorAmMem
import Derived.Lib.Strings
namespace Go.Am

theorem ofVal1_VR {ι : Emb} (v : Value) : VR ι (ofVal1 v) v := by
  unfold ofVal1
  split
  · exact .bool _
  · exact .int _ _
  · exact .str _
  · exact .nilptr
  · exact .nilsl
  · exact .fn _ (l1 := []) (l2 := []) (v1 := []) (v2 := []) rfl rfl (fun i x u h => by simp at h) (fun i x u h => by simp at h)
  · exact .nilfn
  · exact .nilifc
  · exact .any _

theorem VRs.ofVal1 {ι : Emb} (l : List Value) : VRs ι (l.map ofVal1) l := by
  induction l with
  | nil => exact .nil
  | cons x l ih => exact .cons (ofVal1_VR x) ih

theorem ofVal_VR {ι : Emb} (v : Value) : VR ι (ofVal v) v := by
  unfold ofVal
  split
  · rename_i vs; exact .agg (vs := vs.toList) (VRs.ofVal1 (ι := ι) _).1 (VRs.ofVal1 _).2
  · rename_i vs; exact .tup (vs := vs.toList) (VRs.ofVal1 (ι := ι) _).1 (VRs.ofVal1 _).2
  · exact .ifc _ (ofVal1_VR _)
  · exact ofVal1_VR _

theorem rd_VR {ι : Emb} {τ : List AV} {a : Act} (ht : VRs ι τ a.tmps.toList) (x : Operand) : VR ι (rd τ x) (a.eval x) := by
  cases x with
  | tmp t =>
    simp only [rd, Act.eval]
    by_cases h : t < τ.length
    · obtain ⟨u, h1, h2⟩ := ht.get (i := t) (x := τ[t]) (by simp [h])
      have e1 : τ.getD t .any = τ[t] := by simp [List.getD, h]
      have e2 : a.tmps.getD t undef = u := by
        have : a.tmps.toList[t]? = some u := h1
        rw [Array.getD_eq_getD_getElem?]
        simp at this
        simp [this]
      rw [e1, e2]; exact h2
    · have e1 : τ.getD t .any = .any := by rw [List.getD_eq_getElem?_getD, List.getElem?_eq_none (Nat.le_of_not_lt h)]; rfl
      rw [e1]; exact .any _
  | const v => exact ofVal_VR v
  | global g => exact .gp g 0
  | func f => exact .fn _ (l1 := []) (l2 := []) (v1 := []) (v2 := []) rfl rfl (fun i x u h => by simp at h) (fun i x u h => by simp at h)

/-- What is to be shown of an operation. -/
def Run1 (P : Program) (o : Oper) (a : Act) (w : World) (ι : Emb) (h : Heap) (k : AV → Heap → Fin) (r : Out × Heap) : Prop :=
  ∃ v h' ι' w', k v h' = some r ∧ Ext ι h w ι' h' w' ∧ Rep ι' h' w' ∧
    ((∃ u, (execOp a.eval o).run P w = .ok (.value u) w' ∧ VR ι' v u) ∨ ((execOp a.eval o).run P w = .ok .skip w' ∧ v = .undef))

theorem Run1.pure {P : Program} {o : Oper} {a : Act} {w : World} {ι : Emb} {h : Heap} {k : AV → Heap → Fin} {r : Out × Heap} (hr : Rep ι h w) {v : AV} {u : Value} (hk : k v h = some r)
    (hrun : (execOp a.eval o).run P w = .ok (.value u) w) (hv : VR ι v u) : Run1 P o a w ι h k r := ⟨v, h, ι, w, hk, .refl _ _ _, hr, .inl ⟨u, hrun, hv⟩⟩

theorem kbind_some {o : Option AV} {k : AV → Fin} {r : Out × Heap} (h : kbind o k = some r) : ∃ v, o = some v ∧ k v = some r := by
  cases o with
  | none => simp [kbind] at h
  | some v => exact ⟨v, rfl, h⟩

theorem bif_some {c : Bool} {x : Fin} {r : Out × Heap} (h : (bif c then x else none) = some r) : c = true ∧ x = some r := by
  cases c <;> simp_all

theorem run_under {P : Program} {t : TypeId} {d : TypeDesc} (h : P.underlying t = some d) (w : World) : (underlying t).run P w = .ok d w := run_underlying h w

theorem str_size (s : List UInt8) : (⟨s.toArray⟩ : ByteArray).size = s.length := by simp [ByteArray.size]

theorem equal_bool {P : Program} {t : TypeId} (hu : P.underlying t = some .bool) (a b : Bool) (w : World) : (Op.equal t (.bool a) (.bool b)).run P w = .ok (a == b) w := by
  have h : ∀ d, (Op.equalIn (d + 1) t (.bool a) (.bool b)).run P w = .ok (a == b) w := by
    intro d
    rw [Op.equalIn, Sem.run_bind, run_under hu]
    rfl
  exact h 9999

theorem equalIn_lift {P : Program} {t : TypeId} {x y : Value} {r : Bool} {w : World} (h : ∀ d, (Op.equalIn (d + 1) t x y).run P w = .ok r w) : (Op.equal t x y).run P w = .ok r w := h 9999

theorem binOp_eq {P : Program} {t : TypeId} {x y : Value} {r : Bool} {w : World} (h : (Op.equal t x y).run P w = .ok r w) (op : BinOp) (xo yo : Operand) (v : AV)
    (hv : eqAV op r = some v)
    (hg : (eqGuard op t xo yo x y).run P w = .ok () w) (hb : ∀ (o : BinOp), o = .eql ∨ o = .neq → binOp o t x y = (do let b ← Op.equal t x y; pure (.bool (if o = .eql then b else !b)) : Sem Value)) {ι : Emb} :
    ∃ u, (do eqGuard op t xo yo x y; binOp op t x y : Sem Value).run P w = .ok u w ∧ VR ι v u := by
  cases op <;> simp only [eqAV] at hv <;> cases hv
  · rw [Sem.run_bind, hg, Result.andThen_ok, hb _ (.inl rfl), Sem.run_bind, h]; exact ⟨_, rfl, .bool _⟩
  · rw [Sem.run_bind, hg, Result.andThen_ok, hb _ (.inr rfl), Sem.run_bind, h]; exact ⟨_, rfl, .bool _⟩

theorem nilEq_inv {kd : TypeDesc → Bool} {P : Program} {t : TypeId} {op : BinOp} {b : Bool} {v : AV} (h : nilEq kd P t op b = some v) :
    ∃ d, P.underlying t = some d ∧ kd d = true ∧ eqAV op b = some v := by
  unfold nilEq at h
  split at h
  · rename_i d hd
    split at h
    · rename_i hk; exact ⟨d, hd, hk, h⟩
    · cases h
  · cases h

theorem bin_sound {P : Program} {t : TypeId} {op : BinOp} {a b v : AV} (h : bin P t op a b = some v) {ι : Emb} {x y : Value} (hx : VR ι a x) (hy : VR ι b y) (hadd : ∀ s s', ¬ (op = .add ∧ a = .str s ∧ b = .str s')) (xo yo : Operand) (w : World) :
    ∃ u, (do eqGuard op t xo yo x y; binOp op t x y : Sem Value).run P w = .ok u w ∧ VR ι v u := by
  have g1 : ∀ {k k' : IntKind} {n m : Int}, (eqGuard op t xo yo (.int k n) (.int k' m)).run P w = .ok () w := by intros; unfold eqGuard; cases op <;> simp
  have g2 : ∀ {k k' : ByteArray}, (eqGuard op t xo yo (.string k) (.string k')).run P w = .ok () w := by intros; unfold eqGuard; cases op <;> simp
  have g3 : ∀ {k k' : Bool}, (eqGuard op t xo yo (.bool k) (.bool k')).run P w = .ok () w := by intros; unfold eqGuard; cases op <;> simp
  unfold bin at h
  split at h
  · -- numbers
    cases hx; cases hy
    rename_i k n k' m
    simp only [Sem.run_bind, g1, Result.andThen_ok]
    cases op <;> simp only at h
    case shl => split at h; · cases h
                rename_i hn; cases h; exact ⟨_, by simp [binOp, Op.shift, hn], .int _ _⟩
    case shr => split at h; · cases h
                rename_i hn; cases h; exact ⟨_, by simp [binOp, Op.shift, hn], .int _ _⟩
    case quo => by_cases hk : k = k'
                · subst hk
                  rw [if_pos rfl] at h
                  split at h
                  · cases h
                  · rename_i hn; cases h; exact ⟨_, by simp [binOp, Op.intDiv, hn], .int _ _⟩
                · rw [if_neg hk] at h; cases h
    case rem => by_cases hk : k = k'
                · subst hk
                  rw [if_pos rfl] at h
                  split at h
                  · cases h
                  · rename_i hn; cases h; exact ⟨_, by simp [binOp, Op.intDiv, hn], .int _ _⟩
                · rw [if_neg hk] at h; cases h
    all_goals
      by_cases hk : k = k'
      case neg => rw [if_neg hk] at h; cases h
      subst hk
      rw [if_pos rfl] at h
    all_goals
      cases h
      simp only [binOp, ne_eq, not_true_eq_false, if_false, Op.intArith, Op.intBits, Op.intCmp]
      first | exact ⟨_, rfl, .int _ _⟩ | exact ⟨_, rfl, .bool _⟩
  · -- texts
    cases hx; cases hy
    rename_i s s'
    simp only [Sem.run_bind, g2, Result.andThen_ok]
    have e : ∀ z : List UInt8, (⟨z.toArray⟩ : ByteArray).toList = z := by
      intro z; rw [Lib.toList_data]
    cases op <;> simp only at h <;> cases h
    all_goals
      refine ⟨_, ?_, .bool _⟩
      simp [binOp, Op.stringOp, e]
  · -- truths
    cases hx; cases hy
    rename_i c c'
    split at h
    · rename_i hu
      exact binOp_eq (equal_bool hu c c' w) op xo yo v h g3 (fun o ho => by rcases ho with rfl | rfl <;> rfl)
    · cases h
  case h_15 => cases h
  all_goals
    cases hx; cases hy
    obtain ⟨d, hu, hk, hv⟩ := nilEq_inv h
    refine binOp_eq (equalIn_lift fun n => ?_) op xo yo v hv ?_ ?_
    · cases d <;> first
        | (rw [Op.equalIn, Sem.run_bind, run_under hu]; rfl)
        | cases hk
    · unfold eqGuard; cases op <;> rfl
    · intro o ho; rcases ho with rfl | rfl <;> rfl

end Go.Am
