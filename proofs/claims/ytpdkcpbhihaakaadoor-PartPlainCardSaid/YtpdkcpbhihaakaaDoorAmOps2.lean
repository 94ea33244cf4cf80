/- Each operation that is no call of a function, whole: what the evaluator says is what the machine does. No condition. -/
import Derived.Test.YtpdkcpbhihaakaaDoorAmOps
namespace Go.Am

theorem un_sound {op : UnOp} {a v : AV} (h : un op a = some v) {ι : Emb} {x : Value} (hx : VR ι a x) (P : Program) (w : World) : ∃ u, (Op.unary op x).run P w = .ok u w ∧ VR ι v u := by
  unfold un at h
  split at h
  · cases hx; cases op <;> simp only at h <;> cases h; exact ⟨_, rfl, .bool _⟩
  · cases hx
    cases op <;> simp only at h <;> cases h
    · exact ⟨_, rfl, .int _ _⟩
    · exact ⟨_, rfl, .int _ _⟩
  · cases h

theorem part_sound {P : Program} {t : TypeId} {l : List AV} {off : Nat} {v : AV} (h : partAV P t l off = some v) {ι : Emb} {vs : List Value} (hl : VRs ι l vs) (w : World) : ∃ u, (part t ⟨vs⟩ off).run P w = .ok u w ∧ VR ι v u := by
  unfold partAV at h
  split at h
  · rename_i n hs
    cases h
    obtain ⟨ha, hz⟩ := shape_run hs w
    refine ⟨.agg ⟨(vs.drop off).take n⟩, ?_, .agg (hl.drop off |>.take n).1 (hl.drop off |>.take n).2⟩
    simp [part, Sem.run_bind, ha, hz, List.take_drop]
  · rename_i n hs
    obtain ⟨ha, hz⟩ := shape_run hs w
    obtain ⟨u, h1, h2⟩ := hl.get h
    refine ⟨u, ?_, h2⟩
    simp [part, Sem.run_bind, ha, h1]
  · cases h

theorem bound_sound {τ : List AV} {a : Act} {ι : Emb} (ht : VRs ι τ a.tmps.toList) {o : Option Operand} {d x : Int} (h : bound (o.map (rd τ)) d = some x) :
    (o = none ∧ x = d) ∨ ∃ k, o.map a.eval = some (.int k x) := by
  cases o with
  | none => simp [bound] at h; exact .inl ⟨rfl, h.symm⟩
  | some y =>
    simp only [Option.map_some] at h
    have hv := rd_VR ht y
    cases hr : rd τ y with
    | int k n =>
      rw [hr] at h hv; simp [bound] at h; subst h
      generalize hz : a.eval y = z at hv
      cases hv
      exact .inr ⟨k, by simp [hz]⟩
    | _ => rw [hr] at h; simp [bound] at h

theorem sliceBound_ok {P : Program} {w : World} {k : IntKind} {i : Int} {y : Nat} (h0 : 0 ≤ i) (h1 : i ≤ y) (c : BoundsCode) : (Instr.sliceBound (.int k i) y c).run P w = .ok i.toNat w := by
  simp [Instr.sliceBound, asIntOf, h0, h1]

theorem sliceBounds_ok {P : Program} {w : World} {τ : List AV} {a : Act} {ι : Emb} (ht : VRs ι τ a.tmps.toList) {lo hi : Option Operand} {len cap : Nat} {x y : Int} (b : Bool)
    (hlo : bound (lo.map (rd τ)) 0 = some x) (hhi : bound (hi.map (rd τ)) len = some y) (h0 : 0 ≤ x) (h1 : x ≤ y) (h2 : y ≤ len) (hc : len ≤ cap) :
    (Instr.sliceBounds b len cap (lo.map a.eval) (hi.map a.eval) none).run P w = .ok (x.toNat, y.toNat, cap) w := by
  have hy : y ≤ cap := by omega
  rcases bound_sound ht hlo with ⟨rfl, rfl⟩ | ⟨k, hk⟩ <;> rcases bound_sound ht hhi with ⟨rfl, rfl⟩ | ⟨k', hk'⟩
  · simp [Instr.sliceBounds]
  · simp [Instr.sliceBounds, hk', sliceBound_ok (by omega : (0 : Int) ≤ y) hy]
  · simp [Instr.sliceBounds, hk, sliceBound_ok h0 h1]
  · have hxy : x ≤ (y.toNat : Int) := by omega
    simp [Instr.sliceBounds, hk, hk', sliceBound_ok (by omega : (0 : Int) ≤ y) hy, sliceBound_ok h0 hxy]

theorem VRs.rdmap {ι : Emb} {τ : List AV} {a : Act} (ht : VRs ι τ a.tmps.toList) (l : List Operand) : VRs ι (l.map (rd τ)) (l.map a.eval) := VRs.map l _ _ fun x _ => rd_VR ht x

theorem flat_sound {v : AV} {l : List AV} (h : v.flat = some l) {ι : Emb} {u : Value} (hv : VR ι v u) : VRs ι l u.cells.toList := by
  have hv' := hv
  cases hv <;> simp only [AV.flat] at h <;> first
    | (cases h; exact .cons hv' .nil)
    | skip
  all_goals first
    | (cases h; done)
    | skip
  case agg e h' => cases h; exact ⟨e, h'⟩

theorem fold_set (vs : List Value) : ∀ (k off : Nat) (C : Array Value), off + k + vs.length ≤ C.size →
    ((vs.zipIdx k).foldl (fun cs (x : Value × Nat) => cs.setIfInBounds (off + x.2) x.1) C).toList = C.toList.take (off + k) ++ vs ++ C.toList.drop (off + k + vs.length) := by
  induction vs with
  | nil => intro k off C h; simp
  | cons v vs ih =>
    intro k off C h
    have hlt : off + k < C.size := by simp at h; omega
    simp only [List.zipIdx_cons, List.foldl_cons]
    rw [ih (k + 1) off (C.setIfInBounds (off + k) v) (by simp at h ⊢; omega)]
    have hl : (v :: vs).length = vs.length + 1 := rfl
    have hC : C.toList.length = C.size := by simp
    apply List.ext_getElem?
    intro q
    rw [Array.toList_setIfInBounds, show off + (k + 1) = off + k + 1 by omega, list_get_patch (by simp; omega), list_get_patch (by rw [hl, hC]; omega), List.getElem?_set, hl, hC]
    by_cases hq : q = off + k
    · subst hq
      rw [if_neg (by omega), if_pos rfl, if_pos hlt, if_pos (by omega)]
      simp
    · by_cases hr : off + k + 1 ≤ q ∧ q < off + k + 1 + vs.length
      · rw [if_pos hr, if_pos (by omega), show q - (off + k) = (q - (off + k + 1)) + 1 by omega, List.getElem?_cons_succ]
      · rw [if_neg hr, if_neg (by omega), if_neg (by omega)]

theorem fill_sound {ι : Emb} (pl : Nat → Option (Nat × Nat)) : ∀ (parts : List (Nat × AV)) (parts' : List (Nat × Value)) (cells l : List AV) (C : Array Value), fillC pl cells parts = some l → VRs ι cells C.toList →
    parts.length = parts'.length → (∀ (q : Nat) (x : Nat × AV) (y : Nat × Value), parts[q]? = some x → parts'[q]? = some y → x.1 = y.1 ∧ VR ι x.2 y.2) →
    ∃ C', Instr.fill pl C parts' = some C' ∧ VRs ι l C'.toList := by
  intro parts
  induction parts with
  | nil =>
    intro parts' cells l C h hc hl _
    have : parts' = [] := List.eq_nil_of_length_eq_zero (by simpa using hl.symm)
    subst this
    simp only [fillC] at h; cases h
    exact ⟨C, rfl, hc⟩
  | cons x parts ih =>
    intro parts' cells l C h hc hl hp
    cases parts' with
    | nil => simp at hl
    | cons y parts' =>
      obtain ⟨i, v⟩ := x
      obtain ⟨i', u⟩ := y
      obtain ⟨e, hv⟩ := hp 0 (i, v) (i', u) (by simp) (by simp)
      simp only at e hv
      subst e
      simp only [fillC] at h
      split at h
      · rename_i off size m hpl hfl
        split at h
        · cases h
        · rename_i hsz
          have hsz' : m.length = size ∧ off + m.length ≤ cells.length := by
            constructor
            · exact Classical.byContradiction fun hne => hsz (.inl hne)
            · exact Nat.le_of_not_lt fun hlt => hsz (.inr hlt)
          have hm := flat_sound hfl hv
          have hml : u.cells.size = m.length := by have := hm.1; simpa using this.symm
          have hcl : C.size = cells.length := by have := hc.1; simpa using this.symm
          have hfold := fold_set u.cells.toList 0 off C (by simp; omega)
          simp only [Nat.add_zero] at hfold
          have hz : (u.cells.zipIdx.foldl (fun cs (x : Value × Nat) => cs.setIfInBounds (off + x.2) x.1) C) = (u.cells.toList.zipIdx.foldl (fun cs (x : Value × Nat) => cs.setIfInBounds (off + x.2) x.1) C) := by
            rw [← Array.foldl_toList]; congr 1; simp
          obtain ⟨C', h1, h2⟩ := ih parts' (cells.take off ++ m ++ cells.drop (off + m.length)) l (u.cells.zipIdx.foldl (fun cs (x : Value × Nat) => cs.setIfInBounds (off + x.2) x.1) C) h
            (by rw [hz, hfold]
                refine ((hc.take off).append hm).append ?_
                rw [show off + u.cells.toList.length = off + m.length by simp [hml]]
                exact hc.drop _)
            (by simpa using hl) (fun q x y hx hy => hp (q + 1) x y (by simpa using hx) (by simpa using hy))
          refine ⟨C', ?_, h2⟩
          rw [Instr.fill, hpl]
          simp only
          rw [if_neg (by rw [hml, hcl]; simp; omega)]
          exact h1
      · cases h

theorem cellEq_sound {P : Program} {t : TypeId} {x y : AV} {c : Bool} (h : cellEq P t x y = some c) {ι : Emb} {u v : Value} (hx : VR ι x u) (hy : VR ι y v) (d : Nat) (w : World) : (Op.equalIn (d + 1) t u v).run P w = .ok c w := by
  unfold cellEq at h
  split at h
  · cases hx; cases hy
    split at h
    · rename_i hu
      split at h
      · rename_i hk; cases h
        rw [Op.equalIn, Sem.run_bind, run_under hu]
        simp [hk]
      · cases h
    · cases h
  · cases hx; cases hy
    split at h
    · rename_i a b _ hu
      cases h
      rw [Op.equalIn, Sem.run_bind, run_under hu]
      have e : ((⟨a.toArray⟩ : ByteArray) == ⟨b.toArray⟩) = (a == b) := by
        show (a.toArray == b.toArray) = (a == b)
        simp
      show Sem.run P (pure (_ == _)) w = _
      rw [e]; rfl
    · cases h
  · cases hx; cases hy
    split at h
    · rename_i hu
      cases h
      rw [Op.equalIn, Sem.run_bind, run_under hu]
      rfl
    · cases h
  · cases h

theorem equalIn_lift2 {P : Program} {t : TypeId} {x y : Value} {r : Bool} {w : World} (h : ∀ d, (Op.equalIn (d + 2) t x y).run P w = .ok r w) : (Op.equal t x y).run P w = .ok r w := h 9998

theorem run_program {P : Program} {w : World} : Sem.run P program w = .ok P w := rfl

theorem fieldsEq_sound {P : Program} {a b : List AV} {ι : Emb} {xs ys : List Value} (hx : VRs ι a xs) (hy : VRs ι b ys) (d : Nat) (w : World) : ∀ {fs : List Field} {r : Bool}, fieldsEq P fs a b = some r →
    (forIn (m := Sem) fs ((none : Option Bool), ()) fun f __s =>
            if f.name ≠ "_" then do
              let __do_lift ← part f.type { toList := xs } f.offset
              let __do_lift_1 ← part f.type { toList := ys } f.offset
              let __do_lift ← Op.equalIn (d + 1) f.type __do_lift __do_lift_1
              if (!__do_lift) = true then pure (ForInStep.done (some false, ())) else pure (ForInStep.yield (none, ()))
            else pure (ForInStep.yield (none, ()))).run P w = .ok (if r then none else some false, ()) w := by
  intro fs
  induction fs with
  | nil => intro r h; simp only [fieldsEq] at h; cases h; rfl
  | cons f fs ih =>
    intro r h
    simp only [fieldsEq] at h
    split at h
    · cases h
    rename_i hn
    split at h
    · rename_i x y h1 h2
      split at h
      · rename_i c e hc he
        cases h
        obtain ⟨u, g1, g2⟩ := part_sound h1 hx w
        obtain ⟨v, g3, g4⟩ := part_sound h2 hy w
        have g5 := cellEq_sound hc g2 g4 d w
        rw [List.forIn_cons]
        simp only [ne_eq, hn, not_false_eq_true, if_true, Sem.run_bind, g1, g3, g5, Result.andThen_ok]
        cases c
        · simp
        · simpa using ih he
      · cases h
    · cases h

theorem run_eqGuard_agg {P : Program} {t : TypeId} {op : BinOp} {xs ys : Array Value} (h : P.eqGuardType P.depth t = false) (ho : op = .eql ∨ op = .neq) (xo yo : Operand) (w : World) : (eqGuard op t xo yo (.agg xs) (.agg ys)).run P w = .ok () w := by
  unfold eqGuard
  rcases ho with rfl | rfl
  all_goals
    simp only [Bool.not_true, Bool.false_eq_true, if_false, Sem.run_bind, run_program, Result.andThen_ok, h, Bool.not_false, if_true, Sem.run_pure]
    try rfl

theorem binOp_agg {t : TypeId} {xs ys : Array Value} (o : BinOp) (ho : o = .eql ∨ o = .neq) : binOp o t (.agg xs) (.agg ys) = (do let b ← Op.equal t (.agg xs) (.agg ys); pure (.bool (if o = .eql then b else !b)) : Sem Value) := by
  rcases ho with rfl | rfl
  · simp only [binOp, if_true]
  · simp only [binOp]; rfl

theorem structEq_sound {P : Program} {t : TypeId} {op : BinOp} {a b : List AV} {v : AV} (h : structEq P t op a b = some v) {ι : Emb} {xs ys : List Value} (hx : VRs ι a xs) (hy : VRs ι b ys) (xo yo : Operand) (w : World) :
    ∃ u, (do eqGuard op t xo yo (.agg ⟨xs⟩) (.agg ⟨ys⟩); binOp op t (.agg ⟨xs⟩) (.agg ⟨ys⟩) : Sem Value).run P w = .ok u w ∧ VR ι v u := by
  unfold structEq at h
  split at h
  case h_2 => cases h
  rename_i fs hu
  split at h
  case isFalse => cases h
  rename_i hc
  split at h
  case h_2 => cases h
  rename_i r hr
  have ho : op = .eql ∨ op = .neq := by cases op <;> simp [eqAV] at h <;> simp
  refine binOp_eq (equalIn_lift2 fun d => ?_) op xo yo v h (run_eqGuard_agg hc.2 ho xo yo w) (fun o ho => binOp_agg o ho)
  rw [Op.equalIn, Sem.run_bind, run_under hu]
  simp only [Result.andThen_ok, Sem.run_bind, run_program, hc.1, Bool.false_eq_true, if_false]
  rw [← Array.forIn_toList]
  rw [fieldsEq_sound hx hy d w hr]
  cases r <;> rfl

end Go.Am
