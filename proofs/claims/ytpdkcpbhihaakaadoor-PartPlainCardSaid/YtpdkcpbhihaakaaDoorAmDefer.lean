/- A function that defers a closure that recovers: what the evaluator says is what the machine does. The condition: no function is runtime.NumGoroutine. -/
import Derived.Test.YtpdkcpbhihaakaaDoorAmRun
import Derived.RecoverIn
namespace Go.Am

theorem wpIn_mono3 {F : Fence} {n : Nat} {P : Program} {o : Oper} {a : Act} {w : World} {N N' : Act → World → Prop} {Q Q' : Exit → Act → World → Prop} (hN : ∀ a w, N a w → N' a w)
    (hp : ∀ c a w, Q (.panic c) a w → Q' (.panic c) a w) (ho : LetsOut Q → LetsOut Q') (h : o.wpIn F n P a w N Q) : o.wpIn F n P a w N' Q' := by
  refine ⟨h.1, ?_⟩
  have h := h.2
  unfold Oper.uponIn at h ⊢
  split at h
  · exact hN _ _ h
  · exact hN _ _ h
  · exact hN _ _ h
  · refine ⟨h.1, h.2.mono fun e w' hr => ?_⟩
    cases e with
    | returned v => exact hN _ _ hr
    | panicked c => exact hp _ _ _ hr
    | outgrown => exact ho hr
  · exact ⟨h.1, h.2.mono fun v w' hr => hN _ _ hr⟩
  · refine ⟨h.1, h.2.mono fun e w' hr => ?_⟩
    cases e with
    | returned v => exact hN _ _ hr
    | panicked c => exact hp _ _ _ hr
    | outgrown => exact ho hr
  · exact hp _ _ _ h
  · exact h.elim

theorem wpListIn_append {F : Fence} {n : Nat} {P : Program} {ops : Array Oper} {Q : Exit → Act → World → Prop} : ∀ (l m : List Oper) (a : Act) (w : World), wpListIn F n P ops (Exit.then (wpListIn F n P ops Q m) Q) l a w → wpListIn F n P ops Q (l ++ m) a w := by
  intro l
  induction l with
  | nil => intro m a w h; exact h
  | cons o l ih =>
    intro m a w h
    simp only [wpListIn, List.cons_append] at h ⊢
    split
    · rename_i hc
      rw [if_pos hc] at h
      exact wpIn_mono3 (fun a w h => ih m a w h) (fun c a w h => h) (fun h => h) h
    · rename_i hc
      rw [if_neg hc] at h
      exact ⟨h.1, ih m _ _ h.2⟩

theorem deferIn_some {c : Code} {x : Array Oper × List Oper × Call} (h : deferIn c = some x) : ∃ id o, c = .region id x.1 false ∧ x.1.toList = x.2.1 ++ [o] ∧ o.op = .defer x.2.2 ∧ o.guard = none ∧ o.dst = none := by
  unfold deferIn at h
  split at h
  · rename_i id ops
    split at h
    · rename_i init c hs
      cases h
      unfold splitDefer at hs
      split at hs
      · rename_i o rest hr
        split at hs
        · rename_i c' h1 h2 h3
          cases hs
          refine ⟨id, o, rfl, ?_, h1, h2, h3⟩
          have := congrArg List.reverse hr
          simpa using this
        · cases hs
      · cases hs
    · cases h
  · cases h

theorem recovers_some {ops : Array Oper} {x : Option Tmp × Option Tmp × Operand} (h : recovers ops = some x) : ∃ o1 o2 c, ops = #[o1, o2] ∧ o1.op = .call c ∧ c.callee = .builtin .recover ∧ c.args = #[] ∧ o1.guard = none ∧ o2.op = .assign x.2.2 ∧ o2.guard = none ∧ o1.dst = x.1 ∧ o2.dst = x.2.1 := by
  unfold recovers at h
  split at h
  · rename_i o1 o2 hl
    split at h
    · rename_i c y h1 h2 h3 h4
      split at h
      · rename_i h5 h6
        cases h
        exact ⟨o1, o2, c, by apply Array.ext'; simpa using hl, h1, h5, by apply Array.ext'; simpa using h6, h3, h2, h4, rfl, rfl⟩
      · cases h
    · cases h
  · cases h

/-- How the frame that leaves stands ahead of the deferred closure and behind it. -/
inductive Stands (ι : Emb) : Option AV → FrameMode → FrameMode → Prop
  | ret : Stands ι none .returning .returning
  | pan {v : AV} {u : Value} (h : VR ι v u) : Stands ι (some v) (.panicking [{ v := u, recovered := false }]) (.panicking [{ v := u, recovered := true }])

theorem Stands.settle {ι : Emb} {t : Option AV} {u u' : FrameMode} (h : Stands ι t u u') : Go.settle u' = .returning ∧ u ≠ .run := by
  cases h with
  | ret => exact ⟨rfl, by simp⟩
  | pan h => exact ⟨rfl, by simp⟩

theorem evG_sound {P : Program} (hP : NoNum P) {cl : Caller} (hcl : CallerOK P cl) (hlf : CallerLeaf cl) {pu : FuncId → Bool} (hpu : PureOK pu cl) {m : Nat} {g : FuncId} {cap : List AV} {thrown : Option AV} {h : Heap} {k : Heap → Fin} {r : Out × Heap}
    (he : evG P cl pu m g cap thrown h k = some r) {ι : Emb} {w : World} {ccap : List Value} (hr : Rep ι h w) (hc : VRs ι cap ccap) {u u' : FrameMode} (hs : Stands ι thrown u u') {R : Ending → FrameMode → World → Prop}
    (hk : ∀ h' ι' w' v, k h' = some r → Ext ι h w ι' h' w' → Rep ι' h' w' → R (.returned v) u' w') : CallsDIn (W none) 0 P g ccap.toArray u w R := by
  unfold evG at he
  split at he
  case h_2 => cases he
  rename_i fn hf
  split at he
  case h_2 => cases he
  rename_i id ops rest hb
  split at he
  case h_2 => cases he
  rename_i d1 d2 x hrec
  obtain ⟨o1, o2, c, rfl, q1, q2, q3, q4, q5, q6, q7, q8⟩ := recovers_some hrec
  dsimp only at he
  refine callsDIn_of_wpSIn hf hb trivial ?_
  intro c0 cs hmode
  refine wpSIn_seq (wpSIn_region ?_)
  have hts : VRs ι (cap ++ List.replicate (fn.ntmps - cap.length) .undef) (ccap.toArray ++ Array.replicate (fn.ntmps - ccap.toArray.size) Go.undef).toList := by
    have := hc.append (VRs.replicate (ι := ι) (fn.ntmps - cap.length))
    simpa [hc.1] using this
  -- what recover hands over
  obtain ⟨uv, hv, hrd⟩ : ∃ uv, VR ι (thrown.getD .nilifc) uv ∧ ∀ (X : Value → List Frame → Prop), X uv ({ c0 with mode := u' } :: cs) →
      (match recoverD (c0 :: cs) with | some (v, cs') => X v cs' | none => X .nilIface (c0 :: cs)) := by
    cases hs with
    | ret =>
      refine ⟨.nilIface, .nilifc, fun X hX => ?_⟩
      have : recoverD (c0 :: cs) = none := by simp [recoverD, hmode]
      rw [this]
      have e : ({ c0 with mode := .returning } : Frame) = c0 := by rw [← hmode]
      rw [e] at hX; exact hX
    | @pan v u h =>
      refine ⟨u, h, fun X hX => ?_⟩
      have : recoverD (c0 :: cs) = some (u, { c0 with mode := .panicking [{ v := u, recovered := true }] } :: cs) := by simp [recoverD, hmode]
      rw [this]
      exact hX
  show wpOpsSIn (W none) 0 P #[o1, o2] _ [0, 1] _ _ _
  have hw : ∀ o : Oper, o.guard = none → ∀ t, Region.wanted o t = true := fun o ho t => by simp [Region.wanted, ho]
  have g0 : (#[o1, o2] : Array Oper)[0]? = some o1 := rfl
  have g1 : (#[o1, o2] : Array Oper)[1]? = some o2 := rfl
  simp only [wpOpsSIn, g0, g1, hw o1 q4, if_true]
  refine ⟨fun _ _ => trivial, ?_⟩
  have hx1 : ∀ ρ w, (execOp ρ o1).run P w = .ok .recover w := by
    intro ρ w
    obtain ⟨callee, args, tys⟩ := c
    simp only at q2 q3
    subst q2; subst q3
    simp only [execOp, q1, resolve, Sem.run_bind, Sem.run_pure, Result.andThen_ok]
    simp only [invoke]
    rfl
  have hx2 : ∀ ρ w, (execOp ρ o2).run P w = .ok (.value (ρ x)) w := by
    intro ρ w
    simp only [execOp, q5]
    rfl
  simp only [hx1]
  refine hrd (fun v cs' => wpOpsSIn (W none) 0 P #[o1, o2] (Exit.thenS (rest.wpSIn (W none) 0 P (bodyPostS P fn c0 cs R)) (bodyPostS P fn c0 cs R)) [1] (Act.put { tmps := ccap.toArray ++ Array.replicate (fn.ntmps - ccap.toArray.size) Go.undef, defers := [] } o1.dst v) cs' w) ?_
  simp only [wpOpsSIn, g1, hw o2 q6, if_true, hx2]
  refine ⟨fun _ _ => trivial, ?_⟩
  show rest.wpSIn (W none) 0 P (bodyPostS P fn c0 cs R) _ _ _
  refine wpSIn_of_wpIn rfl ?_
  simp only at q7 q8
  rw [q7, q8]
  have ht1 := put_sound (a := { tmps := ccap.toArray ++ Array.replicate (fn.ntmps - ccap.toArray.size) Go.undef, defers := [] }) hts d1 hv
  have ht2 := put_sound ht1 d2 (rd_VR ht1 x)
  refine evC_sound hP hcl hlf hpu (by simp) rest [] (LSOK_nil _) he hr ht2 (B := ⟨w.heap.size, false, []⟩) (Nat.le_refl _) (by simp) (by rw [put_defers, put_defers]; exact .nil) ?_
  intro ex τ' h' ι' w' a' e he' hE hR ht' hd hex
  obtain ⟨rs, m1, _, _, m4⟩ := hd
  have hd0 : a'.defers = [] := by rw [m1, m4 rfl]; rfl
  have fin : (if fn.results.toList.length = 0 then k h' else none) = some r → a'.defers = [] ∧ ∃ u'', ({ c0 with mode := u' } : Frame) :: cs = { c0 with mode := u'' } :: cs ∧ ∃ v, (results fn a'.tmps).run P w' = .ok v w' ∧ R (.returned v) u'' w' := by
    intro he'
    split at he'
    · rename_i hz
      have hz' : fn.results.toList = [] := List.eq_nil_of_length_eq_zero hz
      obtain ⟨v, h1, h2⟩ := results_sound (fn := fn) (l := []) hR ht' (by rw [hz']; rfl)
      exact ⟨hd0, u', rfl, v, h1, hk _ _ _ _ he' hE hR⟩
    · cases he'
  cases hex with
  | normal => exact fin he'
  | ret => exact fin he'
  | exit id => cases he'
  | pan hv => cases he'

theorem evOut_sound {P : Program} {fn : Func} {ex : AEx} {τ : List AV} {h : Heap} {k : Out → Heap → Fin} {r : Out × Heap} (he : evOut P fn ex τ h k = some r) {ι0 ι : Emb} {h0 : Heap} {w0 w : World} (hE : Ext ι0 h0 w0 ι h w) (hr : Rep ι h w) {a : Act} (ht : VRs ι τ a.tmps.toList)
    {R : Ending → World → Prop} (hk : CallOwes ι0 h0 w0 r k R) {e : Exit} (hex : ExR ι ex e) (hd : a.defers = []) : bodyPostM (W none) 0 P fn R e a w := by
  unfold evOut at he
  have done : ∀ {e}, (match resAll P τ h fn.results.toList with | some l => k (.ret (tupOf l)) h | none => none) = some r → (e = .normal ∨ e = .ret) → bodyPostM (W none) 0 P fn R e a w := by
    intro e he' hee
    split at he'
    · rename_i l hl
      obtain ⟨u, h1, h2⟩ := results_sound hr ht hl
      have : LeavesInM (W none) 0 P fn a.tmps R a.defers .returning w := by rw [hd]; exact ⟨u, h1, hk _ _ _ _ _ he' hE hr (.ret h2)⟩
      rcases hee with rfl | rfl <;> exact this
    · cases he'
  cases hex with
  | normal => exact done he (.inl rfl)
  | ret => exact done he (.inr rfl)
  | exit id => cases he
  | pan hv =>
    show LeavesInM (W none) 0 P fn a.tmps R a.defers (.panicking _) w
    rw [hd]
    exact hk _ _ _ _ _ he hE hr (.pan hv)

theorem evD_sound {P : Program} (hP : NoNum P) {cl : Caller} (hcl : CallerOK P cl) (hlf : CallerLeaf cl) {pu : FuncId → Bool} (hpu : PureOK pu cl) {m : Nat} {keep : List Nat} {fn : Func} {ι0 : Emb} {h0 : Heap} {w0 : World} {r : Out × Heap} {k : Out → Heap → Fin} {R : Ending → World → Prop} (hk : CallOwes ι0 h0 w0 r k R) :
    ∀ (c : Code) {τ : List AV} {h : Heap}, evD P cl pu m keep fn c [] τ h k = some r → ∀ {ι : Emb} {w : World} {a : Act}, Ext ι0 h0 w0 ι h w → Rep ι h w → VRs ι τ a.tmps.toList → a.defers = [] → c.wpIn (W none) 0 P (bodyPostM (W none) 0 P fn R) a w := by
  have plain : ∀ (c : Code) {τ : List AV} {h : Heap}, (evC P cl pu m keep false c [] τ h fun ex τ' h' => evOut P fn ex τ' h' k) = some r → ∀ {ι : Emb} {w : World} {a : Act}, Ext ι0 h0 w0 ι h w → Rep ι h w → VRs ι τ a.tmps.toList → a.defers = [] → c.wpIn (W none) 0 P (bodyPostM (W none) 0 P fn R) a w := by
    intro c τ h he ι w a hE hr ht hd
    refine evC_sound hP hcl hlf hpu (by simp) c [] (LSOK_nil _) he hr ht (B := ⟨w.heap.size, false, []⟩) (Nat.le_refl _) (by simp) (by rw [hd]; exact .nil) ?_
    intro ex τ' h' ι' w' a' e he' hE' hR ht' hd' hex
    obtain ⟨rs, m1, _, _, m4⟩ := hd'
    exact evOut_sound he' (hE.trans hE') hR ht' hk hex (by rw [m1, m4 rfl]; rfl)
  intro c
  induction c with
  | seq x y _ ihy =>
    intro τ h he ι w a hE hr ht hd
    simp only [evD] at he
    split at he
    · rename_i ops init c hdi
      obtain ⟨id, o, rfl, hops, ho, hog, hod⟩ := deferIn_some hdi
      simp only at hops ho
      refine wpIn_seq (wpIn_region_list ?_)
      rw [hops]
      refine wpListIn_append _ _ _ _ ?_
      refine evOps_sound hP hcl init he hr ht ?_ (fun v τ' h' ι' w' a' u e1 => by cases e1)
      intro τ1 h1 ι1 w1 a1 he1 hE1 hR1 ht1 hd1
      split at he1
      case h_2 => cases he1
      rename_i fo hcal hargs
      have hv := rd_VR ht1 fo
      split at he1
      case h_2 => cases he1
      rename_i g cap hrd
      split at he1
      case isFalse => cases he1
      rename_i hbody
      rw [hrd] at hv
      generalize hfo : a1.eval fo = fv at hv
      cases hv
      rename_i v1 v2 e1 g1 e2 g2
      have hv1 : v1 = [] := List.eq_nil_of_length_eq_zero (by simpa using e1.symm)
      subst hv1
      have hfn : ∃ gn, P.funcs[g]? = some gn ∧ gn.body.isSome = true := by
        cases hq : P.funcs[g]? with
        | none => simp [hq] at hbody
        | some fn => exact ⟨fn, rfl, by simpa [hq] using hbody⟩
      obtain ⟨gn, hf, hfb⟩ := hfn
      have hnb : gn.body.isNone = false := by cases hb : gn.body <;> simp_all
      have hnn := hP g gn hf
      show wpListIn (W none) 0 P ops _ [o] a1 w1
      simp only [wpListIn]
      rw [if_pos (by simp [Region.wanted, hog])]
      refine ⟨fun _ _ => trivial, ?_⟩
      have hcargs : c.args = #[] := by apply Array.ext'; simpa using hargs
      have hrun : (Oper.semAt (W none).round a1.eval o).run P w1 = .ok (.defer { target := .fn (.func g) ⟨v2⟩, args := #[] }) w1 := by
        show (execOp a1.eval o).run P w1 = _
        simp only [execOp, ho, resolve, hcal, hfo, Deferred.ofValue, Sem.run_bind, Sem.run_pure, Result.andThen_ok, hcargs]
        simp
      rw [hrun]
      show y.wpIn (W none) 0 P (bodyPostM (W none) 0 P fn R) (Act.put { a1 with defers := { target := .fn (.func g) ⟨v2⟩, args := #[] } :: a1.defers } o.dst Go.undef) w1
      rw [hod]
      show y.wpIn (W none) 0 P (bodyPostM (W none) 0 P fn R) { a1 with defers := { target := .fn (.func g) ⟨v2⟩, args := #[] } :: a1.defers } w1
      rw [hd1, hd]
      refine evC_sound hP hcl hlf hpu (fun _ => rfl) y [] (LSOK_nil _) he1 hR1 (a := { a1 with defers := [{ target := .fn (.func g) ⟨v2⟩, args := #[] }] }) ht1 (B := ⟨w0.heap.size, true, [{ target := .fn (.func g) ⟨v2⟩, args := #[] }]⟩) (hE.trans hE1).size (fun _ => rfl) .nil ?_
      intro ex τ2 h2 ι2 w2 a2 e he2 hE2 hR2 ht2 hm2 hex
      obtain ⟨rs, m1, m2, m3, _⟩ := hm2
      have hcv : VRs ι1 cap v2 := ⟨e2, g2⟩
      have leave : ∀ {t : Option AV} {u u' : FrameMode}, (evG P cl pu m g cap t h2 fun h' => evOut P fn .ret τ2 h' k) = some r → Stands ι2 t u u' → LeavesInM (W none) 0 P fn a2.tmps R a2.defers u w2 := by
        intro t u u' heG hst
        rw [m1]
        refine leaves_marks hst.settle.2 rs hR2 ((hE.trans hE1).trans hE2) m2 m3 ?_
        intro w3 hR3 hE3
        refine ⟨hst.settle.2, .inr ⟨fun hd => by simp [W] at hd, .func g, ⟨v2⟩, g, v2.toArray, rfl, ?_, fun _ _ => trivial, ?_⟩⟩
        · have harr : (#[] : Array Value) ++ (⟨v2⟩ : Array Value) = v2.toArray := by apply Array.ext'; simp
          simp only [invoke, callFunc, program, Sem.run_bind, Sem.run, Result.andThen_ok, hf, hnn, hnb, Bool.false_eq_true, if_false, harr]
          rfl
        · refine evG_sound hP hcl hlf hpu heG hR3 (hcv.mono hE2.emb) hst ?_
          intro h4 ι4 w4 v he4 hE4 hR4
          show LeavesInM (W none) 0 P fn a2.tmps R [] (settle u') w4
          rw [hst.settle.1]
          exact evOut_sound (ex := .ret) (e := .ret) (a := { tmps := a2.tmps, defers := [] }) he4 (hE3.trans hE4) hR4 (ht2.mono hE4.emb) hk .ret rfl
      unfold evAfter at he2
      cases hex with
      | normal => exact leave he2 .ret
      | ret => exact leave he2 .ret
      | exit id => cases he2
      | pan hv => exact leave he2 (.pan hv)
    · rename_i hdi
      refine wpIn_seq (evC_sound hP hcl hlf hpu (by simp) x [] (LSOK_nil _) he hr ht (B := ⟨w.heap.size, false, []⟩) (Nat.le_refl _) (by simp) (by rw [hd]; exact .nil) ?_)
      intro ex τ' h' ι' w' a' e he' hE' hR ht' hd' hex
      obtain ⟨rs, m1, _, _, m4⟩ := hd'
      have hd0 : a'.defers = [] := by rw [m1, m4 rfl]; rfl
      cases hex with
      | normal => exact ihy (by simpa using he') (hE.trans hE') hR ht' hd0
      | exit id => exact evOut_sound (ex := .exit id) he' (hE.trans hE') hR ht' hk (.exit id) hd0
      | ret => exact evOut_sound (ex := .ret) he' (hE.trans hE') hR ht' hk .ret hd0
      | pan hv => exact evOut_sound (ex := .pan _) he' (hE.trans hE') hR ht' hk (.pan hv) hd0
  | _ => exact plain _

theorem evG_leaf {P : Program} {cl : Caller} (hlf : CallerLeaf cl) {pu : FuncId → Bool} {m : Nat} {g : FuncId} {cap : List AV} {thrown : Option AV} {h : Heap} {k : Heap → Fin} {r : Out × Heap}
    (he : evG P cl pu m g cap thrown h k = some r) : ∃ h', ∀ k', evG P cl pu m g cap thrown h k' = k' h' := by
  unfold evG at he ⊢
  split at he
  case h_2 => cases he
  split at he
  case h_2 => cases he
  split at he
  case h_2 => cases he
  dsimp only at he ⊢
  obtain ⟨ex, τ', h', hl⟩ := evC_leaf hlf _ _ _ _ _ _ he
  rw [hl] at he
  have fin : ∀ {fn : Func}, (if fn.results.toList.length = 0 then k h' else none) = some r → fn.results.toList.length = 0 := by
    intro fn he
    split at he
    · assumption
    · cases he
  cases ex with
  | normal => exact ⟨h', fun k' => by rw [hl]; simp only [if_pos (fin he)]⟩
  | ret => exact ⟨h', fun k' => by rw [hl]; simp only [if_pos (fin he)]⟩
  | exit id => cases he
  | pan v => cases he

theorem evOut_leaf {P : Program} {fn : Func} {ex : AEx} {τ : List AV} {h : Heap} {k : Out → Heap → Fin} {r : Out × Heap} (he : evOut P fn ex τ h k = some r) : ∃ out h', ∀ k', evOut P fn ex τ h k' = k' out h' := by
  unfold evOut at he ⊢
  cases ex with
  | normal =>
    simp only at he ⊢
    split at he
    · rename_i l hl; exact ⟨_, _, fun k' => rfl⟩
    · cases he
  | ret =>
    simp only at he ⊢
    split at he
    · rename_i l hl; exact ⟨_, _, fun k' => rfl⟩
    · cases he
  | exit id => cases he
  | pan v => exact ⟨_, _, fun k' => rfl⟩

theorem evAfter_leaf {P : Program} {cl : Caller} (hlf : CallerLeaf cl) {pu : FuncId → Bool} {m : Nat} {fn : Func} {g : FuncId} {cap : List AV} {ex : AEx} {τ : List AV} {h : Heap} {k : Out → Heap → Fin} {r : Out × Heap}
    (he : evAfter P cl pu m fn g cap ex τ h k = some r) : ∃ out h', ∀ k', evAfter P cl pu m fn g cap ex τ h k' = k' out h' := by
  have two : ∀ {t : Option AV}, (evG P cl pu m g cap t h fun h' => evOut P fn .ret τ h' k) = some r → ∃ out h', ∀ k' : Out → Heap → Fin, (evG P cl pu m g cap t h fun h' => evOut P fn .ret τ h' k') = k' out h' := by
    intro t he
    obtain ⟨h', hl⟩ := evG_leaf hlf he
    rw [hl] at he
    obtain ⟨out, h2, hl2⟩ := evOut_leaf he
    exact ⟨out, h2, fun k' => by rw [hl]; exact hl2 k'⟩
  unfold evAfter at he ⊢
  cases ex with
  | normal => exact two he
  | ret => exact two he
  | exit id => cases he
  | pan v => exact two he

theorem evD_leaf {P : Program} {cl : Caller} (hlf : CallerLeaf cl) {pu : FuncId → Bool} {m : Nat} {keep : List Nat} {fn : Func} : ∀ (c : Code) (ls : List LI) {τ : List AV} {h : Heap} {k : Out → Heap → Fin} {r : Out × Heap}, evD P cl pu m keep fn c ls τ h k = some r →
    ∃ out h', ∀ k', evD P cl pu m keep fn c ls τ h k' = k' out h' := by
  have plain : ∀ (c : Code) (ls : List LI) {τ : List AV} {h : Heap} {k : Out → Heap → Fin} {r : Out × Heap}, (evC P cl pu m keep false c ls τ h fun ex τ' h' => evOut P fn ex τ' h' k) = some r →
      ∃ out h', ∀ k' : Out → Heap → Fin, (evC P cl pu m keep false c ls τ h fun ex τ' h' => evOut P fn ex τ' h' k') = k' out h' := by
    intro c ls τ h k r he
    obtain ⟨ex, τ', h', hl⟩ := evC_leaf hlf _ _ _ _ _ _ he
    rw [hl] at he
    obtain ⟨out, h2, hl2⟩ := evOut_leaf he
    exact ⟨out, h2, fun k' => by rw [hl]; exact hl2 k'⟩
  intro c
  induction c with
  | seq x y _ ihy =>
    intro ls τ h k r he
    simp only [evD] at he ⊢
    split at he
    · rename_i ops init c hdi
      rcases evOps_leaf hlf _ he with ⟨τ', h', hl⟩ | ⟨v, τ', h', hl⟩
      · rw [hl] at he
        simp only [hl]
        split at he
        case h_2 => cases he
        rename_i fo hcal hargs
        split at he
        case h_2 => cases he
        rename_i g cap hrd
        split at he
        case isFalse => cases he
        rename_i hbody
        obtain ⟨ex, τ2, h2, hl2⟩ := evC_leaf hlf _ _ _ _ _ _ he
        rw [hl2] at he
        obtain ⟨out, h3, hl3⟩ := evAfter_leaf hlf he
        exact ⟨out, h3, fun k' => by simp only [if_pos hbody, hl2]; exact hl3 k'⟩
      · rw [hl] at he; cases he
    · rename_i hdi
      obtain ⟨ex, τ', h', hl⟩ := evC_leaf hlf _ _ _ _ _ _ he
      rw [hl] at he
      have out : ∀ (ex : AEx), evOut P fn ex τ' h' k = some r → ∃ out h2, ∀ k' : Out → Heap → Fin, evOut P fn ex τ' h' k' = k' out h2 := fun ex he => evOut_leaf he
      cases ex with
      | normal =>
        obtain ⟨o, h2, hl2⟩ := ihy _ he
        exact ⟨o, h2, fun k' => by simp only [hl]; exact hl2 k'⟩
      | exit id => obtain ⟨o, h2, hl2⟩ := out (.exit id) he; exact ⟨o, h2, fun k' => by simp only [hl]; exact hl2 k'⟩
      | ret => obtain ⟨o, h2, hl2⟩ := out .ret he; exact ⟨o, h2, fun k' => by simp only [hl]; exact hl2 k'⟩
      | pan v => obtain ⟨o, h2, hl2⟩ := out (.pan v) he; exact ⟨o, h2, fun k' => by simp only [hl]; exact hl2 k'⟩
  | _ => intro ls τ h k r he; exact plain _ ls he

/-- A function with one deferred closure. -/
theorem evDB_sound {P : Program} (hP : NoNum P) {cl : Caller} (hcl : CallerOK P cl) (hlf : CallerLeaf cl) {pu : FuncId → Bool} (hpu : PureOK pu cl) {m : Nat} {keep : List Nat} {f : FuncId} {fn : Func} {c : Code} (hf : P.funcs[f]? = some fn) (hb : fn.body = some c)
    {args : List AV} {h : Heap} {k : Out → Heap → Fin} {r : Out × Heap} (he : evD P cl pu m keep fn c [] (args ++ List.replicate (fn.ntmps - args.length) .undef) h k = some r) {ι : Emb} {w : World} {cargs : List Value} {R : Ending → World → Prop} (hr : Rep ι h w) (ha : VRs ι args cargs)
    (hk : CallOwes ι h w r k R) : CallsIn (W none) 0 P f cargs.toArray w R := by
  refine callsIn_of_wp_marks hf hb trivial ?_
  refine evD_sound hP hcl hlf hpu hk c he (.refl _ _ _) hr ?_ rfl
  have := ha.append (VRs.replicate (ι := ι) (fn.ntmps - args.length))
  simpa [ha.1] using this

end Go.Am
