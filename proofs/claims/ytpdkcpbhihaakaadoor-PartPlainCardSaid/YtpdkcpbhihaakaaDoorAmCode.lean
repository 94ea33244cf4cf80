/- Code and calls: what the evaluator says is what the machine does. The condition: no function is runtime.NumGoroutine. -/
import Derived.Test.YtpdkcpbhihaakaaDoorAmOps5
import Derived.TacticsIn
import Derived.RangeFuncRecord
import Derived.Scope
namespace Go.Am

def W (ρ : Option Nat) : Fence := { fn := fun _ => True, depth := none, alive := false, round := ρ }

theorem callsIn_W {P : Program} {f : FuncId} {args : Array Value} {w : World} {R : Ending → World → Prop} {ρ ρ' : Option Nat} (h : CallsIn (W ρ) 0 P f args w R) : CallsIn (W ρ') 0 P f args w R := h

theorem callsIn_mono {F : Fence} {n : Nat} {P : Program} {f : FuncId} {args : Array Value} {w : World} {R R' : Ending → World → Prop} (h : CallsIn F n P f args w R) (hr : ∀ e w', R e w' → R' e w') : CallsIn F n P f args w R' :=
  ⟨h.1, fun cs hroom => let ⟨e, w', fr, r, rest⟩ := h.2 cs hroom; ⟨e, w', fr, hr _ _ r, rest⟩⟩

inductive OutR (ι : Emb) : Out → Ending → Prop
  | ret {v : AV} {u : Value} (h : VR ι v u) : OutR ι (.ret v) (.returned u)
  | pan {v : AV} {u : Value} (h : VR ι v u) : OutR ι (.pan v) (.panicked [{ v := u, recovered := false }])

/-- What is owed behind a call. -/
def CallOwes (ι : Emb) (h : Heap) (w : World) (r : Out × Heap) (K : Out → Heap → Fin) (R : Ending → World → Prop) : Prop :=
  ∀ out h' ι' w' e, K out h' = some r → Ext ι h w ι' h' w' → Rep ι' h' w' → OutR ι' out e → R e w'

/-- A way to answer calls is sound. -/
structure CallerOK (P : Program) (cl : Caller) : Prop where
  fn : ∀ f args h K r, cl (.fn f) args h K = some r → ∀ ι w cargs (R : Ending → World → Prop), Rep ι h w → VRs ι args cargs → CallOwes ι h w r K R → CallsIn (W none) 0 P f cargs.toArray w R
  yld : ∀ b args h K r, cl (.yld b) args h K = some r → ∀ ι w cargs (R : Ending → World → Prop), Rep ι h w → VRs ι args cargs → CallOwes ι h w r K R →
    ∃ p l, ι b = some p ∧ w.heap[p.blk]? = some (.loop l) ∧ cargs.length = l.params.size ∧
      ∀ ρ, RoundIn (W ρ) 0 P p.blk l.fn ((l.params.zip cargs.toArray).foldl (fun tmps (t, a) => tmps.setIfInBounds t a) l.tmps) l.assign l.body w R

def NoNum (P : Program) : Prop := ∀ (f : Nat) (fn : Func), P.funcs[f]? = some fn → (fn.name == "runtime.NumGoroutine") = false

theorem put_sound {ι : Emb} {τ : List AV} {a : Act} (ht : VRs ι τ a.tmps.toList) (d : Option Tmp) {v : AV} {u : Value} (hv : VR ι v u) : VRs ι (put τ d v) (a.put d u).tmps.toList := by
  cases d with
  | none => exact ht
  | some d => simp only [put, Act.put, Array.toList_setIfInBounds]; exact ht.set d hv

theorem put_defers (a : Act) (d : Option Tmp) (u : Value) : (a.put d u).defers = a.defers := by cases d <;> rfl

theorem set_self {α : Type} {l : List α} {g : Nat} {x : α} (h : l[g]? = some x) : l.set g x = l := by
  apply List.ext_getElem?
  intro q
  rw [List.getElem?_set]
  split
  · rename_i e; subst e
    split
    · exact h.symm
    · rename_i hn; rw [List.getElem?_eq_none (by omega)]
  · rfl

theorem evOp1_sound {P : Program} (hP : NoNum P) {cl : Caller} (hcl : CallerOK P cl) {ρ : Option Nat} {o : Oper} {τ : List AV} {h : Heap} {k kp : AV → Heap → Fin} {r : Out × Heap} (he : evOp1 P cl o τ h k kp = some r)
    {ι : Emb} {w : World} {a : Act} (hr : Rep ι h w) (ht : VRs ι τ a.tmps.toList) {N : Act → World → Prop} {Q : Exit → Act → World → Prop}
    (hN : ∀ v h' ι' w' u, k v h' = some r → Ext ι h w ι' h' w' → Rep ι' h' w' → VR ι' v u → N (a.put o.dst u) w')
    (hp : ∀ v h' ι' w' u, kp v h' = some r → Ext ι h w ι' h' w' → Rep ι' h' w' → VR ι' v u → Q (.panic [{ v := u, recovered := false }]) a w') :
    o.wpIn (W ρ) 0 P a w N Q := by
  have base : evOp P o τ h k = some r → (∀ c, o.op ≠ .defer c) → o.wpIn (W ρ) 0 P a w N Q := by
    intro he hnd
    have hsem : Oper.semAt ρ a.eval o = execOp a.eval o := by
      cases ρ with
      | none => rfl
      | some l => unfold Oper.semAt; cases ho : o.op <;> first | rfl | exact absurd ho (hnd _)
    refine ⟨fun _ _ => trivial, ?_⟩
    show o.uponIn (W ρ) 0 P a N Q ((Oper.semAt ρ a.eval o).run P w)
    rw [hsem]
    obtain ⟨v, h', ι', w', hk, hE, hR, hcase⟩ := evOp_sound he hr ht
    rcases hcase with ⟨u, hrun, hv⟩ | ⟨hrun, hv⟩
    · rw [hrun]; exact hN v h' ι' w' u hk hE hR hv
    · rw [hrun]; subst hv; exact hN .undef h' ι' w' Go.undef hk hE hR .undef
  obtain ⟨dst, op, ty, pos, after, guard⟩ := o
  unfold evOp1 at he
  simp only at he
  split at he
  · rename_i c
    split at he
    · rename_i tg args htg
      -- a call of a function, or a round
      unfold target at htg
      split at htg
      case h_2 => cases htg
      rename_i fo hcal
      have hs : Oper.semAt (W ρ).round a.eval { dst := dst, op := .call c, type := ty, pos := pos, after := after, guard := guard } = execOp a.eval { dst := dst, op := .call c, type := ty, pos := pos, after := after, guard := guard } := by
        unfold Oper.semAt; cases ρ <;> rfl
      have hv := rd_VR ht fo
      have hargs0 := VRs.rdmap ht c.args.toList
      split at htg
      · rename_i g first cap hrd
        split at htg
        case isFalse => cases htg
        rename_i hbody
        cases htg
        rw [hrd] at hv
        generalize hfo : a.eval fo = fv at hv
        cases hv
        rename_i v1 v2 e1 g1 e2 g2
        have hfn : ∃ fn, P.funcs[g]? = some fn ∧ fn.body.isSome = true := by
          cases hq : P.funcs[g]? with
          | none => simp [hq] at hbody
          | some fn => exact ⟨fn, rfl, by simpa [hq] using hbody⟩
        obtain ⟨fn, hf, hfb⟩ := hfn
        have hargs : VRs ι (first ++ c.args.toList.map (rd τ) ++ cap) (v1 ++ c.args.toList.map a.eval ++ v2) := VRs.append (VRs.append ⟨e1, g1⟩ hargs0) ⟨e2, g2⟩
        have hcall := hcl.fn _ _ _ _ _ he ι w _ (fun e w' => match e with
            | .returned v => N (a.put dst v) w'
            | .panicked chain => Q (.panic chain) a w'
            | .outgrown => LetsOut Q) hr hargs (fun out h' ι' w' e hK hE hR hO => by
              cases hO with
              | ret hv => exact hN _ _ _ _ _ hK hE hR hv
              | pan hv => exact hp _ _ _ _ _ hK hE hR hv)
        refine ⟨fun _ _ => trivial, ?_⟩
        have hnb : fn.body.isNone = false := by cases hb : fn.body <;> simp_all
        have hrun : (Oper.semAt (W ρ).round a.eval { dst := dst, op := .call c, type := ty, pos := pos, after := after, guard := guard }).run P w = .ok (.enter g (v1 ++ c.args.toList.map a.eval ++ v2).toArray) w := by
          rw [hs]
          have hnn := hP g fn hf
          have harr : (⟨v1⟩ : Array Value) ++ c.args.map a.eval ++ (⟨v2⟩ : Array Value) = (v1 ++ c.args.toList.map a.eval ++ v2).toArray := by apply Array.ext'; simp
          simp only [execOp, resolve, hcal, hfo, Deferred.ofValue, Sem.run_bind, Sem.run_pure, Result.andThen_ok, invoke, callFunc, program, Sem.run, hf, hnn, hnb, Bool.false_eq_true, if_false, harr]
        rw [hrun]
        exact ⟨fun hd => by simp [W] at hd, callsIn_W (callsIn_mono hcall (fun e w' hR => by cases e <;> exact hR))⟩
      · rename_i b hrd
        cases htg
        rw [hrd] at hv
        obtain ⟨p, hb, hfo⟩ := hv.yld_inv
        obtain ⟨p', l, hb', hl, hsz, hround⟩ := hcl.yld _ _ _ _ _ he ι w _ (fun e w' => match e with
            | .returned v => N (a.put dst v) w'
            | .panicked chain => Q (.panic chain) a w'
            | .outgrown => LetsOut Q) hr hargs0 (fun out h' ι' w' e hK hE hR hO => by
              cases hO with
              | ret hv => exact hN _ _ _ _ _ hK hE hR hv
              | pan hv => exact hp _ _ _ _ _ hK hE hR hv)
        rw [hb] at hb'; cases hb'
        refine ⟨fun _ _ => trivial, ?_⟩
        have hrun : (Oper.semAt (W ρ).round a.eval { dst := dst, op := .call c, type := ty, pos := pos, after := after, guard := guard }).run P w =
            .ok (.round p.blk l.fn ((l.params.zip (c.args.toList.map a.eval).toArray).foldl (fun tmps (t, a) => tmps.setIfInBounds t a) l.tmps) l.assign l.body) w := by
          rw [hs]
          have hy := run_yield (P := P) (args := (c.args.toList.map a.eval).toArray) hl (by simpa using hsz)
          have harr : (#[] : Array Value) ++ c.args.map a.eval = (c.args.toList.map a.eval).toArray := by apply Array.ext'; simp
          simp only [execOp, resolve, hcal, hfo, Deferred.ofValue, Sem.run_bind, Sem.run_pure, Result.andThen_ok, invoke]
          rw [harr]
          exact hy
        rw [hrun]
        refine ⟨fun hd => by simp [W] at hd, ?_⟩
        exact (hround ρ).mono (fun e w' hR => by cases e <;> exact hR)
      · cases htg
    · exact base he (by simp)
  · rename_i x
    split at he
    · rename_i t v hx
      have hv := rd_VR ht x
      rw [hx] at hv
      generalize hxv : a.eval x = xv at hv
      have hv2 := hv
      cases hv
      refine ⟨fun _ _ => trivial, ?_⟩
      rename_i u hu
      have hrun : (Oper.semAt (W ρ).round a.eval { dst := dst, op := .panic x, type := ty, pos := pos, after := after, guard := guard }).run P w = .halt (.panic (.iface t u)) w := by
        have hs : Oper.semAt (W ρ).round a.eval { dst := dst, op := .panic x, type := ty, pos := pos, after := after, guard := guard } = execOp a.eval { dst := dst, op := .panic x, type := ty, pos := pos, after := after, guard := guard } := by
          unfold Oper.semAt; cases ρ <;> rfl
        rw [hs]
        simp [execOp, hxv, Instr.panic, goPanic]
      rw [hrun]
      exact hp _ _ _ _ _ he (.refl _ _ _) hr hv2
    · cases he
  · rename_i h1 h2
    exact base he (fun c hc => by simp only at hc; subst hc; simp [evOp] at he)

theorem put_size (a : Act) (d : Option Tmp) (u : Value) : (a.put d u).tmps.size = a.tmps.size := by cases d <;> simp [Act.put]

theorem evOps_sound {P : Program} (hP : NoNum P) {cl : Caller} (hcl : CallerOK P cl) {ρ : Option Nat} {all : Array Oper} {r : Out × Heap} {k : List AV → Heap → Fin} {kp : AV → List AV → Heap → Fin} :
    ∀ (l : List Oper) {τ : List AV} {h : Heap}, evOps P cl all l τ h k kp = some r → ∀ {ι : Emb} {w : World} {a : Act}, Rep ι h w → VRs ι τ a.tmps.toList → ∀ {Q : Exit → Act → World → Prop},
    (∀ τ' h' ι' w' a', k τ' h' = some r → Ext ι h w ι' h' w' → Rep ι' h' w' → VRs ι' τ' a'.tmps.toList → a'.defers = a.defers → Q .normal a' w') →
    (∀ v τ' h' ι' w' a' u, kp v τ' h' = some r → Ext ι h w ι' h' w' → Rep ι' h' w' → VR ι' v u → VRs ι' τ' a'.tmps.toList → a'.defers = a.defers → Q (.panic [{ v := u, recovered := false }]) a' w') →
    wpListIn (W ρ) 0 P all Q l a w := by
  intro l
  induction l with
  | nil =>
    intro τ h he ι w a hr ht Q hk hp
    exact hk τ h ι w a he (.refl _ _ _) hr ht rfl
  | cons o rest ih =>
    intro τ h he ι w a hr ht Q hk hp
    -- the operation is carried out
    have doIt : ∀ {τ : List AV}, evOp1 P cl o τ h (fun v h' => evOps P cl all rest (put τ o.dst v) h' k kp) (fun v h' => kp v τ h') = some r → VRs ι τ a.tmps.toList →
        o.wpIn (W ρ) 0 P a w (wpListIn (W ρ) 0 P all Q rest) Q := by
      intro τ he ht
      refine evOp1_sound hP hcl he hr ht ?_ ?_
      · intro v h' ι' w' u he' hE hR hv
        refine ih he' hR (put_sound (ht.mono hE.emb) o.dst hv) ?_ ?_
        · intro τ'' h'' ι'' w'' a'' e1 e2 e3 e4 e5
          exact hk τ'' h'' ι'' w'' a'' e1 (hE.trans e2) e3 e4 (e5.trans (put_defers ..))
        · intro v'' τ'' h'' ι'' w'' a'' u'' e1 e2 e3 e4 e6 e5
          exact hp v'' τ'' h'' ι'' w'' a'' u'' e1 (hE.trans e2) e3 e4 e6 (e5.trans (put_defers ..))
      · intro v h' ι' w' u he' hE hR hv
        exact hp v τ h' ι' w' a u he' hE hR hv (ht.mono hE.emb) rfl
    -- it is passed over
    have pass : ∀ {τ : List AV}, evOps P cl all rest (put τ o.dst .undef) h k kp = some r → VRs ι τ a.tmps.toList → wpListIn (W ρ) 0 P all Q rest (a.put o.dst Go.undef) w := by
      intro τ he ht
      refine ih he hr (put_sound ht o.dst .undef) ?_ ?_
      · intro τ'' h'' ι'' w'' a'' e1 e2 e3 e4 e5
        exact hk τ'' h'' ι'' w'' a'' e1 e2 e3 e4 (e5.trans (put_defers ..))
      · intro v'' τ'' h'' ι'' w'' a'' u'' e1 e2 e3 e4 e6 e5
        exact hp v'' τ'' h'' ι'' w'' a'' u'' e1 e2 e3 e4 e6 (e5.trans (put_defers ..))
    unfold evOps at he
    simp only [wpListIn]
    split at he
    · rename_i hg
      rw [if_pos (by simp [Region.wanted, hg])]
      exact doIt he ht
    · rename_i j want hg
      split at he
      · cases he
      · rename_i g hj
        split at he
        · rename_i c hc
          obtain ⟨u, hu1, hu2⟩ := ht.get hc
          have hu2 := hu2
          cases hu2
          have hy : yielded all a.tmps j = some c := by
            unfold yielded
            rw [hj]
            have : a.tmps[g]? = some (.bool c) := by simpa using hu1
            simp [this]
          have hw : Region.wanted o (yielded all a.tmps) = (c == want) := by
            simp only [Region.wanted, hg, hy]
            cases c <;> cases want <;> rfl
          rw [hw]
          cases c
          · rw [set_self hc] at he
            cases want
            · exact doIt (by simpa using he) ht
            · exact ⟨fun _ _ => trivial, pass (by simpa using he) ht⟩
          · rw [set_self hc] at he
            cases want
            · exact ⟨fun _ _ => trivial, pass (by simpa using he) ht⟩
            · exact doIt (by simpa using he) ht
        · rename_i hc
          obtain ⟨u, hu1, hu2⟩ := ht.get hc
          cases hu2
          have hy : yielded all a.tmps j = none := by
            unfold yielded
            rw [hj]
            have : a.tmps[g]? = some Go.undef := by simpa using hu1
            simp [this, Go.undef]
          have hw : Region.wanted o (yielded all a.tmps) = false := by
            simp only [Region.wanted, hg, hy]
            cases want <;> rfl
          rw [hw]
          exact ⟨fun _ _ => trivial, pass he ht⟩
        · cases he

end Go.Am
