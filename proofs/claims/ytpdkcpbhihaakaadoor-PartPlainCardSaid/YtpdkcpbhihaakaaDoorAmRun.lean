/- Code, functions, programs: what the evaluator says is what the machine does. The condition: no function is runtime.NumGoroutine. -/
import Derived.Test.YtpdkcpbhihaakaaDoorAmDraw
import Derived.Test.YtpdkcpbhihaakaaDoorAmPack
namespace Go.Am

theorem keepSome_sound {ι : Emb} {keep : List Nat} : ∀ {τ : List AV} {vs : List Value} (i : Nat), VRs ι τ vs → VRs ι (keepSome keep i τ) vs
  | [], vs, i, h => h
  | v :: τ, vs, i, h => by
    obtain ⟨u, us, rfl, hx, hl⟩ := h.cons_inv
    simp only [keepSome]
    refine .cons ?_ (keepSome_sound (i + 1) hl)
    split
    · exact hx
    · exact .any _

theorem keepIn_sound {ι : Emb} {keep : List Nat} {τ : List AV} {vs : List Value} (i : Nat) (h : VRs ι τ vs) : VRs ι (keepIn keep i τ) vs := by
  cases keep with
  | nil => exact h
  | cons x l => exact keepSome_sound i h

inductive ExR (ι : Emb) : AEx → Exit → Prop
  | normal : ExR ι .normal .normal
  | exit (id : Nat) : ExR ι (.exit id) (.exit id)
  | ret : ExR ι .ret .ret
  | pan {v : AV} {u : Value} (h : VR ι v u) : ExR ι (.pan v) (.panic [{ v := u, recovered := false }])

/-- What is kept of an activation's deferred calls: from which block on marks lie; may there be marks; what lies below them. -/
structure MK where
  B : Nat
  t : Bool
  T : List Deferred

/-- The deferred calls of an activation are marks of loops, in no round of which a call has been deferred, and what lay below. -/
def Marks (B : MK) (w : World) (ds : List Deferred) : Prop :=
  ∃ rs : List Nat, ds = rs.map (fun r => { target := .collected r, args := #[] }) ++ B.T ∧ rs.Nodup ∧ (∀ r ∈ rs, B.B ≤ r ∧ w.heap[r]? = some (.deferred (some []))) ∧ (B.t = false → rs = [])

theorem Marks.nil {b : Nat} {t : Bool} {w : World} {T : List Deferred} : Marks ⟨b, t, T⟩ w T := ⟨[], rfl, List.nodup_nil, fun r h => by simp at h, fun _ => rfl⟩

theorem Marks.keep {B : MK} {ι ι' : Emb} {h h' : Heap} {w w' : World} {ds : List Deferred} (m : Marks B w ds) (hr : Rep ι h w) (hE : Ext ι h w ι' h' w') : Marks B w' ds := by
  obtain ⟨rs, h1, h2, h3, h4⟩ := m
  refine ⟨rs, h1, h2, fun r hm => ⟨(h3 r hm).1, ?_⟩, h4⟩
  have hd := (h3 r hm).2
  rw [hE.keep r (Array.getElem?_eq_some_iff.1 hd).1 ?_, hd]
  intro b p x hb hx hp e
  obtain ⟨p', g1, _, g3⟩ := hr.there hb hx
  rw [hp] at g1; cases g1
  exact g3 _ (e ▸ hd)

theorem Rep.ghost {ι : Emb} {h : Heap} {w w' : World} (r : Rep ι h w) (hgv : ∀ g l, (g, l) ∈ gvT → w'.heap[g]? = w.heap[g]?) (hold : ∀ b p x, h[b]? = some x → x.has false = true → ι b = some p → w'.heap[p.blk]? = w.heap[p.blk]?) : Rep ι h w' := by
  refine ⟨⟨r.dom, fun b ty n cols rw hb => ?_, fun b st pe kp τ ps asg body hb => ?_, r.sep⟩, fun g l hg => by rw [hgv g l hg]; exact r.gl g l hg⟩
  · obtain ⟨p, C, fr, h1, h2, h3⟩ := r.mem b ty n cols rw hb
    exact ⟨p, C, fr, h1, (hold b p _ hb rfl h1).trans h2, h3⟩
  · obtain ⟨p, y, h1, h2, h3⟩ := r.lp b _ _ _ _ _ _ _ hb
    exact ⟨p, y, h1, (hold b p _ hb rfl h1).trans h2, h3⟩

theorem Rep.allocGhost {ι : Emb} {h : Heap} {w : World} (r : Rep ι h w) (o : Obj) : Rep ι h (w.alloc o) ∧ Ext ι h w ι h (w.alloc o) :=
  ⟨r.ghost (fun g l hg => by obtain ⟨⟨ty, fr, h1⟩, _⟩ := r.gl g l hg; exact heap_alloc_old w _ _ (Array.getElem?_eq_some_iff.1 h1).1) fun b p x hb hx hp => heap_alloc_old w _ _ (r.has_lt hb hx hp),
   ⟨fun _ _ h => h, rfl, rfl, rfl, by simp, fun k hk _ => heap_alloc_old w _ k hk, fun _ b p x h1 h2 h3 => .inr ⟨b, p, x, h1, h2, h3, rfl⟩, Nat.le_refl _, fun _ _ => rfl⟩⟩

/-- A block of marks is shut. -/
theorem Rep.shut {ι0 ι : Emb} {h0 h : Heap} {w0 w : World} (r : Rep ι h w) (hE : Ext ι0 h0 w0 ι h w) {k : Nat} {ds : Option (List Deferred)} (hk : w.heap[k]? = some (.deferred ds)) (hge : w0.heap.size ≤ k) (o : Obj) :
    Rep ι h (w.putObj k o) ∧ Ext ι0 h0 w0 ι h (w.putObj k o) :=
  ⟨r.ghost (fun g l hg => World.putObj_heap_other (fun e => by
      obtain ⟨⟨ty, fr, h1⟩, _⟩ := r.gl g l hg
      rw [← e, h1] at hk; cases hk)) fun b p x hb hx hp => World.putObj_heap_other (fun e => by
      obtain ⟨p', g1, _, g3⟩ := r.there hb hx
      rw [hp] at g1; cases g1
      exact g3 _ (e ▸ hk)),
   ⟨hE.emb, hE.os, hE.tape, hE.output, by simpa using hE.size, fun j hj hn => (World.putObj_heap_other (by omega)).trans (hE.keep j hj hn), hE.org, hE.len, hE.stay⟩⟩

/-- What is owed behind a piece of code, whatever way it is left. -/
def Owes (ι : Emb) (h : Heap) (w : World) (B : MK) (r : Out × Heap) (k : AEx → List AV → Heap → Fin) (Q : Exit → Act → World → Prop) : Prop :=
  ∀ ex τ' h' ι' w' a' e, k ex τ' h' = some r → Ext ι h w ι' h' w' → Rep ι' h' w' → VRs ι' τ' a'.tmps.toList → Marks B w' a'.defers → ExR ι' ex e → Q e a' w'

/-- A control's soundness against a piece of code. -/
def CtlOK (P : Program) (ρ : Option Nat) (top : Bool) (g : Ctl) (c : Code) : Prop :=
  ∀ {τ : List AV} {h : Heap} {k : AEx → List AV → Heap → Fin} {r : Out × Heap}, g τ h k = some r → ∀ {ι : Emb} {w : World} {a : Act} {B : MK}, Rep ι h w → VRs ι τ a.tmps.toList → B.B ≤ w.heap.size → (top = true → B.t = true) → Marks B w a.defers → ∀ {Q : Exit → Act → World → Prop},
    Owes ι h w B r k Q → c.wpIn (W ρ) 0 P Q a w

theorem Ext.packed {ι0 ι ι' : Emb} {h0 h h' : Heap} {w0 w : World} {base : Nat} (a : Ext ι0 h0 w0 ι h w) (hd : ∀ b p, ι0 b = some p → b < base) (hb0 : h0.length ≤ base) (hlen : ∀ n, n ≤ base → n ≤ h.length → n ≤ h'.length) (he : ∀ b, b < base → ι' b = ι b)
    (ho : ∀ q b p x, h'[b]? = some x → x.has q = true → ι' b = some p → ∃ b0 x0, h[b0]? = some x0 ∧ x0.has q = true ∧ ι b0 = some p) : Ext ι0 h0 w0 ι' h' w :=
  ⟨fun b p hb => by rw [he b (hd b p hb)]; exact a.emb b p hb, a.os, a.tape, a.output, a.size, a.keep, fun q b p x hb hx hp => by
    obtain ⟨b0, x0, h1, h2, h3⟩ := ho q b p x hb hx hp
    exact a.org q b0 p x0 h1 h2 h3, hlen _ hb0 a.len, fun b hb => (he b (Nat.lt_of_lt_of_le hb hb0)).trans (a.stay b hb)⟩

theorem loopN_sound {P : Program} {ρ : Option Nat} {top : Bool} {g : Ctl} {c : Code} (hg : CtlOK P ρ top g c) (keep : List Nat) {ι0 : Emb} {h0 : Heap} {w0 : World} {base : Nat} (hd : ∀ b p, ι0 b = some p → b < base) (hb0 : h0.length ≤ base) {B : MK} (hB : B.B ≤ w0.heap.size) (hT : top = true → B.t = true) : ∀ m, ∀ {τ : List AV} {h : Heap} {k : AEx → List AV → Heap → Fin} {r : Out × Heap}, loopN keep base g m τ h k = some r →
    ∀ {ι : Emb} {w : World} {a : Act}, Ext ι0 h0 w0 ι h w → Rep ι h w → VRs ι τ a.tmps.toList → Marks B w a.defers → ∀ {Q : Exit → Act → World → Prop}, Owes ι0 h0 w0 B r k Q → Code.roundsIn (W ρ) 0 P c Q m a w := by
  intro m
  induction m with
  | zero => intro τ h k r he; simp [loopN] at he
  | succ m ih =>
    intro τ h k r he ι w a hE0 hr ht hm Q hk
    rw [roundsIn_succ]
    simp only [loopN] at he
    obtain ⟨f, τ1, h1, ι1, he, hr1, hv1, _, hag, horg, hlen⟩ := pack_sound he hr
    have hE1 := hE0.packed hd hb0 hlen hag horg
    refine hg he hr1 (hv1 _ (keepIn_sound 0 ht)) (Nat.le_trans hB hE1.size) hT hm ?_
    intro ex τ' h' ι' w' a' e he' hE hR ht' hd' hex
    have out : ∀ {ex : AEx} {e : Exit}, pack base (keepIn keep 0 τ') ex.vals h' (fun f τ' h' => k (ex.map f) τ' h') = some r → ExR ι' ex e → Q e a' w' := by
      intro ex e he' hex
      obtain ⟨f2, τ2, h2, ι2, he2, hr2, hv2, hf2, hag2, horg2, hlen2⟩ := pack_sound he' hR
      refine hk _ _ _ _ _ _ _ he2 ((hE1.trans hE).packed hd hb0 hlen2 hag2 horg2) hr2 (hv2 _ (keepIn_sound 0 ht')) hd' ?_
      cases hex with
      | normal => exact .normal
      | exit id => exact .exit id
      | ret => exact .ret
      | pan hv => exact .pan (hf2 _ _ hv)
    cases hex with
    | normal => exact ih he' (hE1.trans hE) hR ht' hd' hk
    | exit id => exact out (ex := .exit id) he' (.exit id)
    | ret => exact out (ex := .ret) he' .ret
    | pan hv => exact out (ex := .pan _) he' (.pan hv)

theorem LT.leaf {t : LT} {k : AEx → List AV → Heap → Fin} {r : Out × Heap} (he : t.run k = some r) : ∃ ex τ h, ∀ k', t.run k' = k' ex τ h := by
  induction t with
  | none => cases he
  | done ex τ h => exact ⟨ex, τ, h, fun _ => rfl⟩
  | ite c a b iha ihb =>
    cases c
    · exact ihb he
    · exact iha he

theorem RT.leaf {t : RT} {k : Out → Heap → Fin} {r : Out × Heap} (he : t.run k = some r) : ∃ o h, t.get = some (o, h) ∧ ∀ k', t.run k' = k' o h := by
  induction t with
  | none => cases he
  | done o h => exact ⟨o, h, rfl, fun _ => rfl⟩
  | ite c a b iha ihb =>
    cases c
    · exact ihb he
    · exact iha he

theorem RT.run_get {t : RT} {o : Out} {h : Heap} (he : t.get = some (o, h)) (k : Out → Heap → Fin) : t.run k = k o h := by
  induction t with
  | none => cases he
  | done o h => cases he; rfl
  | ite c a b iha ihb =>
    cases c
    · exact ihb he
    · exact iha he

/-- Loops of which something is told: it is true. -/
def LSOK (P : Program) (cl : Caller) (pu : FuncId → Bool) (m : Nat) (keep : List Nat) (top : Bool) : Code → List LI → Prop
  | .seq a b, ls => LSOK P cl pu m keep top a ls ∧ LSOK P cl pu m keep top b (ls.drop (nloops a))
  | .cond _ a b, ls => LSOK P cl pu m keep top a ls ∧ LSOK P cl pu m keep top b (ls.drop (nloops a))
  | .block _ c, ls => LSOK P cl pu m keep top c ls
  | .scope c, ls => LSOK P cl pu m keep top c ls
  | .loop c, ls => LSOK P cl pu m keep top c (ls.drop 1) ∧ ∀ s, ls.head? = some (.spec s) → ∀ τ h k r, (s τ h).run k = some r → loopN keep h.length (fun τ h k => evC P cl pu m keep top c (ls.drop 1) τ h k) m τ h k = some r
  | _, _ => True

theorem LSOK_nil {P : Program} {cl : Caller} {pu : FuncId → Bool} {m : Nat} {keep : List Nat} {top : Bool} (c : Code) : LSOK P cl pu m keep top c [] := by
  induction c with
  | seq a b iha ihb => exact ⟨iha, by simpa using ihb⟩
  | cond c a b iha ihb => exact ⟨iha, by simpa using ihb⟩
  | block id c ih => exact ih
  | scope c ih => exact ih
  | loop c ih => exact ⟨by simpa using ih, fun s h => by simp at h⟩
  | _ => trivial

theorem wpIn_scope {P : Program} {F : Fence} {n : Nat} {c : Code} {Q : Exit → Act → World → Prop} {a : Act} {w : World} (h : c.wpIn F n P (Exit.noGoto Q) a w) : (Code.scope c).wpIn F n P Q a w := by
  intro b k cs hro hb hr
  have st : step P (lone (b.atR a (.code (.scope c) :: k)) cs w) = .next (lone (b.atR a (.code c :: .inScope c :: k)) cs w) := step_lone_go (by simp [stepG, stepG.exec, Frame.atR])
  have st2 : ∀ (a : Act) (w : World), step P (lone (b.atR a (.inScope c :: k)) cs w) = .next (lone (b.atR a k) cs w) := fun a w => step_lone_go (by simp [stepG, stepG.exec, Frame.atR])
  have h0 : (lone (b.atR a (.code (.scope c) :: k)) cs w).fenced P F := fenced_calm hb hr rfl
  obtain ⟨e, a₁, w₁, hq, harr⟩ := h b (.inScope c :: k) cs hro hb hr
  cases e with
  | normal => exact ⟨.normal, a₁, w₁, hq, .head h0 st (StepsIn.trans harr (.one (fenced_calm hb hr rfl) (st2 _ _)))⟩
  | exit id =>
    have hx : exitTo id (.inScope c :: k) = exitTo id k := by simp [exitTo]
    exact ⟨.exit id, a₁, w₁, hq, fun k' hk => .head h0 st (harr.1 k' (by rw [hx]; exact hk)), fun hr' hk => let ⟨k₁, h1, h2⟩ := harr.2 hr' (by rw [hx]; exact hk); ⟨k₁, h1, .head h0 st h2⟩⟩
  | goto l => exact hq.elim
  | ret => exact ⟨_, a₁, w₁, hq, .of_steps (.one h0 st) harr⟩
  | panic ch => exact ⟨_, a₁, w₁, hq, .of_steps (.one h0 st) harr⟩
  | outgrown => exact ⟨_, a₁, w₁, hq, .of_steps (.one h0 st) harr⟩

theorem loopAt_some {h : Heap} {b : Nat} {x : LoopState × Option Code × List Nat × List AV × List Tmp × Code × Code} (hl : loopAt h b = some x) : h[b]? = some (.loop x.1 x.2.1 x.2.2.1 x.2.2.2.1 x.2.2.2.2.1 x.2.2.2.2.2.1 x.2.2.2.2.2.2) := by
  unfold loopAt at hl
  split at hl
  · rename_i hb; cases hl; exact hb
  · cases hl

/-- A loop's record written over. -/
theorem Rep.record {ι : Emb} {h : Heap} {w : World} (r : Rep ι h w) {b : Nat} {st : LoopState} {pe : Option Code} {kp : List Nat} {τ : List AV} {ps : List Tmp} {asg body : Code} (hb : h[b]? = some (.loop st pe kp τ ps asg body))
    {p : Place} {y : Loop} (hp : ι b = some p) (hy : w.heap[p.blk]? = some (.loop y)) (st' : LoopState) (pe' : Option Code) :
    (Rep ι (h.set b (.loop st' pe' kp τ ps asg body)) (w.putObj p.blk (.loop { y with state := st', pending := pe' })) ∧ Ext ι h w ι (h.set b (.loop st' pe' kp τ ps asg body)) (w.putObj p.blk (.loop { y with state := st', pending := pe' }))) ∧
    (Rep ι (h.set b .dead) (w.putObj p.blk (.loop { y with state := st', pending := pe' })) ∧ Ext ι h w ι (h.set b .dead) (w.putObj p.blk (.loop { y with state := st', pending := pe' }))) := by
  obtain ⟨q, y', g1, g2, g3, g4, g5, g6, g7, g8⟩ := r.lp b _ _ _ _ _ _ _ hb
  rw [hp] at g1; cases g1
  rw [hy] at g2; cases g2
  have hlt := (Array.getElem?_eq_some_iff.1 hy).1
  constructor
  · refine r.over _ hb rfl hp (fun k hk => World.putObj_heap_other hk) (by simp) rfl rfl rfl (fun ty n cols rw e => by cases e) ?_
    intro st2 pe2 kp2 τ2 ps2 asg2 body2 e
    cases e
    exact ⟨_, World.putObj_heap_same hlt, rfl, rfl, g5, g6, g7, g8⟩
  · exact r.over .dead hb rfl hp (fun k hk => World.putObj_heap_other hk) (by simp) rfl rfl rfl (fun ty n cols rw e => by cases e) (fun _ _ _ _ _ _ _ e => by cases e)

theorem evRange_sound {P : Program} (hP : NoNum P) {cl : Caller} (hcl : CallerOK P cl) {keep : List Nat} (g : Operand) (ps : Array Tmp) (asg body : Code) {τ : List AV} {h : Heap} {k : AEx → List AV → Heap → Fin} {r : Out × Heap}
    (he : evRange P cl keep (rd τ g) ps asg body τ h k = some r) {ι : Emb} {w : World} {a : Act} {B : MK} (hr : Rep ι h w) (ht : VRs ι τ a.tmps.toList) (hB : B.B ≤ w.heap.size) (hT : B.t = true) (hm : Marks B w a.defers) {Q : Exit → Act → World → Prop}
    (hk : Owes ι h w B r k Q) : (Code.rangeFunc g ps asg body).wpIn (W none) 0 P Q a w := by
  have hv := rd_VR ht g
  generalize ha : a.eval g = fv at hv
  unfold evRange at he
  split at he
  case h_2 => cases he
  rename_i f first cap hrd
  rw [hrd] at hv
  split at he
  case isFalse => cases he
  rename_i hbody
  cases hv
  rename_i v1 v2 e1 g1 e2 g2
  have hfn : ∃ fn, P.funcs[f]? = some fn ∧ fn.body.isSome = true := by
    cases hq : P.funcs[f]? with
    | none => simp [hq] at hbody
    | some fn => exact ⟨fn, rfl, by simpa [hq] using hbody⟩
  obtain ⟨fn, hf, hfb⟩ := hfn
  have hnb : fn.body.isNone = false := by cases hb : fn.body <;> simp_all
  have hnn := hP f fn hf
  refine wpIn_rangeFunc ?_
  intro own _
  obtain ⟨rec, hrec⟩ : ∃ rec : Loop, rec = { state := .ready, pending := none, fn := own, tmps := a.tmps, params := ps, assign := asg, body := body, defers := w.heap.size } := ⟨_, rfl⟩
  obtain ⟨hR0, hE0⟩ := hr.allocGhost (.deferred (some []))
  obtain ⟨hR1, hE1⟩ := hR0.push (.loop .ready none keep τ ps.toList asg body) (.loop rec) ⟨w.heap.size + 1, 0, 0, 0⟩ (by simp) (fun ty n cols rw e => by cases e) (fun st pe kp τ0 ps0 asg0 body0 e => by
    cases e; subst hrec; exact ⟨_, rfl, rfl, rfl, rfl, rfl, rfl, ht⟩)
  have hm1 : Marks B ((w.alloc (.deferred (some []))).alloc (.loop rec)) ([{ target := .collected w.heap.size, args := #[] }] ++ a.defers) := by
    obtain ⟨rs, n1, n2, n3, _⟩ := hm
    refine ⟨w.heap.size :: rs, by rw [n1]; rfl, List.nodup_cons.2 ⟨fun hmem => ?_, n2⟩, fun q hq => ?_, fun e => by rw [hT] at e; cases e⟩
    · have := (Array.getElem?_eq_some_iff.1 (n3 _ hmem).2).1; omega
    · rcases List.mem_cons.1 hq with rfl | hq
      · refine ⟨hB, ?_⟩
        rw [heap_alloc_old _ _ _ (by simp)]
        exact World.alloc_heap_new w _
      · have hlt := (Array.getElem?_eq_some_iff.1 (n3 _ hq).2).1
        refine ⟨(n3 q hq).1, ?_⟩
        rw [heap_alloc_old _ _ _ (by simp; omega), heap_alloc_old _ _ _ hlt]
        exact (n3 q hq).2
  have hyv : VR (embAdd ι h.length ⟨w.heap.size + 1, 0, 0, 0⟩) (.yld h.length) (.func (.yield (w.heap.size + 1)) #[] #[]) := .yld (p := ⟨w.heap.size + 1, 0, 0, 0⟩) (by simp [embAdd])
  have hEE := hE0.trans hE1
  have hargs : VRs (embAdd ι h.length ⟨w.heap.size + 1, 0, 0, 0⟩) (first ++ [.yld h.length] ++ cap) (v1 ++ [Value.func (.yield (w.heap.size + 1)) #[] #[]] ++ v2) :=
    VRs.append (VRs.append (VRs.mono hEE.emb ⟨e1, g1⟩) (.cons hyv .nil)) (VRs.mono hEE.emb ⟨e2, g2⟩)
  have harr : (⟨v1⟩ : Array Value) ++ #[Value.func (.yield (w.heap.size + 1)) #[] #[]] ++ (⟨v2⟩ : Array Value) = (v1 ++ [Value.func (.yield (w.heap.size + 1)) #[] #[]] ++ v2).toArray := by apply Array.ext'; simp
  have harr1 : (⟨v1⟩ : Array Value) ++ #[Value.func (.yield (w.heap.size + 1)) #[] #[]] = (v1 ++ [Value.func (.yield (w.heap.size + 1)) #[] #[]]).toArray := by apply Array.ext'; simp
  refine ⟨w.heap.size + 1, [{ target := .collected w.heap.size, args := #[] }], (w.alloc (.deferred (some []))).alloc (.loop rec),
    { target := .fn (.func f) ⟨v2⟩, args := (v1 ++ [Value.func (.yield (w.heap.size + 1)) #[] #[]]).toArray }, (w.alloc (.deferred (some []))).alloc (.loop rec), f,
    (v1 ++ [Value.func (.yield (w.heap.size + 1)) #[] #[]] ++ v2).toArray, (w.alloc (.deferred (some []))).alloc (.loop rec), ?_, ?_, fun _ _ => trivial, ?_, fun hd => by simp [W] at hd, ?_⟩
  · subst hrec; exact run_enterLoop_outer _ _ _ _ _
  · simp only [resolve, rangeCall, ha, Deferred.ofValue, Sem.run_bind, Sem.run_pure, Result.andThen_ok]
    simp [Act.eval]
  · have harr2 : (v1 ++ [Value.func (.yield (w.heap.size + 1)) #[] #[]]).toArray ++ (⟨v2⟩ : Array Value) = (v1 ++ [Value.func (.yield (w.heap.size + 1)) #[] #[]] ++ v2).toArray := by apply Array.ext'; simp
    simp only [invoke, callFunc, program, Sem.run_bind, Sem.run, Result.andThen_ok, hf, hnn, hnb, Bool.false_eq_true, if_false, harr2]
    rfl
  · refine hcl.fn _ _ _ _ _ he _ _ _ _ hR1 hargs ?_
    intro out h' ι' w' e hK hE hR hO
    have hm' := hm1.keep hR1 hE
    have hpl : ι' h.length = some ⟨w.heap.size + 1, 0, 0, 0⟩ := hE.emb _ _ (by simp [embAdd])
    have htv : VRs ι' τ a.tmps.toList := ht.mono (hEE.trans hE).emb
    have fin : ∀ {st : LoopState} {pe : Option Code} {rest : List Nat × List AV × List Tmp × Code × Code}, loopAt h' h.length = some (st, pe, rest) → st ≠ .busy →
        ∃ w4, (Instr.endLoop (w.heap.size + 1)).run P w' = .ok pe w4 ∧ Rep ι' (h'.set h.length .dead) w4 ∧ Ext ι h w ι' (h'.set h.length .dead) w4 ∧ Marks B w4 ([{ target := .collected w.heap.size, args := #[] }] ++ a.defers) := by
      intro st pe rest hl hst
      have hb := loopAt_some hl
      obtain ⟨p, y, q1, q2, q3, q4, _⟩ := hR.lp _ _ _ _ _ _ _ _ hb
      rw [hpl] at q1; cases q1
      have hrun := run_endLoop (P := P) q2 (by rw [q3]; exact hst)
      obtain ⟨_, hRd, hEd⟩ := hR.record hb hpl q2 .exhausted y.pending
      refine ⟨_, hrun.trans ?_, hRd, (hEE.trans hE).trans hEd, hm'.keep hR hEd⟩
      rw [q4]
    dsimp only at hK
    split at hK
    · rename_i v _ hl
      cases hO
      obtain ⟨w4, f1, f2, f3, f4⟩ := fin hl (by simp)
      exact ⟨none, w4, f1, hk _ _ _ _ _ _ _ hK f3 f2 htv f4 .normal⟩
    · rename_i v _ hl
      cases hO
      obtain ⟨w4, f1, f2, f3, f4⟩ := fin hl (by simp)
      exact ⟨_, w4, f1, wpIn_ret (hk _ _ _ _ _ _ _ hK f3 f2 htv f4 .ret)⟩
    · rename_i v _ id hl
      cases hO
      obtain ⟨w4, f1, f2, f3, f4⟩ := fin hl (by simp)
      exact ⟨_, w4, f1, wpIn_exit (hk _ _ _ _ _ _ _ hK f3 f2 htv f4 (.exit _))⟩
    · rename_i v _
      cases hO
      rename_i u hu
      exact hk _ _ _ _ _ _ _ hK (hEE.trans hE) hR htv hm' (.pan hu)
    · cases hK

theorem evC_sound {P : Program} (hP : NoNum P) {cl : Caller} (hcl : CallerOK P cl) (hlf : CallerLeaf cl) {pu : FuncId → Bool} (hpu : PureOK pu cl) {ρ : Option Nat} {m : Nat} {keep : List Nat} {top : Bool} (htop : top = true → ρ = none) : ∀ (c : Code) (ls : List LI), LSOK P cl pu m keep top c ls → CtlOK P ρ top (evC P cl pu m keep top c ls) c := by
  intro c
  induction c with
  | skip => intro ls _ τ h k r he ι w a B hr ht hB hT hm Q hk; exact wpIn_skip (hk _ _ _ _ _ _ _ he (.refl _ _ _) hr ht hm .normal)
  | label l => intro ls _ τ h k r he ι w a B hr ht hB hT hm Q hk; exact wpIn_label (hk _ _ _ _ _ _ _ he (.refl _ _ _) hr ht hm .normal)
  | region id ops draw =>
    intro ls _ τ h k r he ι w a B hr ht hB hT hm Q hk
    cases draw with
    | true =>
      simp only [evC] at he
      split at he
      case isFalse => cases he
      rename_i hc
      refine wpIn_region_any hc ?_
      have := draw_sound hP hcl hlf hpu (ρ := ρ) he (hr.drew) ht (Q := Q) (fun τ' h' ι' w' a' e1 e2 e3 e4 e5 => hk _ _ _ _ _ _ _ e1 (Ext.trans .drew e2) e3 e4 (e5 ▸ (hm.keep hr .drew).keep hr.drew e2) .normal) _ rfl
      exact this
    | false =>
      simp only [evC] at he
      exact wpIn_region_list (evOps_sound hP hcl ops.toList he hr ht (fun τ' h' ι' w' a' e1 e2 e3 e4 e5 => hk _ _ _ _ _ _ _ e1 e2 e3 e4 (e5 ▸ hm.keep hr e2) .normal) (fun v τ' h' ι' w' a' u e1 e2 e3 e4 e6 e5 =>
        hk _ _ _ _ _ _ _ e1 e2 e3 e6 (e5 ▸ hm.keep hr e2) (.pan e4)))
  | seq x y ihx ihy =>
    intro ls hls τ h k r he ι w a B hr ht hB hT hm Q hk
    simp only [evC] at he
    refine wpIn_seq (ihx ls hls.1 he hr ht hB hT hm ?_)
    intro ex τ' h' ι' w' a' e he' hE hR ht' hd hex
    cases hex with
    | normal =>
      refine ihy _ hls.2 he' hR ht' (Nat.le_trans hB hE.size) hT hd ?_
      intro ex2 τ2 h2 ι2 w2 a2 e2 k1 k2 k3 k4 k5 k6
      exact hk ex2 τ2 h2 ι2 w2 a2 e2 k1 (hE.trans k2) k3 k4 k5 k6
    | exit id => exact hk _ _ _ _ _ _ _ he' hE hR ht' hd (.exit id)
    | ret => exact hk _ _ _ _ _ _ _ he' hE hR ht' hd .ret
    | pan hv => exact hk _ _ _ _ _ _ _ he' hE hR ht' hd (.pan hv)
  | cond c x y ihx ihy =>
    intro ls hls τ h k r he ι w a B hr ht hB hT hm Q hk
    simp only [evC] at he
    split at he
    · rename_i t hc
      have hv := rd_VR ht c
      rw [hc] at hv
      have hv := bool_inv hv
      cases t
      · exact wpIn_cond hv (ihy _ hls.2 he hr ht hB hT hm hk)
      · exact wpIn_cond hv (ihx _ hls.1 he hr ht hB hT hm hk)
    · cases he
  | block id c ih =>
    intro ls hls τ h k r he ι w a B hr ht hB hT hm Q hk
    simp only [evC] at he
    refine wpIn_block (ih ls hls he hr ht hB hT hm ?_)
    intro ex τ' h' ι' w' a' e he' hE hR ht' hd hex
    cases hex with
    | normal => exact hk _ _ _ _ _ _ _ he' hE hR ht' hd .normal
    | exit id' =>
      simp only at he'
      simp only [Exit.inBlock]
      split at he'
      · rename_i heq; rw [if_pos heq]; exact hk _ _ _ _ _ _ _ he' hE hR ht' hd .normal
      · rename_i hne; rw [if_neg hne]; exact hk _ _ _ _ _ _ _ he' hE hR ht' hd (.exit id')
    | ret => exact hk _ _ _ _ _ _ _ he' hE hR ht' hd .ret
    | pan hv => exact hk _ _ _ _ _ _ _ he' hE hR ht' hd (.pan hv)
  | loop c ih =>
    intro ls hls τ h k r he ι w a B hr ht hB hT hm Q hk
    simp only [evC] at he
    have he2 : ∃ keep', loopN keep' h.length (fun τ h k => evC P cl pu m keep top c (ls.drop 1) τ h k) m τ h k = some r := by
      split at he
      · rename_i s rest
        exact ⟨keep, hls.2 s (by simp) τ h k r he⟩
      · exact ⟨_, he⟩
      · exact ⟨keep, he⟩
    obtain ⟨keep', he2⟩ := he2
    exact wpIn_loop_rounds m (loopN_sound (ih _ hls.1) keep' hr.dom (Nat.le_refl _) hB hT m he2 (.refl _ _ _) hr ht hm hk)
  | exit id => intro ls _ τ h k r he ι w a B hr ht hB hT hm Q hk; exact wpIn_exit (hk _ _ _ _ _ _ _ he (.refl _ _ _) hr ht hm (.exit id))
  | scope c ih =>
    intro ls hls τ h k r he ι w a B hr ht hB hT hm Q hk
    simp only [evC] at he
    refine wpIn_scope (ih ls hls he hr ht hB hT hm ?_)
    intro ex τ' h' ι' w' a' e he' hE hR ht' hd hex
    have := hk _ _ _ _ _ _ _ he' hE hR ht' hd hex
    cases hex <;> exact this
  | ret => intro ls _ τ h k r he ι w a B hr ht hB hT hm Q hk; exact wpIn_ret (hk _ _ _ _ _ _ _ he (.refl _ _ _) hr ht hm .ret)
  | rangeFunc g ps asg body =>
    intro ls _ τ h k r he ι w a B hr ht hB hT hm Q hk
    simp only [evC] at he
    split at he
    · rename_i htt
      rw [htop htt]
      exact evRange_sound hP hcl g ps asg body he hr ht hB (hT htt) hm hk
    · cases he
  | goto l => intro ls _ τ h k r he; simp [evC] at he
  | refuse why => intro ls _ τ h k r he; simp [evC] at he

theorem VRs.replicate {ι : Emb} (n : Nat) : VRs ι (List.replicate n .undef) (List.replicate n Go.undef) := by
  induction n with
  | zero => exact .nil
  | succ n ih => rw [List.replicate_succ, List.replicate_succ]; exact .cons .undef ih

theorem res_sound {P : Program} {ι : Emb} {h : Heap} {w : World} (r : Rep ι h w) {τ : List AV} {tmps : Array Value} (ht : VRs ι τ tmps.toList) : ∀ {rs : List ResultVar} {l : List AV}, resAll P τ h rs = some l →
    ∃ us, (rs.mapM fun | .tmp t => pure (tmps.getD t Go.undef) | .cell a t => do loadVar t (← asAddr (tmps.getD a Go.undef)) : Sem (List Value)).run P w = .ok us w ∧ VRs ι l us := by
  have rdt : ∀ t, VR ι (rd τ (.tmp t)) (tmps.getD t Go.undef) := fun t => rd_VR (a := { tmps := tmps, defers := [] }) ht (.tmp t)
  intro rs
  induction rs with
  | nil => intro l h; simp [resAll] at h; subst h; exact ⟨[], rfl, .nil⟩
  | cons x rs ih =>
    intro l hl
    simp only [resAll] at hl
    split at hl
    · rename_i v vs hx hvs
      cases hl
      obtain ⟨us, h1, h2⟩ := ih hvs
      rw [List.mapM_cons]
      cases x with
      | tmp t =>
        have hv : VR ι v (tmps.getD t Go.undef) := by
          have := rdt t
          simp only [resOne] at hx
          simp only [rd, List.getD_eq_getElem?_getD, hx] at this
          exact this
        exact ⟨_ :: us, by simp only [Sem.run_bind, Sem.run_pure, Result.andThen_ok, h1], .cons hv h2⟩
      | cell c t =>
        simp only [resOne] at hx
        split at hx
        · rename_i b i j hc
          have := rdt c
          rw [hc] at this
          obtain ⟨p, hp, hu⟩ := this.ptr_inv
          obtain ⟨u, g1, g2⟩ := load_sound r hx hp
          have has : (asAddr (tmps.getD c Go.undef)).run P w = .ok ⟨p.blk, p.sh + i * p.wd + j, none⟩ w := by rw [hu]; rfl
          exact ⟨u :: us, by simp only [Sem.run_bind, Sem.run_pure, Result.andThen_ok, has, g1, h1], .cons g2 h2⟩
        · cases hx
    · cases hl

theorem results_sound {P : Program} {ι : Emb} {h : Heap} {w : World} (r : Rep ι h w) {τ : List AV} {tmps : Array Value} (ht : VRs ι τ tmps.toList) {fn : Func} {l : List AV} (hl : resAll P τ h fn.results.toList = some l) :
    ∃ u, (results fn tmps).run P w = .ok u w ∧ VR ι (tupOf l) u := by
  obtain ⟨us, h1, h2⟩ := res_sound r ht hl
  refine ⟨if h : us.toArray.size = 1 then us.toArray[0] else .tuple us.toArray, ?_, ?_⟩
  · unfold results
    rw [Array.mapM_eq_mapM_toList]
    simp only [Sem.run_bind, Sem.run_map, Sem.run_pure]
    erw [h1]
    rfl
  · cases l with
    | nil => rw [h2.nil_inv]; exact .tup (l := []) (vs := []) rfl (fun i x u h => by simp at h)
    | cons x l =>
      obtain ⟨u, us', rfl, hx, hs⟩ := h2.cons_inv
      cases l with
      | nil => rw [hs.nil_inv]; exact hx
      | cons y l =>
        obtain ⟨u2, us2, rfl, hy, hs2⟩ := hs.cons_inv
        rw [dif_neg (by simp)]
        exact .tup (vs := u :: u2 :: us2) h2.1 h2.2

/-- Behind the body: the marks are taken off. -/
theorem leaves_marks {P : Program} {fn : Func} {tmps : Array Value} {R : Ending → World → Prop} {T : List Deferred} {ι0 ι : Emb} {h0 h : Heap} {w0 : World} {u : FrameMode} (hu : u ≠ .run) : ∀ (rs : List Nat) {w : World}, Rep ι h w → Ext ι0 h0 w0 ι h w → rs.Nodup → (∀ r ∈ rs, w0.heap.size ≤ r ∧ w.heap[r]? = some (.deferred (some []))) →
    (∀ w', Rep ι h w' → Ext ι0 h0 w0 ι h w' → LeavesInM (W none) 0 P fn tmps R T u w') → LeavesInM (W none) 0 P fn tmps R (rs.map (fun r => { target := .collected r, args := #[] }) ++ T) u w := by
  intro rs
  induction rs with
  | nil => intro w hr hE _ _ hk; exact hk w hr hE
  | cons r rs ih =>
    intro w hr hE hn hm hk
    obtain ⟨h1, h2⟩ := hm r (by simp)
    obtain ⟨hn1, hn2⟩ := List.nodup_cons.1 hn
    refine ⟨hu, .inl ⟨r, _, rfl, run_takeDeferred h2, ?_⟩⟩
    obtain ⟨hr', hE'⟩ := hr.shut hE h2 h1 (.deferred none)
    refine ih hr' hE' hn2 (fun q hq => ?_) hk
    have hq2 := hm q (by simp [hq])
    exact ⟨hq2.1, (World.putObj_heap_other (fun e => hn1 (by subst e; exact hq))).trans hq2.2⟩

theorem evB_sound {P : Program} (hP : NoNum P) {cl : Caller} (hcl : CallerOK P cl) (hlf : CallerLeaf cl) {pu : FuncId → Bool} (hpu : PureOK pu cl) {m : Nat} {keep : List Nat} {ls : List LI} {f : FuncId} {fn : Func} {c : Code} (hf : P.funcs[f]? = some fn) (hb : fn.body = some c) (hls : LSOK P cl pu m keep true c ls)
    {args : List AV} {h : Heap} {k : Out → Heap → Fin} {r : Out × Heap} (he : evB P cl pu m keep ls fn c args h k = some r) {ι : Emb} {w : World} {cargs : List Value} {R : Ending → World → Prop} (hr : Rep ι h w) (ha : VRs ι args cargs)
    (hk : CallOwes ι h w r k R) : CallsIn (W none) 0 P f cargs.toArray w R := by
  unfold evB at he
  refine callsIn_of_wp_marks hf hb trivial ?_
  refine evC_sound hP hcl hlf hpu (fun _ => rfl) c ls hls he hr ?_ (B := ⟨w.heap.size, true, []⟩) (Nat.le_refl _) (fun _ => rfl) .nil ?_
  · have := ha.append (VRs.replicate (ι := ι) (fn.ntmps - args.length))
    simpa [ha.1] using this
  · intro ex τ' h' ι' w' a' e he' hE hR ht' hd hex
    obtain ⟨rs, m1, m2, m3, _⟩ := hd
    have done : ∀ {e}, (match resAll P τ' h' fn.results.toList with | some l => k (.ret (tupOf l)) h' | none => none) = some r → (e = .normal ∨ e = .ret) → bodyPostM (W none) 0 P fn R e a' w' := by
      intro e he' hee
      split at he'
      · rename_i l hl
        have : LeavesInM (W none) 0 P fn a'.tmps R a'.defers .returning w' := by
          rw [m1]
          refine leaves_marks (by simp) rs hR hE m2 m3 ?_
          intro w2 hR2 hE2
          obtain ⟨u, h1, h2⟩ := results_sound hR2 ht' hl
          exact ⟨u, h1, hk _ _ _ _ _ he' hE2 hR2 (.ret h2)⟩
        rcases hee with rfl | rfl <;> exact this
      · cases he'
    cases hex with
    | normal => exact done he' (.inl rfl)
    | exit id => cases he'
    | ret => exact done he' (.inr rfl)
    | pan hv =>
      show LeavesInM (W none) 0 P fn a'.tmps R a'.defers (.panicking _) w'
      rw [m1]
      exact leaves_marks (by simp) rs hR hE m2 m3 (fun w2 hR2 hE2 => hk _ _ _ _ _ he' hE2 hR2 (.pan hv))

theorem putAll_sound {ι : Emb} : ∀ {ts : List Tmp} {τ vs : List AV} {us : List Value} {tmps : Array Value}, VRs ι τ tmps.toList → VRs ι vs us → VRs ι (putAll τ ts vs) ((ts.zip us).foldl (fun tmps (t, a) => tmps.setIfInBounds t a) tmps).toList := by
  intro ts
  induction ts with
  | nil => intro τ vs us tmps ht _; simpa [putAll] using ht
  | cons t ts ih =>
    intro τ vs us tmps ht hv
    cases vs with
    | nil => rw [hv.nil_inv]; simpa [putAll] using ht
    | cons v vs =>
      obtain ⟨u, us', rfl, h1, h2⟩ := hv.cons_inv
      simp only [putAll, List.zip_cons_cons, List.foldl_cons]
      exact ih (by rw [Array.toList_setIfInBounds]; exact ht.set t h1) h2

theorem evRound_sound {P : Program} (hP : NoNum P) {cl : Caller} (hcl : CallerOK P cl) (hlf : CallerLeaf cl) {pu : FuncId → Bool} (hpu : PureOK pu cl) {m : Nat} {b : Nat} {args : List AV} {h : Heap} {K : Out → Heap → Fin} {r : Out × Heap}
    (he : evRound P cl pu m b args h K = some r) {ι : Emb} {w : World} {cargs : List Value} {R : Ending → World → Prop} (hr : Rep ι h w) (ha : VRs ι args cargs) (hk : CallOwes ι h w r K R) :
    ∃ p l, ι b = some p ∧ w.heap[p.blk]? = some (.loop l) ∧ cargs.length = l.params.size ∧
      ∀ ρ, RoundIn (W ρ) 0 P p.blk l.fn ((l.params.zip cargs.toArray).foldl (fun tmps (t, a) => tmps.setIfInBounds t a) l.tmps) l.assign l.body w R := by
  unfold evRound at he
  split at he
  case h_2 => cases he
  rename_i st pe kp τ ps asg body hl
  have hb := loopAt_some hl
  dsimp only at hb
  split at he
  case isFalse => cases he
  rename_i hlen
  obtain ⟨p, l, q1, q2, q3, q4, q5, q6, q7, q8⟩ := hr.lp _ _ _ _ _ _ _ _ hb
  refine ⟨p, l, q1, q2, by rw [← ha.1, hlen, ← q5]; simp, fun ρ => ?_⟩
  have hts : VRs ι (putAll τ ps args) ((l.params.zip cargs.toArray).foldl (fun tmps (t, a) => tmps.setIfInBounds t a) l.tmps).toList := by
    have := putAll_sound (ts := ps) q8 ha
    rw [← q5] at this
    have e : (l.params.zip cargs.toArray).toList = l.params.toList.zip cargs := by simp
    rw [← Array.foldl_toList, e, q5]
    rw [q5] at this
    exact this
  refine roundIn_of_wpIn trivial ?_
  show l.assign.wpIn (W (some p.blk)) 0 P _ _ w
  rw [q6, q7]
  refine evC_sound hP hcl hlf hpu (by simp) asg [] (LSOK_nil _) he hr hts (B := ⟨w.heap.size, false, []⟩) (Nat.le_refl _) (by simp) .nil ?_
  intro ex τ1 h1 ι1 w1 a1 e he1 hE1 hR1 ht1 hm1 hex
  dsimp only at he1
  split at he1
  case h_2 => cases he1
  rename_i pe2 kp2 τ2 ps2 asg2 body2 hl1
  cases hex
  have hb1 := loopAt_some hl1
  dsimp only at hb1
  obtain ⟨p', l1, z1, z2, z3, z4, _⟩ := hR1.lp _ _ _ _ _ _ _ _ hb1
  rw [hE1.emb _ _ q1] at z1; cases z1
  refine ⟨_, run_beginRound z2 z3, ?_⟩
  obtain ⟨⟨hR1', hE1'⟩, _⟩ := hR1.record hb1 (hE1.emb _ _ q1) z2 .busy l1.pending
  rw [show l1.pending = pe2 from z4] at hR1' hE1'
  have hw : (World.putObj w1 p.blk (.loop { l1 with state := .busy })) = World.putObj w1 p.blk (.loop { l1 with state := .busy, pending := pe2 }) := by
    have z4' : l1.pending = pe2 := z4
    rw [← z4']
  rw [hw]
  refine evC_sound hP hcl hlf hpu (by simp) body [] (LSOK_nil _) he1 hR1' ht1 (Nat.le_trans hE1.size hE1'.size) (by simp) (hm1.keep hR1 hE1') ?_
  intro ex2 τ3 h3 ι3 w3 a3 e3 he3 hE3 hR3 ht3 _ hex3
  have hEE := (hE1.trans hE1').trans hE3
  unfold evEnd at he3
  dsimp only at he3
  split at he3
  case h_2 => cases he3
  rename_i st4 pe4 kp4 τ4 ps4 asg4 body4 hl4
  have hb4 := loopAt_some hl4
  dsimp only at hb4
  obtain ⟨p4, l4, y1, y2, _⟩ := hR3.lp _ _ _ _ _ _ _ _ hb4
  rw [hEE.emb _ _ q1] at y1; cases y1
  have fin : ∀ (jump : Option Code), K (.ret (.bool jump.isNone)) (h3.set b (.loop (if jump.isNone then .ready else .done) jump kp4 τ4 ps4 asg4 body4)) = some r →
      ∃ v w', (Instr.endRound p.blk jump).run P w3 = .ok v w' ∧ R (.returned v) w' := by
    intro jump hK
    obtain ⟨⟨g1, g2⟩, _⟩ := hR3.record hb4 (hEE.emb _ _ q1) y2 (if jump.isNone then .ready else .done) jump
    exact ⟨_, _, run_endRound jump y2, hk _ _ _ _ _ hK (hEE.trans g2) g1 (.ret (.bool _))⟩
  cases hex3 with
  | normal => exact fin none he3
  | ret => exact fin (some .ret) he3
  | exit id => exact fin (some (.exit id)) he3
  | pan hv => cases he3

/-- A call's meaning: its answer and the memory behind it. -/
def SpecOK (P : Program) (f : FuncId) (s : Spec) : Prop :=
  ∀ args h out h', (s args h).get = some (out, h') → ∀ ι w cargs, Rep ι h w → VRs ι args cargs →
    CallsIn (W none) 0 P f cargs.toArray w fun e w' => ∃ ι', Ext ι h w ι' h' w' ∧ Rep ι' h' w' ∧ OutR ι' out e

def SpecsOK (P : Program) (S : Specs) : Prop := ∀ f s, S f = some s → SpecOK P f s

/-- Functions of which it is told that they leave memory alone. -/
def PuresOK (S : Specs) (pu : FuncId → Bool) : Prop := ∀ f, pu f = true → ∃ s, S f = some s ∧ ∀ args h out h', (s args h).get = some (out, h') → h' = h ∧ ∃ v, out = .ret v

theorem pack_leaf {base : Nat} {τ v : List AV} {h : Heap} {k : (AV → AV) → List AV → Heap → Fin} {r : Out × Heap} (he : pack base τ v h k = some r) : ∃ f τ' h', ∀ k', pack base τ v h k' = k' f τ' h' := by
  unfold pack at he ⊢
  cases hb : Nat.ble h.length base with
  | true => exact ⟨id, τ, h, fun _ => rfl⟩
  | false =>
    rw [hb, cond_false] at he
    simp only [cond_false]
    unfold packed at he ⊢
    split at he
    case isFalse => cases he
    rename_i hok
    split at he
    case h_2 => cases he
    rename_i h' hrn
    exact ⟨_, _, h', fun k' => by rw [if_pos hok]⟩

theorem loopN_leaf {keep : List Nat} {base : Nat} {g : Ctl} (hg : ∀ τ h k r, g τ h k = some r → ∃ ex τ' h', ∀ k', g τ h k' = k' ex τ' h') : ∀ m τ h k r, loopN keep base g m τ h k = some r → ∃ ex τ' h', ∀ k', loopN keep base g m τ h k' = k' ex τ' h' := by
  intro m
  induction m with
  | zero => intro τ h k r he; cases he
  | succ m ih =>
    intro τ h k r he
    simp only [loopN] at he ⊢
    obtain ⟨f, τ1, h1, hp⟩ := pack_leaf he
    rw [hp] at he
    obtain ⟨ex, τ', h', hl⟩ := hg _ _ _ _ he
    rw [hl] at he
    have out : ∀ (ex : AEx), pack base (keepIn keep 0 τ') ex.vals h' (fun f τ' h' => k (ex.map f) τ' h') = some r → ∃ ex2 τ2 h2, ∀ k' : AEx → List AV → Heap → Fin, pack base (keepIn keep 0 τ') ex.vals h' (fun f τ' h' => k' (ex.map f) τ' h') = k' ex2 τ2 h2 := by
      intro ex he
      obtain ⟨f2, τ2, h2, hp2⟩ := pack_leaf he
      exact ⟨_, τ2, h2, fun k' => hp2 _⟩
    cases ex with
    | normal =>
      obtain ⟨ex2, τ2, h2, hl2⟩ := ih _ _ _ _ he
      exact ⟨ex2, τ2, h2, fun k' => by rw [hp, hl]; exact hl2 k'⟩
    | exit id => obtain ⟨ex2, τ2, h2, hl2⟩ := out (.exit id) he; exact ⟨ex2, τ2, h2, fun k' => by rw [hp, hl]; exact hl2 k'⟩
    | ret => obtain ⟨ex2, τ2, h2, hl2⟩ := out .ret he; exact ⟨ex2, τ2, h2, fun k' => by rw [hp, hl]; exact hl2 k'⟩
    | pan v => obtain ⟨ex2, τ2, h2, hl2⟩ := out (.pan v) he; exact ⟨ex2, τ2, h2, fun k' => by rw [hp, hl]; exact hl2 k'⟩

theorem evRange_leaf {P : Program} {cl : Caller} (hlf : CallerLeaf cl) {keep : List Nat} {g : AV} {ps : Array Tmp} {asg body : Code} {τ : List AV} {h : Heap} {k : AEx → List AV → Heap → Fin} {r : Out × Heap}
    (he : evRange P cl keep g ps asg body τ h k = some r) : ∃ ex τ' h', ∀ k', evRange P cl keep g ps asg body τ h k' = k' ex τ' h' := by
  unfold evRange at he ⊢
  split at he
  case h_2 => cases he
  split at he
  case isFalse => cases he
  rename_i hbody
  obtain ⟨out, h', hl⟩ := hlf _ _ _ _ _ he
  rw [hl] at he
  split at he
  · rename_i hla; exact ⟨_, _, _, fun k' => by rw [if_pos hbody, hl]; simp only [hla]; rfl⟩
  · rename_i hla; exact ⟨_, _, _, fun k' => by rw [if_pos hbody, hl]; simp only [hla]; rfl⟩
  · rename_i hla; exact ⟨_, _, _, fun k' => by rw [if_pos hbody, hl]; simp only [hla]; rfl⟩
  · exact ⟨_, _, _, fun k' => by rw [if_pos hbody, hl]⟩
  · cases he

theorem evC_leaf {P : Program} {cl : Caller} (hlf : CallerLeaf cl) {pu : FuncId → Bool} {m : Nat} {keep : List Nat} {top : Bool} : ∀ (c : Code) (ls : List LI) τ h k r, evC P cl pu m keep top c ls τ h k = some r → ∃ ex τ' h', ∀ k', evC P cl pu m keep top c ls τ h k' = k' ex τ' h' := by
  intro c
  induction c with
  | skip => intro ls τ h k r _; exact ⟨_, _, _, fun _ => rfl⟩
  | label l => intro ls τ h k r _; exact ⟨_, _, _, fun _ => rfl⟩
  | exit id => intro ls τ h k r _; exact ⟨_, _, _, fun _ => rfl⟩
  | ret => intro ls τ h k r _; exact ⟨_, _, _, fun _ => rfl⟩
  | rangeFunc f ps asg body =>
    intro ls τ h k r he
    simp only [evC] at he ⊢
    split at he
    · rename_i ht; simp only [if_pos ht]; exact evRange_leaf hlf he
    · cases he
  | goto l => intro ls τ h k r he; simp [evC] at he
  | refuse why => intro ls τ h k r he; simp [evC] at he
  | scope c ih => intro ls τ h k r he; simp only [evC] at he ⊢; exact ih ls τ h k r he
  | region id ops draw =>
    intro ls τ h k r he
    cases draw with
    | false =>
      simp only [evC] at he ⊢
      rcases evOps_leaf hlf _ he with ⟨τ', h', hl⟩ | ⟨v, τ', h', hl⟩
      · exact ⟨_, _, _, fun k' => hl _ _⟩
      · exact ⟨_, _, _, fun k' => hl _ _⟩
    | true =>
      simp only [evC] at he ⊢
      split at he
      · rename_i hc
        obtain ⟨τs, hs, qs, fp, _, _, _, _, _, _, hend⟩ := traceD hlf _ _ _ he
        rw [hend] at he
        split at he
        · rename_i hok
          exact ⟨.normal, τs ops.toList.length, hs ops.toList.length, fun k' => by rw [if_pos hc, hend, if_pos hok]⟩
        · cases he
      · cases he
  | seq x y ihx ihy =>
    intro ls τ h k r he
    simp only [evC] at he ⊢
    obtain ⟨ex, τ', h', hl⟩ := ihx _ _ _ _ _ he
    rw [hl] at he
    cases ex with
    | normal =>
      obtain ⟨ex2, τ2, h2, hl2⟩ := ihy _ _ _ _ _ he
      exact ⟨ex2, τ2, h2, fun k' => by rw [hl]; exact hl2 k'⟩
    | exit id => exact ⟨_, _, _, fun k' => by rw [hl]⟩
    | ret => exact ⟨_, _, _, fun k' => by rw [hl]⟩
    | pan v => exact ⟨_, _, _, fun k' => by rw [hl]⟩
  | cond c x y ihx ihy =>
    intro ls τ h k r he
    simp only [evC] at he ⊢
    split at he
    · rename_i t _
      cases t
      · exact ihy _ _ _ _ _ he
      · exact ihx _ _ _ _ _ he
    · cases he
  | block id c ih =>
    intro ls τ h k r he
    simp only [evC] at he ⊢
    obtain ⟨ex, τ', h', hl⟩ := ih _ _ _ _ _ he
    cases ex with
    | exit i =>
      by_cases hi : i = id
      · exact ⟨.normal, τ', h', fun k' => by rw [hl]; simp [hi]⟩
      · exact ⟨.exit i, τ', h', fun k' => by rw [hl]; simp [hi]⟩
    | normal => exact ⟨_, _, _, fun k' => by rw [hl]⟩
    | ret => exact ⟨_, _, _, fun k' => by rw [hl]⟩
    | pan v => exact ⟨_, _, _, fun k' => by rw [hl]⟩
  | loop c ih =>
    intro ls τ h k r he
    simp only [evC] at he ⊢
    split at he
    · exact LT.leaf he
    · exact loopN_leaf (fun τ h k r he => ih _ τ h k r he) m τ h k r he
    · exact loopN_leaf (fun τ h k r he => ih _ τ h k r he) m τ h k r he

theorem evRound_leaf {P : Program} {cl : Caller} (hlf : CallerLeaf cl) {pu : FuncId → Bool} {m : Nat} {b : Nat} {args : List AV} {h : Heap} {K : Out → Heap → Fin} {r : Out × Heap}
    (he : evRound P cl pu m b args h K = some r) : ∃ out h', ∀ K', evRound P cl pu m b args h K' = K' out h' := by
  unfold evRound at he ⊢
  split at he
  case h_2 => cases he
  rename_i st pe kp τ ps asg body hl
  split at he
  case isFalse => cases he
  rename_i hlen
  obtain ⟨ex, τ1, h1, hl1⟩ := evC_leaf hlf _ _ _ _ _ _ he
  rw [hl1] at he
  split at he
  case h_2 => cases he
  rename_i pe2 kp2 τ2 ps2 asg2 body2 hla
  obtain ⟨ex2, τ3, h3, hl3⟩ := evC_leaf hlf _ _ _ _ _ _ he
  rw [hl3] at he
  have he2 := he
  unfold evEnd at he2
  split at he2
  case h_2 => cases he2
  rename_i hle
  cases ex2 with
  | normal => exact ⟨_, _, fun K' => by rw [if_pos hlen, hl1]; simp only [hla, hl3]; unfold evEnd; simp only [hle]; rfl⟩
  | ret => exact ⟨_, _, fun K' => by rw [if_pos hlen, hl1]; simp only [hla, hl3]; unfold evEnd; simp only [hle]; rfl⟩
  | exit id => exact ⟨_, _, fun K' => by rw [if_pos hlen, hl1]; simp only [hla, hl3]; unfold evEnd; simp only [hle]; rfl⟩
  | pan v => cases he2

end Go.Am
