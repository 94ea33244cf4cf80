/- Functions that need no memory, and leave none that counts. No condition. -/
import Derived.Test.YtpdkcpbhihaakaaDoorAmLoop
namespace Go.Am

/-- What a call comes to, by cases, memory left out. -/
inductive VT where
  | none
  | out (o : Out)
  | ite (c : Bool) (a b : VT)

def VT.run : VT → (Out → Fin) → Fin
  | .none, _ => Option.none
  | .out o, k => k o
  | .ite c a b, k => bif c then a.run k else b.run k

def VT.get : VT → Option Out
  | .none => Option.none
  | .out o => some o
  | .ite c a b => bif c then a.get else b.get

def VT.rt (h : Heap) : VT → RT
  | .none => .none
  | .out o => .done o h
  | .ite c a b => .ite c (a.rt h) (b.rt h)

theorem VT.rt_get {t : VT} {h : Heap} {o : Out} {h' : Heap} (hg : (t.rt h).get = some (o, h')) : t.get = some o ∧ h' = h := by
  induction t with
  | none => cases hg
  | out o => simp only [VT.rt, RT.get, Option.some.injEq, Prod.mk.injEq] at hg; obtain ⟨rfl, rfl⟩ := hg; exact ⟨rfl, rfl⟩
  | ite c a b iha ihb =>
    cases c
    · exact ihb hg
    · exact iha hg

theorem VT.run_get {t : VT} {o : Out} (he : t.get = some o) (k : Out → Fin) : t.run k = k o := by
  induction t with
  | none => cases he
  | out o => cases he; rfl
  | ite c a b iha ihb =>
    cases c
    · exact ihb he
    · exact iha he

mutual
/-- Does a value name no block? -/
def AV.closed : AV → Bool
  | .ptr _ _ _ => false
  | .slc _ _ _ => false
  | .yld _ => false
  | .fn _ l1 l2 => AV.closedL l1 && AV.closedL l2
  | .ifc _ v => AV.closed v
  | .agg l => AV.closedL l
  | .tup l => AV.closedL l
  | .gp _ _ => true
  | .any => true
  | .undef => true
  | .bool _ => true
  | .int _ _ => true
  | .str _ => true
  | .nilptr => true
  | .nilsl => true
  | .nilfn => true
  | .nilifc => true
def AV.closedL : List AV → Bool
  | [] => true
  | v :: l => AV.closed v && AV.closedL l
end

theorem closed_within (v : AV) : v.closed = true → AV.within (fun _ => False) v := by
  induction v using AV.rec (motive_2 := fun l => AV.closedL l = true → AV.withinL (fun _ => False) l) with
  | fn f l1 l2 i1 i2 => intro h; simp only [AV.closed, Bool.and_eq_true] at h; exact ⟨i1 h.1, i2 h.2⟩
  | ifc t v i => intro h; exact i h
  | agg l i => intro h; exact i h
  | tup l i => intro h; exact i h
  | ptr b i j => intro h; cases h
  | slc b i j => intro h; cases h
  | yld b => intro h; cases h
  | nil => trivial
  | cons x l ix il => rename_i h; simp only [AV.closedL, Bool.and_eq_true] at h; exact ⟨ix h.1, il h.2⟩
  | _ => intro _; trivial

theorem closedL_within : ∀ l : List AV, AV.closedL l = true → AV.withinL (fun _ => False) l
  | [], _ => trivial
  | x :: l, h => by simp only [AV.closedL, Bool.and_eq_true] at h; exact ⟨closed_within x h.1, closedL_within l h.2⟩

theorem closed_ren (σ : Nat → Nat) (v : AV) : v.closed = true → v.ren σ = v := by
  induction v using AV.rec (motive_2 := fun l => AV.closedL l = true → AV.renL σ l = l) with
  | fn f l1 l2 i1 i2 => intro h; simp only [AV.closed, Bool.and_eq_true] at h; simp only [AV.ren, i1 h.1, i2 h.2]
  | ifc t v i => intro h; simp only [AV.ren, i h]
  | agg l i => intro h; simp only [AV.ren, i h]
  | tup l i => intro h; simp only [AV.ren, i h]
  | ptr b i j => intro h; cases h
  | slc b i j => intro h; cases h
  | yld b => intro h; cases h
  | nil => rfl
  | cons x l ix il => rename_i h; simp only [AV.closedL, Bool.and_eq_true] at h; simp only [AV.renL, ix h.1, il h.2]
  | _ => intro _; rfl

def Out.closed : Out → Bool
  | .ret v => v.closed
  | .pan v => v.closed

def VT.closed : VT → Bool
  | .none => true
  | .out o => o.closed
  | .ite _ a b => a.closed && b.closed

theorem VT.closed_get {t : VT} {o : Out} (hc : t.closed = true) (he : t.get = some o) : o.closed = true := by
  induction t with
  | none => cases he
  | out o => cases he; exact hc
  | ite c a b iha ihb =>
    simp only [VT.closed, Bool.and_eq_true] at hc
    cases c
    · exact ihb hc.2 he
    · exact iha hc.1 he

/-- What is behind a call from no memory. -/
def packK (k : Out → Heap → Fin) : Out → Heap → Fin := fun o h => pack 0 [] o.vals h fun f _ h => k (o.map f) h

theorem semCall_packK {P : Program} {f : FuncId} {args : List AV} {o : Out} {g : Heap} (hs : SemCall P f args [] o g) {out : Out} {h' : Heap} (he : packK (fun o h => some (o, h)) o g = some (out, h')) : SemCall P f args [] out h' := hs.packed he

/-- A spec without memory. -/
def pureSpec (r : List AV → VT) : Spec := fun args h => (r args).rt h

theorem pureSpec_ok {P : Program} {f : FuncId} {r : List AV → VT} (hc : ∀ args o, (r args).get = some o → AV.closedL args = true ∧ o.closed = true) (h : ∀ args o, (r args).get = some o → SemCall P f args [] o []) : SpecOK P f (pureSpec r) := by
  refine specOK_of_sem fun args h0 out h' hs => ?_
  obtain ⟨h1, rfl⟩ := VT.rt_get hs
  obtain ⟨c1, c2⟩ := hc _ _ h1
  have := (h _ _ h1).anywhere (closedL_within _ c1) h'
  have e : out.ren (fun b => h'.length + b) = out := by cases out <;> simp only [Out.ren, closed_ren _ _ c2]
  rw [e] at this
  simpa using this

theorem pureSpec_leaves {r : List AV → VT} (hr : ∀ args o, (r args).get = some o → ∃ v, o = .ret v) : ∀ args h out h', (pureSpec r args h).get = some (out, h') → h' = h ∧ ∃ v, out = .ret v := fun args h out h' hs => by
  obtain ⟨h1, rfl⟩ := VT.rt_get hs
  exact ⟨rfl, hr _ _ h1⟩

/-- From the evaluation from no memory. -/
theorem semCall_of_k {P : Program} (hP : NoNum P) {S : Specs} (hS : SpecsOK P S) {pu : FuncId → Bool} (hpu : PuresOK S pu) {m : Nat} {keep : FuncId → List Nat} {LS : FuncId → List LI} (hLS : LoopsOK P S pu m keep LS) (d : Nat)
    {f : FuncId} {args : List AV} {out : Out} {h' : Heap} (he : evF P S pu m keep LS d (.fn f) args [] (packK fun o h => some (o, h)) = some (out, h')) : SemCall P f args [] out h' := by
  obtain ⟨o, g, hl⟩ := evF_leaf d _ _ _ _ _ he
  rw [hl] at he
  exact semCall_packK (semCall_of_eval hP hS hpu hLS d (hl _)) he

/-- The same, from the function's own body. -/
theorem semCall_of_kbody {P : Program} (hP : NoNum P) {S : Specs} (hS : SpecsOK P S) {pu : FuncId → Bool} (hpu : PuresOK S pu) {m : Nat} {keep : FuncId → List Nat} {LS : FuncId → List LI} (hLS : LoopsOK P S pu m keep LS) (d : Nat)
    {f : FuncId} {fn : Func} (hf : P.funcs[f]? = some fn) (hb : fn.body.isSome = true) (hl : loopsL (bodyOf P f) = [] ∨ S f = none) {args : List AV} {out : Out} {h' : Heap}
    (he : evB P (evF P S pu m keep LS (d + 8)) pu m (keep f) (LS f) fn (bodyOf P f) args [] (packK fun o h => some (o, h)) = some (out, h')) : SemCall P f args [] out h' := by
  cases hbd : fn.body with
  | none => rw [hbd] at hb; cases hb
  | some c =>
    have hbo : bodyOf P f = c := by simp [bodyOf, hf, hbd]
    have hls : LSOK P (evF P S pu m keep LS (d + 8)) pu m (keep f) true c (LS f) := by
      rcases hl with hl | hl
      · refine LSOK_of c _ fun i c' s hc => ?_
        rw [← hbo, hl] at hc; cases hc
      · exact hLS d f fn c hf hbd hl
    -- its one end
    have hlf : ∃ o g, ∀ K', evB P (evF P S pu m keep LS (d + 8)) pu m (keep f) (LS f) fn (bodyOf P f) args [] K' = K' o g := by
      unfold evB at he ⊢
      obtain ⟨ex, τ', h', hl⟩ := evC_leaf (evF_leaf (d + 8)) _ _ _ _ _ _ he
      rw [hl] at he
      cases ex with
      | normal =>
        simp only at he
        split at he
        · rename_i l hr; exact ⟨.ret (tupOf l), h', fun K' => by rw [hl]; simp only [hr]⟩
        · cases he
      | ret =>
        simp only at he
        split at he
        · rename_i l hr; exact ⟨.ret (tupOf l), h', fun K' => by rw [hl]; simp only [hr]⟩
        · cases he
      | pan v => exact ⟨.pan v, h', fun K' => by rw [hl]⟩
      | exit id => cases he
    obtain ⟨o, g, hl⟩ := hlf
    rw [hl] at he
    refine semCall_packK (semCall_of_body hP hS hpu hLS (d + 8) hf hbd hls ?_) he
    rw [← hbo, hl]

/-- Nothing is told. -/
def noSpec : Spec := fun _ _ => .none
theorem noSpec_ok {P : Program} {f : FuncId} : SpecOK P f noSpec := fun _ _ _ _ h => by cases h

end Go.Am
