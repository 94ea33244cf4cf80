/- Regions whose order is open: operations that look at memory, and operations that change it, in whatever order. No condition. -/
import Derived.Test.YtpdkcpbhihaakaaDoorAmLeaf
import Derived.OrdersIn
namespace Go.Am

def unv (x : Fin) : Option AV := match x with | some (.ret v, _) => some v | _ => none
theorem unv_none : unv none = none := rfl
theorem unv_ret (v : AV) (h : Heap) : unv (retK v h) = some v := rfl
theorem unv_bif (c : Bool) (x y : Fin) : unv (bif c then x else y) = bif c then unv x else unv y := by cases c <;> rfl
theorem unv_kbind (o : Option AV) (h : Heap) : unv (kbind o fun v => retK v h) = o := by cases o <;> rfl
theorem kbind_none (k : AV → Fin) : kbind none k = none := rfl
theorem kbind_some' (v : AV) (k : AV → Fin) : kbind (some v) k = k v := rfl
theorem kbind_bif (c : Bool) (x y : Option AV) (k : AV → Fin) : kbind (bif c then x else y) k = bif c then kbind x k else kbind y k := by cases c <;> rfl
theorem unv_cat (a b : List UInt8) (h : Heap) (k : AV → Fin) : kbind (unv (cat a b fun v => retK v h)) k = cat a b k := by unfold cat; rw [unv_bif, kbind_bif]; rfl

theorem evOp_kind0 {P : Program} {pure : FuncId → Bool} {o : Oper} (hk : kindOf P pure o = 0) (τ : List AV) (h : Heap) (k : AV → Heap → Fin) : evOp P o τ h k = kbind (unv (evOp P o τ [] retK)) fun v => k v h := by
  obtain ⟨dst, op, ty, pos, after, guard⟩ := o
  unfold evOp
  cases op <;> simp only [kindOf] at hk ⊢ <;> try (cases hk; done)
  case slice t x lo hi mx =>
    cases mx with
    | some m => simp at hk
    | none =>
      simp only at hk ⊢
      split at hk
      · rename_i hu
        simp only [hu]
        repeat' (first
          | rfl
          | (exfalso; simp_all; done)
          | (simp only [unv_none, unv_ret, unv_bif, unv_kbind, kbind_none, kbind_some', kbind_bif]; done)
          | split)
      · cases hk
  case call c =>
    obtain ⟨cal, args, tys⟩ := c
    simp only at hk ⊢
    split
    case h_4 => simp only at hk; cases hk
    case h_5 => exfalso; revert hk; (repeat' split) <;> simp <;> rename_i he <;> cases he
    all_goals
      repeat' (first
        | rfl
        | split)
  all_goals
    repeat' (first
      | rfl
      | exact (unv_cat _ _ _ _).symm
      | (simp only [unv_none, unv_ret, unv_bif, unv_kbind, kbind_none, kbind_some', kbind_bif]; done)
      | split)

theorem evOp_congr {P : Program} {o : Oper} {τ τ' : List AV} (hx : ∀ x ∈ o.op.operands.toList, rd τ x = rd τ' x) (h : Heap) (k : AV → Heap → Fin) : evOp P o τ h k = evOp P o τ' h k := by
  obtain ⟨dst, op, ty, pos, after, guard⟩ := o
  unfold evOp
  cases op <;> simp only [Op.operands] at hx ⊢
  case build t parts =>
    have : (parts.toList.map fun p => (p.1, rd τ p.2)) = parts.toList.map fun p => (p.1, rd τ' p.2) := List.map_congr_left fun p hp => by rw [hx p.2 (by simp; exact ⟨p.1, by simpa using hp⟩)]
    rw [this]
  case buildSlice t len parts =>
    have : (parts.toList.map fun p => (p.1, rd τ p.2)) = parts.toList.map fun p => (p.1, rd τ' p.2) := List.map_congr_left fun p hp => by rw [hx p.2 (by simp; exact ⟨p.1, by simpa using hp⟩)]
    rw [this]
  case makeFunc f a b =>
    have h1 : a.toList.map (rd τ) = a.toList.map (rd τ') := List.map_congr_left fun p hp => hx p (by simp; exact .inl (by simpa using hp))
    have h2 : b.toList.map (rd τ) = b.toList.map (rd τ') := List.map_congr_left fun p hp => hx p (by simp; exact .inr (by simpa using hp))
    rw [h1, h2]
  case call c =>
    have h1 : c.args.toList.map (rd τ) = c.args.toList.map (rd τ') := List.map_congr_left fun p hp => hx p (by simp [Call.operands]; exact .inr (by simpa using hp))
    obtain ⟨cal, args, tys⟩ := c
    simp only at h1 hx ⊢
    cases cal with
    | value f =>
      have h2 : rd τ f = rd τ' f := hx f (by simp [Call.operands])
      rw [h1]
      simp only [h2]
    | builtin b => rw [h1]; generalize List.map (rd τ') args.toList = L; generalize tys.toList = T; split <;> first | rfl | (split <;> simp_all; done) | simp_all
    | invoke r n => rw [h1]
  case slice t x lo hi mx =>
    have h0 : rd τ x = rd τ' x := hx x (by simp)
    have h1 : lo.map (rd τ) = lo.map (rd τ') := by cases lo with | none => rfl | some y => simp [hx y (by simp)]
    have h2 : hi.map (rd τ) = hi.map (rd τ') := by cases hi with | none => rfl | some y => simp [hx y (by simp)]
    cases mx with
    | some m => rfl
    | none => simp only; rw [h0, h1, h2]
  all_goals first
    | rfl
    | (rw [hx _ (by simp)]; done)
    | (rw [hx _ (List.mem_cons_self), hx _ (by simp)]; done)
    | (simp only [List.mem_cons, List.mem_nil_iff, or_false, forall_eq_or_imp, forall_eq] at hx; simp only [hx]; done)

theorem evOp1_congr {P : Program} {cl : Caller} {o : Oper} {τ τ' : List AV} (hx : ∀ x ∈ o.op.operands.toList, rd τ x = rd τ' x) (h : Heap) (k kp : AV → Heap → Fin) : evOp1 P cl o τ h k kp = evOp1 P cl o τ' h k kp := by
  obtain ⟨dst, op, ty, pos, after, guard⟩ := o
  have hev := fun h k => evOp_congr (P := P) hx h k
  unfold evOp1
  cases op <;> simp only at hev ⊢ <;> first
    | exact hev _ _
    | skip
  case call c =>
    have h1 : c.args.toList.map (rd τ) = c.args.toList.map (rd τ') := List.map_congr_left fun p hp => hx p (by simp [Op.operands, Call.operands]; exact .inr (by simpa using hp))
    have h2 : target P τ c = target P τ' c := by
      unfold target
      cases hc : c.callee with
      | value f => simp only; rw [hx f (by simp [Op.operands, Call.operands, hc]), h1]
      | invoke r m => rfl
      | builtin b => rfl
    rw [h2]
    split
    · rfl
    · exact hev _ _
  case panic x => rw [hx x (by simp [Op.operands])]

/-! ### The check of a region -/

theorem ancOf_bits {acc : List Nat} {o : Oper} {q : Nat} (h : (ancOf acc o).testBit q = true) : q ∈ predsOf o ∨ ∃ j ∈ predsOf o, (acc.getD j 0).testBit q = true := by
  have key : ∀ (l : List Nat) (m : Nat), (l.foldl (fun m j => m ||| 2 ^ j ||| acc.getD j 0) m).testBit q = true → m.testBit q = true ∨ q ∈ l ∨ ∃ j ∈ l, (acc.getD j 0).testBit q = true := by
    intro l
    induction l with
    | nil => intro m h; exact .inl h
    | cons x l ih =>
      intro m h
      rcases ih _ h with h | h | ⟨j, h1, h2⟩
      · simp only [Nat.testBit_or, Bool.or_eq_true, Nat.testBit_two_pow, decide_eq_true_eq] at h
        rcases h with (h | h) | h
        · exact .inl h
        · exact .inr (.inl (by simp [h]))
        · exact .inr (.inr ⟨x, by simp, h⟩)
      · exact .inr (.inl (by simp [h]))
      · exact .inr (.inr ⟨j, by simp [h1], h2⟩)
  rcases key _ _ h with h | h
  · simp at h
  · exact h

theorem ancs_closed {L : Nat → Bool} {ops : List Oper} (hL : ∀ i o, ops[i]? = some o → L i = true → ∀ j ∈ predsOf o, L j = true) :
    ∀ i, L i = true → i < ops.length → (∀ i o, ops[i]? = some o → ∀ j ∈ predsOf o, j < i) → ∀ j, ((ancs ops).getD i 0).testBit j = true → L j = true := by
  -- the table, prefix by prefix
  have key : ∀ n, n ≤ ops.length → (ancs (ops.take n)).length = n ∧ ∀ i, i < n → L i = true → (∀ i o, ops[i]? = some o → ∀ j ∈ predsOf o, j < i) → ∀ j, ((ancs (ops.take n)).getD i 0).testBit j = true → L j = true := by
    intro n
    induction n with
    | zero => intro _; exact ⟨by simp [ancs], fun i hi => by omega⟩
    | succ n ih =>
      intro hn
      obtain ⟨h1, h2⟩ := ih (by omega)
      have hlt : n < ops.length := by omega
      have hs : ancs (ops.take (n + 1)) = ancs (ops.take n) ++ [ancOf (ancs (ops.take n)) ops[n]] := by
        rw [List.take_succ_eq_append_getElem hlt]; unfold ancs; rw [List.foldl_append]; rfl
      have ho : ops[n]? = some ops[n] := by simp [hlt]
      refine ⟨by rw [hs]; simp [h1], fun i hi hLi hpre j hj => ?_⟩
      rw [hs] at hj
      by_cases hil : i < n
      · rw [List.getD_eq_getElem?_getD, List.getElem?_append_left (by omega), ← List.getD_eq_getElem?_getD] at hj
        exact h2 i hil hLi hpre j hj
      · have hie : i = n := by omega
        subst hie
        rw [List.getD_eq_getElem?_getD, List.getElem?_append_right (by omega), h1] at hj
        simp only [Nat.sub_self, List.getElem?_cons_zero, Option.getD_some] at hj
        rcases ancOf_bits hj with hj | ⟨q, hq1, hq2⟩
        · exact hL _ _ ho hLi j hj
        · exact h2 q (hpre _ _ ho q hq1) (hL _ _ ho hLi q hq1) hpre j hq2
  intro i hLi hi hpre
  have := (key ops.length (Nat.le_refl _)).2 i hi hLi hpre
  rwa [List.take_length] at this

/-- The last place below n at which p holds, plus one; 0: there is none. -/
def lastW (p : Nat → Bool) : Nat → Nat
  | 0 => 0
  | n + 1 => if p n then n + 1 else lastW p n

theorem lastW_le (p : Nat → Bool) : ∀ n, lastW p n ≤ n
  | 0 => Nat.le_refl _
  | n + 1 => by simp only [lastW]; split; exact Nat.le_refl _; exact Nat.le_succ_of_le (lastW_le p n)

theorem lastW_none {p : Nat → Bool} {i : Nat} : ∀ n, (∀ j, i ≤ j → j < n → p j = false) → i ≤ n → lastW p n = lastW p i
  | 0, _, hi => by rw [show i = 0 by omega]
  | n + 1, h, hi => by
    rcases Nat.lt_or_ge n i with hlt | hge
    · rw [show i = n + 1 by omega]
    · simp only [lastW]
      rw [if_neg (by rw [h n hge (by omega)]; simp)]
      exact lastW_none n (fun j h1 h2 => h j h1 (by omega)) hge

theorem lastW_congr {p q : Nat → Bool} : ∀ n, (∀ j, j < n → p j = q j) → lastW p n = lastW q n
  | 0, _ => rfl
  | n + 1, h => by simp only [lastW]; rw [h n (by omega), lastW_congr n (fun j hj => h j (by omega))]

theorem lastW_at {p : Nat → Bool} {i n : Nat} (hi : i < n) (hp : p i = true) (h : ∀ j, i < j → j < n → p j = false) : lastW p n = i + 1 := by
  rw [lastW_none (i := i + 1) n (fun j h1 h2 => h j (by omega) h2) (by omega)]
  simp [lastW, hp]

/-- A sequence whose entries change at marked places alone. -/
theorem seq_lastW {α : Type} (s : Nat → α) (p : Nat → Bool) : ∀ n, (∀ i, i < n → p i = false → s (i + 1) = s i) → s n = s (lastW p n)
  | 0, _ => rfl
  | n + 1, h => by
    simp only [lastW]
    split
    · rfl
    · rename_i hp
      rw [h n (by omega) (by simpa using hp)]
      exact seq_lastW s p n (fun i hi => h i (by omega))

/-! ### The operations in their order, and in any other -/

def wantedA (all : Array Oper) (o : Oper) (τ : List AV) : Option Bool :=
  match o.guard with
  | none => some true
  | some (j, want) =>
    match (all[j]?).bind (·.dst) with
    | none => none
    | some g => match τ[g]? with
      | some (.bool c) => some (c == want)
      | some .undef => some false
      | _ => none

def StepA (P : Program) (cl : Caller) (all : Array Oper) (o : Oper) (τ : List AV) (h : Heap) (τ' : List AV) (h' : Heap) : Prop :=
  (wantedA all o τ = some false ∧ τ' = put τ o.dst .undef ∧ h' = h) ∨
  (wantedA all o τ = some true ∧ ∃ v, (∀ k kp, evOp1 P cl o τ h k kp = k v h') ∧ τ' = put τ o.dst v)

theorem trace {P : Program} {cl : Caller} (hcl : CallerLeaf cl) {all : Array Oper} : ∀ (l : List Oper) {τ : List AV} {h : Heap} {k : List AV → Heap → Fin} {r : Out × Heap}, evOps P cl all l τ h k (fun _ _ _ => none) = some r →
    ∃ (τs : Nat → List AV) (hs : Nat → Heap), τs 0 = τ ∧ hs 0 = h ∧ (∀ i o, l[i]? = some o → StepA P cl all o (τs i) (hs i) (τs (i + 1)) (hs (i + 1))) ∧ k (τs l.length) (hs l.length) = some r := by
  intro l
  induction l with
  | nil => intro τ h k r he; exact ⟨fun _ => τ, fun _ => h, rfl, rfl, fun i o hi => by simp at hi, he⟩
  | cons o rest ih =>
    intro τ h k r he
    have next : ∀ {τ1 : List AV} {h1 : Heap}, StepA P cl all o τ h τ1 h1 → evOps P cl all rest τ1 h1 k (fun _ _ _ => none) = some r →
        ∃ (τs : Nat → List AV) (hs : Nat → Heap), τs 0 = τ ∧ hs 0 = h ∧ (∀ i o', (o :: rest)[i]? = some o' → StepA P cl all o' (τs i) (hs i) (τs (i + 1)) (hs (i + 1))) ∧ k (τs (o :: rest).length) (hs (o :: rest).length) = some r := by
      intro τ1 h1 hst he1
      obtain ⟨τs, hs, e1, e2, e3, e4⟩ := ih he1
      refine ⟨fun | 0 => τ | i + 1 => τs i, fun | 0 => h | i + 1 => hs i, rfl, rfl, fun i o' hi => ?_, e4⟩
      cases i with
      | zero => simp at hi; subst hi; simpa [e1, e2] using hst
      | succ i => exact e3 i o' (by simpa using hi)
    have one : ∀ {τ1 : List AV}, τ1 = τ → wantedA all o τ = some true → evOp1 P cl o τ1 h (fun v h' => evOps P cl all rest (put τ1 o.dst v) h' k (fun _ _ _ => none)) (fun _ _ => none) = some r →
        ∃ (τs : Nat → List AV) (hs : Nat → Heap), τs 0 = τ ∧ hs 0 = h ∧ (∀ i o', (o :: rest)[i]? = some o' → StepA P cl all o' (τs i) (hs i) (τs (i + 1)) (hs (i + 1))) ∧ k (τs (o :: rest).length) (hs (o :: rest).length) = some r := by
      intro τ1 e hw he2
      subst e
      rcases evOp1_leaf hcl he2 with ⟨v, h', hl⟩ | ⟨v, h', hl⟩
      · rw [hl] at he2
        exact next (.inr ⟨hw, v, hl, rfl⟩) he2
      · rw [hl] at he2; cases he2
    unfold evOps at he
    split at he
    · rename_i hg
      exact one rfl (by simp [wantedA, hg]) he
    · rename_i j want hg
      split at he
      · cases he
      · rename_i g hj
        split at he
        · rename_i c hc
          have hwa : wantedA all o τ = some (c == want) := by simp [wantedA, hg, hj, hc]
          cases c <;> cases want <;> simp only [cond_false, cond_true] at he
          · exact one (set_self hc) hwa he
          · rw [set_self hc] at he; exact next (.inl ⟨hwa, rfl, rfl⟩) he
          · rw [set_self hc] at he; exact next (.inl ⟨hwa, rfl, rfl⟩) he
          · exact one (set_self hc) hwa he
        · rename_i hc
          exact next (.inl ⟨by simp [wantedA, hg, hj, hc], rfl, rfl⟩) he
        · cases he

/-- Functions that leave memory alone. -/
def PureOK (pure : FuncId → Bool) (cl : Caller) : Prop := ∀ f, pure f = true → ∀ args h K r, cl (.fn f) args h K = some r → ∃ v, ∀ K', cl (.fn f) args h K' = K' (.ret v) h

theorem evOp_keeps {P : Program} {o : Oper} {τ : List AV} {h h' : Heap} {v : AV} (ho : (∃ t x lo hi mx, o.op = .slice t x lo hi mx) ∨ (∃ t x i, o.op = .indexAddr t x i) ∨ (∃ t x, o.op = .load t x)) (he : evOp P o τ h retK = some (.ret v, h')) : h' = h := by
  obtain ⟨dst, op, ty, pos, after, guard⟩ := o
  have fin : ∀ {x : AV} {g : Heap}, retK x g = some (.ret v, h') → h' = g := fun e => by simp [retK] at e; exact e.2.symm
  have finb : ∀ {c : Bool} {x : AV} {g : Heap}, (bif c then retK x g else none) = some (.ret v, h') → h' = g := fun e => fin (bif_some e).2
  rcases ho with ⟨t, x, lo, hi, mx, rfl⟩ | ⟨t, x, i, rfl⟩ | ⟨t, x, rfl⟩ <;> unfold evOp at he
  · cases mx with
    | some m => cases he
    | none =>
      simp only at he
      repeat' (first
        | (cases he; done)
        | exact finb he
        | split at he)
  · simp only at he
    repeat' (first
      | (cases he; done)
      | exact finb he
      | split at he)
  · simp only at he
    split at he
    · obtain ⟨_, _, he⟩ := kbind_some he; exact fin he
    · obtain ⟨_, _, he⟩ := kbind_some he; exact fin he
    · cases he

theorem kind_keeps {P : Program} {cl : Caller} {pure : FuncId → Bool} (hp : PureOK pure cl) {o : Oper} (hk : kindOf P pure o ≠ 2) {τ : List AV} {h h' : Heap} {v : AV} (he : ∀ k kp, evOp1 P cl o τ h k kp = k v h') : h' = h := by
  have viaOp : (∀ k kp, evOp1 P cl o τ h k kp = evOp P o τ h k) → kindOf P pure o = 0 ∨ ((∃ t x lo hi mx, o.op = .slice t x lo hi mx) ∨ (∃ t x i, o.op = .indexAddr t x i) ∨ (∃ t x, o.op = .load t x)) → h' = h := by
    intro h1 h2
    have he' : evOp P o τ h retK = some (.ret v, h') := by rw [← h1 retK (fun _ _ => none), he]; rfl
    rcases h2 with h2 | h2
    · rw [evOp_kind0 h2] at he'
      obtain ⟨_, _, he'⟩ := kbind_some he'
      simp [retK] at he'; exact he'.2.symm
    · exact evOp_keeps h2 he'
  obtain ⟨dst, op, ty, pos, after, guard⟩ := o
  cases op <;> simp only [kindOf] at hk <;> try (exact absurd rfl hk)
  case call c =>
    obtain ⟨cal, args, tys⟩ := c
    cases cal with
    | builtin b =>
      refine viaOp (fun k kp => by simp [evOp1, target]) (.inl ?_)
      cases b <;> first | rfl | exact absurd rfl hk
    | invoke r m => exact absurd rfl hk
    | value f =>
      cases f with
      | func f =>
        simp only at hk
        split at hk
        · rename_i hpf
          cases ht : target P τ { callee := .value (.func f), args := args, argTypes := tys } with
          | none =>
            have h2 := he retK (fun _ _ => none)
            simp only [evOp1, ht, evOp, rd] at h2
            obtain ⟨_, _, h2⟩ := kbind_some h2
            simp [retK] at h2
            exact h2.2.symm
          | some x =>
            obtain ⟨g, ar⟩ := x
            have hg : g = .fn f := by
              unfold target at ht
              simp only [rd] at ht
              split at ht
              · cases ht; rfl
              · cases ht
            subst hg
            -- its one end
            have h3 := he retK (fun _ _ => none)
            simp only [evOp1, ht] at h3
            obtain ⟨v', hl⟩ := hp f hpf _ _ _ _ h3
            rw [hl] at h3
            simp [retK] at h3
            exact h3.2.symm
        · exact absurd rfl hk
      | _ => exact absurd rfl hk
  all_goals first
    | exact viaOp (fun k kp => rfl) (.inl rfl)
    | exact viaOp (fun k kp => rfl) (.inr (.inl ⟨_, _, _, _, _, rfl⟩))
    | exact viaOp (fun k kp => rfl) (.inr (.inr (.inl ⟨_, _, _, rfl⟩)))
    | exact viaOp (fun k kp => rfl) (.inr (.inr (.inr ⟨_, _, rfl⟩)))

theorem put_get {τ : List AV} {d : Option Tmp} {v : AV} {t : Nat} (h : d ≠ some t) : (put τ d v)[t]? = τ[t]? := by
  cases d with
  | none => rfl
  | some d => simp only [put]; rw [List.getElem?_set_ne (fun e => h (by rw [e]))]

theorem putτ_len (τ : List AV) (d : Option Tmp) (v : AV) : (put τ d v).length = τ.length := by cases d <;> simp [put]

theorem mask_VRs {ι : Emb} {τ : List AV} {vs : List Value} (hl : τ.length = vs.length) (p : Nat → Bool) (h : ∀ (t : Nat) (v : AV), p t = true → τ[t]? = some v → ∃ u, vs[t]? = some u ∧ VR ι v u) :
    VRs ι ((List.range τ.length).map fun t => if p t then τ.getD t .any else .any) vs := by
  refine ⟨by simp [hl], fun i x u hx hu => ?_⟩
  rw [List.getElem?_map] at hx
  have hi : i < τ.length := by rw [hl]; exact (List.getElem?_eq_some_iff.1 hu).1
  rw [List.getElem?_range hi] at hx
  simp only [Option.map_some, Option.some.injEq] at hx
  subst hx
  split
  · rename_i hp
    have ht : τ[i]? = some (τ.getD i .any) := by simp [List.getD, hi]
    obtain ⟨u', h1, h2⟩ := h i _ hp ht
    rw [hu] at h1; cases h1; exact h2
  · exact .any _

theorem mask_rd {τ : List AV} {p : Nat → Bool} {x : Operand} (h : ∀ t, x = .tmp t → p t = true) : rd ((List.range τ.length).map fun t => if p t then τ.getD t .any else .any) x = rd τ x := by
  cases x with
  | tmp t =>
    simp only [rd]
    by_cases ht : t < τ.length
    · simp only [List.getD_eq_getElem?_getD, List.getElem?_map, List.getElem?_range ht, Option.map_some, Option.getD_some]
      rw [if_pos (h t rfl)]
    · have h1 : τ.getD t .any = .any := by rw [List.getD_eq_getElem?_getD, List.getElem?_eq_none (Nat.le_of_not_lt ht)]; rfl
      rw [h1, List.getD_eq_getElem?_getD, List.getElem?_eq_none (by simpa using Nat.le_of_not_lt ht)]; rfl
  | const v => rfl
  | global g => rfl
  | func f => rfl

theorem kind0_op {P : Program} {cl : Caller} {pure : FuncId → Bool} {o : Oper} (hk : kindOf P pure o = 0) (τ : List AV) (h : Heap) (k kp : AV → Heap → Fin) : evOp1 P cl o τ h k kp = evOp P o τ h k := by
  obtain ⟨dst, op, ty, pos, after, guard⟩ := o
  cases op <;> simp only [kindOf] at hk <;> first
    | rfl
    | (cases hk; done)
    | skip
  rename_i c
  obtain ⟨cal, args, tys⟩ := c
  cases cal with
  | builtin b => simp [evOp1, target]
  | invoke r m => cases hk
  | value f =>
    cases f with
    | func f => simp only at hk; split at hk <;> cases hk
    | _ => cases hk

theorem wanted_of {ι : Emb} {all : Array Oper} {o : Oper} {τ : List AV} {tmps : Array Value} {b : Bool} (hw : wantedA all o τ = some b)
    (h : ∀ (t : Nat) (v : AV), t ∈ looks all.toList o → τ[t]? = some v → ∃ u, tmps.toList[t]? = some u ∧ VR ι v u) : Region.wanted o (yielded all tmps) = b := by
  unfold wantedA at hw
  split at hw
  · rename_i hg; cases hw; simp [Region.wanted, hg]
  · rename_i j want hg
    split at hw
    · cases hw
    · rename_i g hj
      have hl : g ∈ looks all.toList o := by
        refine List.mem_append.2 (.inr ?_)
        simp only [hg]
        cases hq : all[j]? with
        | none => simp [hq] at hj
        | some q => simp [hq] at hj; simp [hq, hj]
      split at hw
      · rename_i c hc
        cases hw
        obtain ⟨u, h1, h2⟩ := h g _ hl hc
        cases h2
        have hy : yielded all tmps j = some c := by
          unfold yielded; rw [hj]
          have : tmps[g]? = some (.bool c) := by simpa using h1
          simp [this]
        simp only [Region.wanted, hg, hy]
        cases c <;> cases want <;> rfl
      · rename_i hc
        cases hw
        obtain ⟨u, h1, h2⟩ := h g _ hl hc
        cases h2
        have hy : yielded all tmps j = none := by
          unfold yielded; rw [hj]
          have : tmps[g]? = some Go.undef := by simpa using h1
          simp [this, Go.undef]
        simp only [Region.wanted, hg, hy]
        cases want <;> rfl
      · cases hw

/-! ### Regions with variables that are made in them -/

theorem floatOf_some {o : Oper} {t : TypeId} (h : floatOf o = some t) : o.op = .alloc t ∧ o.guard = none ∧ ∃ d, o.dst = some d := by
  unfold floatOf at h
  split at h
  · rename_i t' d h1 h2 h3; cases h; exact ⟨h1, h2, d, h3⟩
  · cases h

theorem float_kind {P : Program} {pure : FuncId → Bool} {o : Oper} {t : TypeId} (h : floatOf o = some t) : kindOf P pure o = 2 := by
  have := (floatOf_some h).1
  unfold kindOf; rw [this]

def StepD (P : Program) (cl : Caller) (all : Array Oper) (base q : Nat) (x : Option Nat) (o : Oper) (τ : List AV) (h : Heap) (τ' : List AV) (h' : Heap) : Prop :=
  match floatOf o with
  | some t => ∃ l, (zeroAV P t).cells = some l ∧ h[base + q]? = some .dead ∧ τ' = put τ o.dst (.ptr (base + q) 0 0) ∧ h' = h.set (base + q) (newMem t l)
  | none => x = touchOf o τ ∧ StepA P cl all o τ h τ' h'

theorem stepD_none {P : Program} {cl : Caller} {all : Array Oper} {base q : Nat} {x : Option Nat} {o : Oper} {τ : List AV} {h : Heap} {τ' : List AV} {h' : Heap} (hf : floatOf o = none) (h1 : x = touchOf o τ) (h2 : StepA P cl all o τ h τ' h') : StepD P cl all base q x o τ h τ' h' := by
  unfold StepD; rw [hf]; exact ⟨h1, h2⟩

theorem stepD_some {P : Program} {cl : Caller} {all : Array Oper} {base q : Nat} {x : Option Nat} {o : Oper} {τ : List AV} {h : Heap} {τ' : List AV} {h' : Heap} {t : TypeId} (hf : floatOf o = some t)
    (h1 : ∃ l, (zeroAV P t).cells = some l ∧ h[base + q]? = some .dead ∧ τ' = put τ o.dst (.ptr (base + q) 0 0) ∧ h' = h.set (base + q) (newMem t l)) : StepD P cl all base q x o τ h τ' h' := by
  unfold StepD; rw [hf]; exact h1

theorem stepD_inv {P : Program} {cl : Caller} {all : Array Oper} {base q : Nat} {x : Option Nat} {o : Oper} {τ : List AV} {h : Heap} {τ' : List AV} {h' : Heap} (h0 : StepD P cl all base q x o τ h τ' h') :
    (∃ t, floatOf o = some t ∧ ∃ l, (zeroAV P t).cells = some l ∧ h[base + q]? = some .dead ∧ τ' = put τ o.dst (.ptr (base + q) 0 0) ∧ h' = h.set (base + q) (newMem t l)) ∨ (floatOf o = none ∧ x = touchOf o τ ∧ StepA P cl all o τ h τ' h') := by
  unfold StepD at h0
  split at h0
  · rename_i t ht; exact .inl ⟨t, ht, h0⟩
  · rename_i ht; exact .inr ⟨ht, h0⟩

theorem traceD {P : Program} {cl : Caller} (hcl : CallerLeaf cl) {all : Array Oper} {base : Nat} : ∀ (l : List Oper) (q0 : Nat) (fp0 : List (Option Nat)) {τ : List AV} {h : Heap} {k : List (Option Nat) → List AV → Heap → Fin} {r : Out × Heap}, evOpsD P cl all base l q0 fp0 τ h k = some r →
    ∃ (τs : Nat → List AV) (hs : Nat → Heap) (qs : Nat → Nat) (fp : List (Option Nat)), τs 0 = τ ∧ hs 0 = h ∧ qs 0 = q0 ∧ qs l.length = q0 + floatsIn l ∧ fp.length = l.length ∧
      (∀ i o, l[i]? = some o → StepD P cl all base (qs i) (fp.getD i none) o (τs i) (hs i) (τs (i + 1)) (hs (i + 1)) ∧ qs (i + 1) = qs i + isF o) ∧ (∀ k' : List (Option Nat) → List AV → Heap → Fin, evOpsD P cl all base l q0 fp0 τ h k' = k' (fp0 ++ fp) (τs l.length) (hs l.length)) := by
  intro l
  induction l with
  | nil => intro q0 fp0 τ h k r he; exact ⟨fun _ => τ, fun _ => h, fun _ => q0, [], rfl, rfl, rfl, by simp [floatsIn], rfl, fun i o hi => by simp at hi, fun k' => by simp [evOpsD]⟩
  | cons o rest ih =>
    intro q0 fp0 τ h k r he
    have next : ∀ {τ1 : List AV} {h1 : Heap} {x : Option Nat} {q1 : Nat}, q1 = q0 + isF o → StepD P cl all base q0 x o τ h τ1 h1 → evOpsD P cl all base rest q1 (fp0 ++ [x]) τ1 h1 k = some r → (∀ k', evOpsD P cl all base (o :: rest) q0 fp0 τ h k' = evOpsD P cl all base rest q1 (fp0 ++ [x]) τ1 h1 k') →
        ∃ (τs : Nat → List AV) (hs : Nat → Heap) (qs : Nat → Nat) (fp : List (Option Nat)), τs 0 = τ ∧ hs 0 = h ∧ qs 0 = q0 ∧ qs (o :: rest).length = q0 + floatsIn (o :: rest) ∧ fp.length = (o :: rest).length ∧
          (∀ i o', (o :: rest)[i]? = some o' → StepD P cl all base (qs i) (fp.getD i none) o' (τs i) (hs i) (τs (i + 1)) (hs (i + 1)) ∧ qs (i + 1) = qs i + isF o') ∧ (∀ k' : List (Option Nat) → List AV → Heap → Fin, evOpsD P cl all base (o :: rest) q0 fp0 τ h k' = k' (fp0 ++ fp) (τs (o :: rest).length) (hs (o :: rest).length)) := by
      intro τ1 h1 x q1 hq1 hst he1 hk1
      obtain ⟨τs, hs, qs, fp, e1, e2, e3, e4, e5, e6, e7⟩ := ih q1 (fp0 ++ [x]) he1
      refine ⟨fun | 0 => τ | i + 1 => τs i, fun | 0 => h | i + 1 => hs i, fun | 0 => q0 | i + 1 => qs i, x :: fp, rfl, rfl, rfl, ?_, by simp [e5], fun i o' hi => ?_, fun k' => ?_⟩
      · show qs rest.length = _
        rw [e4, hq1]
        simp only [floatsIn]
        omega
      · cases i with
        | zero => simp at hi; subst hi; refine ⟨?_, ?_⟩
                  · simpa [e1, e2] using hst
                  · show qs 0 = _; rw [e3, hq1]
        | succ i =>
          obtain ⟨g1, g2⟩ := e6 i o' (by simpa using hi)
          exact ⟨by simpa using g1, g2⟩
      · rw [hk1, e7]; simp
    have one : ∀ {τ1 : List AV}, τ1 = τ → floatOf o = none → wantedA all o τ = some true → evOp1 P cl o τ1 h (fun v h' => evOpsD P cl all base rest q0 (fp0 ++ [touchOf o τ1]) (put τ1 o.dst v) h' k) (fun _ _ => none) = some r →
        (∀ k', evOpsD P cl all base (o :: rest) q0 fp0 τ h k' = evOp1 P cl o τ1 h (fun v h' => evOpsD P cl all base rest q0 (fp0 ++ [touchOf o τ1]) (put τ1 o.dst v) h' k') (fun _ _ => none)) →
        ∃ (τs : Nat → List AV) (hs : Nat → Heap) (qs : Nat → Nat) (fp : List (Option Nat)), τs 0 = τ ∧ hs 0 = h ∧ qs 0 = q0 ∧ qs (o :: rest).length = q0 + floatsIn (o :: rest) ∧ fp.length = (o :: rest).length ∧
          (∀ i o', (o :: rest)[i]? = some o' → StepD P cl all base (qs i) (fp.getD i none) o' (τs i) (hs i) (τs (i + 1)) (hs (i + 1)) ∧ qs (i + 1) = qs i + isF o') ∧ (∀ k' : List (Option Nat) → List AV → Heap → Fin, evOpsD P cl all base (o :: rest) q0 fp0 τ h k' = k' (fp0 ++ fp) (τs (o :: rest).length) (hs (o :: rest).length)) := by
      intro τ1 e hf hw he2 hk2
      subst e
      rcases evOp1_leaf hcl he2 with ⟨v, h', hl⟩ | ⟨v, h', hl⟩
      · rw [hl] at he2
        exact next (by simp [isF, hf]) (stepD_none hf rfl (.inr ⟨hw, v, hl, rfl⟩)) he2 (fun k' => by rw [hk2, hl])
      · rw [hl] at he2; cases he2
    have pass : ∀ {τ1 : List AV}, τ1 = τ → floatOf o = none → wantedA all o τ = some false → evOpsD P cl all base rest q0 (fp0 ++ [touchOf o τ1]) (put τ1 o.dst .undef) h k = some r →
        (∀ k', evOpsD P cl all base (o :: rest) q0 fp0 τ h k' = evOpsD P cl all base rest q0 (fp0 ++ [touchOf o τ1]) (put τ1 o.dst .undef) h k') →
        ∃ (τs : Nat → List AV) (hs : Nat → Heap) (qs : Nat → Nat) (fp : List (Option Nat)), τs 0 = τ ∧ hs 0 = h ∧ qs 0 = q0 ∧ qs (o :: rest).length = q0 + floatsIn (o :: rest) ∧ fp.length = (o :: rest).length ∧
          (∀ i o', (o :: rest)[i]? = some o' → StepD P cl all base (qs i) (fp.getD i none) o' (τs i) (hs i) (τs (i + 1)) (hs (i + 1)) ∧ qs (i + 1) = qs i + isF o') ∧ (∀ k' : List (Option Nat) → List AV → Heap → Fin, evOpsD P cl all base (o :: rest) q0 fp0 τ h k' = k' (fp0 ++ fp) (τs (o :: rest).length) (hs (o :: rest).length)) := by
      intro τ1 e hf hw he2 hk2
      subst e
      exact next (by simp [isF, hf]) (stepD_none hf rfl (.inl ⟨hw, rfl, rfl⟩)) he2 hk2
    unfold evOpsD at he
    split at he
    · rename_i t hf
      split at he
      · rename_i l hl hd
        exact next (by simp [isF, hf]) (stepD_some hf ⟨l, hl, hd, rfl, rfl⟩) he (fun k' => by rw [evOpsD]; simp only [hf, hl, hd])
      · cases he
    · rename_i hf
      split at he
      · rename_i hg
        exact one rfl hf (by simp [wantedA, hg]) he (fun k' => by rw [evOpsD]; simp only [hf, hg])
      · rename_i j want hg
        split at he
        · cases he
        · rename_i g hj
          split at he
          · rename_i c hc
            have hwa : wantedA all o τ = some (c == want) := by simp [wantedA, hg, hj, hc]
            cases c <;> cases want <;> simp only [cond_false, cond_true] at he
            · exact one (set_self hc) hf hwa he (fun k' => by rw [evOpsD]; simp only [hf, hg, hj, hc, cond_false, cond_true])
            · exact pass (set_self hc) hf hwa he (fun k' => by rw [evOpsD]; simp only [hf, hg, hj, hc, cond_false, cond_true])
            · exact pass (set_self hc) hf hwa he (fun k' => by rw [evOpsD]; simp only [hf, hg, hj, hc, cond_false, cond_true])
            · exact one (set_self hc) hf hwa he (fun k' => by rw [evOpsD]; simp only [hf, hg, hj, hc, cond_false, cond_true])
          · rename_i hc
            exact pass rfl hf (by simp [wantedA, hg, hj, hc]) he (fun k' => by rw [evOpsD]; simp only [hf, hg, hj, hc])
          · cases he

/-- What an operation that only reads says depends on the one block alone. -/
theorem evOp_rd {P : Program} {o : Oper} {τ : List AV} {h h' : Heap} {b : Nat} {v : AV} (ho : isRdOp o = true) (ht : touchOf o τ = some b) (hb : h'[b]? = h[b]?) (he : evOp P o τ h retK = some (.ret v, h)) : ∀ k, evOp P o τ h' k = k v h' := by
  obtain ⟨dst, op, ty, pos, after, guard⟩ := o
  intro k
  cases op <;> simp only [isRdOp, Bool.false_eq_true] at ho
  case load t x =>
    simp only [touchOf] at ht
    unfold evOp at he ⊢
    simp only at he ⊢
    split at he
    · rename_i b' i j hx
      rw [hx] at ht
      simp only [Option.some.injEq] at ht
      subst ht
      obtain ⟨v', hv', he⟩ := kbind_some he
      simp only [retK, Option.some.injEq, Prod.mk.injEq, Out.ret.injEq] at he
      obtain ⟨rfl, _⟩ := he
      have : h'.load P t b' i j = some v' := by rw [← hv']; unfold Heap.load; rw [hb]
      try simp only [hx]
      simp only [this, kbind]
    · rename_i g j hx; rw [hx] at ht; cases ht
    · cases he
  case indexAddr t x ix =>
    simp only [touchOf] at ht
    unfold evOp at he ⊢
    simp only at he ⊢
    split at he
    · rename_i e b' o' n kk i hu hx hi
      rw [hx] at ht
      simp only [Option.some.injEq] at ht
      subst ht
      try simp only [hu, hx, hi]
      rw [hb]
      split at he
      · split at he
        · rename_i hsz
          obtain ⟨hd, he⟩ := bif_some he
          simp only [retK, Option.some.injEq, Prod.mk.injEq, Out.ret.injEq] at he
          obtain ⟨rfl, _⟩ := he
          simp only [hsz, if_true, hd, cond_true]
        · cases he
      · cases he
    · rename_i len e g j kk i hu hx hi; rw [hx] at ht; cases ht
    · rename_i len e b' i0 j kk i hu hx hi
      try simp only [hu, hx, hi]
      split at he
      · rename_i s hs
        obtain ⟨hd, he⟩ := bif_some he
        simp only [retK, Option.some.injEq, Prod.mk.injEq, Out.ret.injEq] at he
        obtain ⟨rfl, _⟩ := he
        simp only [hd, cond_true]
      · cases he
    · cases he
  case slice t x lo hi mx =>
    cases mx with
    | some m => unfold evOp at he; cases he
    | none =>
      simp only [touchOf] at ht
      unfold evOp at he ⊢
      simp only at he ⊢
      split at he
      · rename_i s hu hx; rw [hx] at ht; cases ht
      · rename_i e b' o' n hu hx
        rw [hx] at ht
        simp only [Option.some.injEq] at ht
        subst ht
        try simp only [hu, hx]
        rw [hb]
        split at he
        · split at he
          · rename_i hsz
            obtain ⟨hd, he⟩ := bif_some he
            simp only [retK, Option.some.injEq, Prod.mk.injEq, Out.ret.injEq] at he
            obtain ⟨rfl, _⟩ := he
            simp_all
          · cases he
        · cases he
      · cases he

theorem evOp_store {P : Program} {o : Oper} {τ : List AV} {h h' : Heap} {v : AV} (ho : isStoreOp o = true) (he : evOp P o τ h retK = some (.ret v, h')) : ∃ b y, touchOf o τ = some b ∧ h' = h.set b y := by
  obtain ⟨dst, op, ty, pos, after, guard⟩ := o
  cases op <;> simp only [isStoreOp, Bool.false_eq_true] at ho
  case store t x v' =>
    unfold evOp at he
    simp only at he
    split at he
    · rename_i b i j hx
      split at he
      · rename_i h2 hs
        simp only [retK, Option.some.injEq, Prod.mk.injEq, Out.ret.injEq] at he
        obtain ⟨_, rfl⟩ := he
        unfold Heap.store at hs
        split at hs
        · split at hs
          · split at hs
            · cases hs; exact ⟨b, _, by simp [touchOf, hx], rfl⟩
            · cases hs
          · cases hs
        · cases hs
      · cases he
    · cases he

theorem store_kind {P : Program} {pure : FuncId → Bool} {o : Oper} (h : isStoreOp o = true) : kindOf P pure o = 2 := by
  obtain ⟨dst, op, ty, pos, after, guard⟩ := o
  cases op <;> first
    | rfl
    | (simp [isStoreOp] at h; done)

theorem rd_kind {P : Program} {pure : FuncId → Bool} {o : Oper} (h : isRdOp o = true) : kindOf P pure o ≤ 1 := by
  obtain ⟨dst, op, ty, pos, after, guard⟩ := o
  cases op <;> simp only [isRdOp, Bool.false_eq_true] at h
  case load => exact Nat.le_refl _
  case indexAddr => exact Nat.le_refl _
  case slice t x lo hi mx =>
    cases mx with
    | some m => exact Nat.le_refl _
    | none => simp only [kindOf]; split <;> omega

theorem kind_le {P : Program} {pure : FuncId → Bool} (o : Oper) : kindOf P pure o ≤ 2 := by
  unfold kindOf
  repeat' (first | omega | split)

theorem rd_op1 {P : Program} {cl : Caller} {o : Oper} (h : isRdOp o = true) (τ : List AV) (g : Heap) (k kp : AV → Heap → Fin) : evOp1 P cl o τ g k kp = evOp P o τ g k := by
  obtain ⟨dst, op, ty, pos, after, guard⟩ := o
  cases op <;> first
    | rfl
    | (simp [isRdOp] at h; done)

theorem store_op1 {P : Program} {cl : Caller} {o : Oper} (h : isStoreOp o = true) (τ : List AV) (g : Heap) (k kp : AV → Heap → Fin) : evOp1 P cl o τ g k kp = evOp P o τ g k := by
  obtain ⟨dst, op, ty, pos, after, guard⟩ := o
  cases op <;> first
    | rfl
    | (simp [isStoreOp] at h; done)

/-- A variable that is there, and of which memory does not speak yet. -/
def Ghost (P : Program) (ι : Emb) (H : Heap) (w w' : World) (t : TypeId) (p : Place) : Prop :=
  ∃ C l, (zeroAV P t).cells = some l ∧ w'.heap[p.blk]? = some (.cells C t (0, 0)) ∧ C.size = p.cap ∧ p.wd = l.length ∧ p.sh = 0 ∧ C.size = l.length ∧
    (∀ (j : Nat) (x : AV), l[j]? = some x → ∃ u, C[j]? = some u ∧ u.oneCell' = true ∧ ∀ ι, VR ι x u) ∧ w.heap.size ≤ p.blk ∧
    ∀ b s x, H[b]? = some x → x.has false = true → ι b = some s → s.blk ≠ p.blk

structure DInv (P : Program) (pure : FuncId → Bool) (ops : List Oper) (base nf : Nat) (qs : Nat → Nat) (hs : Nat → Heap) (ι : Emb) (h : Heap) (w : World) (L : Nat → Bool) (f : Nat) (ι' : Emb) (w' : World) : Prop where
  le : f ≤ ops.length
  done : ∀ q o, q < f → ops[q]? = some o → kindOf P pure o = 2 → L q = true
  behind : ∀ q o, ops[q]? = some o → kindOf P pure o = 2 → floatOf o = none → L q = true → q < f
  ext : Ext ι h w ι' (hs f) w'
  rep : Rep ι' (hs f) w'
  room : base + nf ≤ (hs f).length
  unborn : ∀ q o t, ops[q]? = some o → floatOf o = some t → L q = false → ι' (base + qs q) = none
  ghost : ∀ q o t, ops[q]? = some o → floatOf o = some t → L q = true → f ≤ q → ∃ p, ι' (base + qs q) = some p ∧ Ghost P ι' (hs f) w w' t p
  apart : ∀ q q' o o' t t' p p', q ≠ q' → ops[q]? = some o → floatOf o = some t → L q = true → f ≤ q → ops[q']? = some o' → floatOf o' = some t' → L q' = true → f ≤ q' →
    ι' (base + qs q) = some p → ι' (base + qs q') = some p' → p.blk ≠ p'.blk

theorem Ghost.lt {P : Program} {ι : Emb} {H : Heap} {w w' : World} {t : TypeId} {p : Place} (g : Ghost P ι H w w' t p) : p.blk < w'.heap.size := by
  obtain ⟨C, l, _, h1, _⟩ := g
  exact (Array.getElem?_eq_some_iff.1 h1).1

/-- An operation is done. -/
theorem DInv.move {P : Program} {pure : FuncId → Bool} {ops : List Oper} {base nf : Nat} {qs : Nat → Nat} {hs : Nat → Heap} {ι ι' ι2 : Emb} {h : Heap} {w w' w2 : World} {L L' : Nat → Bool} {f f' : Nat}
    (D : DInv P pure ops base nf qs hs ι h w L f ι' w') (hrank : ∀ q o t, ops[q]? = some o → floatOf o = some t → qs q < nf) (le' : f' ≤ ops.length)
    (done' : ∀ q o, q < f' → ops[q]? = some o → kindOf P pure o = 2 → L' q = true) (behind' : ∀ q o, ops[q]? = some o → kindOf P pure o = 2 → floatOf o = none → L' q = true → q < f')
    (hL : ∀ q o t, ops[q]? = some o → floatOf o = some t → L' q = L q) (hff : f ≤ f') (E : Ext ι' (hs f) w' ι2 (hs f') w2) (R : Rep ι2 (hs f') w2) :
    DInv P pure ops base nf qs hs ι h w L' f' ι2 w2 := by
  have hst : ∀ q o t, ops[q]? = some o → floatOf o = some t → ι2 (base + qs q) = ι' (base + qs q) := fun q o t hq ht => E.stay _ (by have := hrank q o t hq ht; have := D.room; omega)
  refine ⟨le', done', behind', D.ext.trans E, R, Nat.le_trans D.room E.len, fun q o t hq ht hl => ?_, fun q o t hq ht hl hf => ?_, fun q q' o o' t t' p p' hne hq ht hl hf hq' ht' hl' hf' hp hp' => ?_⟩
  · rw [hst q o t hq ht]; exact D.unborn q o t hq ht (by rw [← hL q o t hq ht]; exact hl)
  · obtain ⟨p, hp, hg⟩ := D.ghost q o t hq ht (by rw [← hL q o t hq ht]; exact hl) (by omega)
    have hlt := hg.lt
    obtain ⟨C, l, g1, g2, g3, g4, g5, g6, g7, g8, g9⟩ := hg
    refine ⟨p, (hst q o t hq ht).trans hp, C, l, g1, ?_, g3, g4, g5, g6, g7, g8, ?_⟩
    · rw [E.keep p.blk hlt (fun b s x hb hx hs => g9 b s x hb (Blk.has_live hx) hs)]; exact g2
    · intro b s x hb hx hs
      rcases E.org false b s x hb hx hs with hge | ⟨b0, p0, x0, f1, f0, f2, f3⟩
      · omega
      · rw [← f3]; exact g9 b0 p0 x0 f1 f0 f2
  · rw [hst q o t hq ht] at hp; rw [hst q' o' t' hq' ht'] at hp'
    exact D.apart q q' o o' t t' p p' hne hq ht (by rw [← hL q o t hq ht]; exact hl) (by omega) hq' ht' (by rw [← hL q' o' t' hq' ht']; exact hl') (by omega) hp hp'

/-- A variable is taken into memory. -/
theorem Rep.take {ι : Emb} {h : Heap} {w : World} (r : Rep ι h w) {b : Nat} {t : TypeId} {l : List AV} {p : Place} {C : Array Value} (hb : h[b]? = some .dead) (hp : ι b = some p) (hw : w.heap[p.blk]? = some (.cells C t (0, 0)))
    (hcap : C.size = p.cap) (hwd : p.wd = l.length) (hsh : p.sh = 0) (hl : C.size = l.length) (hc : ∀ (j : Nat) (x : AV), l[j]? = some x → ∃ u, C[j]? = some u ∧ u.oneCell' = true ∧ ∀ ι, VR ι x u)
    (hsep : ∀ a s x, h[a]? = some x → x.has false = true → ι a = some s → s.blk ≠ p.blk) (hgl : ∀ g l, (g, l) ∈ gvT → p.blk ≠ g) : Rep ι (h.set b (newMem t l)) w := by
  have look : ∀ {x : Nat} {y : Blk}, (h.set b (newMem t l))[x]? = some y → (x = b ∧ y = newMem t l) ∨ (x ≠ b ∧ h[x]? = some y) := fun hx => get_set hx
  refine ⟨⟨fun x s hx => by have := r.dom x s hx; simpa using this, ?_, ?_, ?_⟩, fun g l' hg => ⟨(r.gl g l' hg).1, fun x s y hx hy hs => ?_⟩⟩
  · intro x ty n cols rw hx
    rcases look hx with ⟨rfl, he⟩ | ⟨_, hx⟩
    · unfold newMem at he
      cases he
      refine ⟨p, C, (0, 0), hp, hw, hcap, by simpa using hwd, by rw [hsh]; omega, fun i j c hi hj => ?_, fun _ => ⟨rfl, hsh⟩, fun c hc => by obtain ⟨v, _, rfl⟩ := List.mem_map.1 hc; rfl⟩
      obtain rfl : i = 0 := by omega
      rw [List.getElem?_map] at hj
      cases hlj : l[j]? with
      | none => simp [hlj] at hj
      | some v =>
        simp [hlj] at hj; subst hj
        obtain ⟨u, g1, g2, g3⟩ := hc j v hlj
        exact ⟨u, by rw [hsh]; simpa using g1, g2, g3 ι⟩
    · exact r.mem x ty n cols rw hx
  · intro x st pe kp τ ps asg body hx
    rcases look hx with ⟨rfl, he⟩ | ⟨_, hx⟩
    · unfold newMem at he; cases he
    · exact r.lp x _ _ _ _ _ _ _ hx
  · intro a c pa pc u v hac ha hu hc' hv hpa hpc
    rcases look ha with ⟨ea, _⟩ | ⟨_, ha2⟩ <;> rcases look hc' with ⟨ec, _⟩ | ⟨_, hc2⟩
    · exact absurd (ea.trans ec.symm) hac
    · rw [ea, hp] at hpa; cases hpa; exact fun e => hsep c pc v hc2 hv hpc e.symm
    · rw [ec, hp] at hpc; cases hpc; exact hsep a pa u ha2 (Blk.has_live hu) hpa
    · exact r.sep a c pa pc u v hac ha2 hu hc2 hv hpa hpc
  · rcases look hx with ⟨rfl, rfl⟩ | ⟨_, hx⟩
    · rw [hp] at hs; cases hs; exact hgl g l' hg
    · exact (r.gl g l' hg).2 x s y hx hy hs

/-- The next operation's turn. -/
theorem DInv.next {P : Program} {cl : Caller} {all : Array Oper} {pure : FuncId → Bool} {ops : List Oper} {base nf : Nat} {qs : Nat → Nat} {hs : Nat → Heap} {τs : Nat → List AV} {fp : List (Option Nat)} {ι ι' : Emb} {h : Heap} {w w' : World} {L : Nat → Bool} {f : Nat}
    (D : DInv P pure ops base nf qs hs ι h w L f ι' w') (hr : Rep ι h w) {o : Oper} (hf : ops[f]? = some o)
    (hst : StepD P cl all base (qs f) (fp.getD f none) o (τs f) (hs f) (τs (f + 1)) (hs (f + 1))) (hc : (kindOf P pure o ≠ 2 ∧ hs (f + 1) = hs f) ∨ ((floatOf o).isSome = true ∧ L f = true)) : DInv P pure ops base nf qs hs ι h w L (f + 1) ι' w' := by
  have hflt : f < ops.length := (List.getElem?_eq_some_iff.1 hf).1
  rcases hc with ⟨hk, hh⟩ | ⟨hfl, hLf⟩
  · refine ⟨hflt, fun q o' hq ho' hk' => ?_, fun q o' ho' hk' hn hl => Nat.lt_succ_of_lt (D.behind q o' ho' hk' hn hl), hh ▸ D.ext, hh ▸ D.rep, hh ▸ D.room, D.unborn, fun q o' t hq ht hl hf' => hh ▸ D.ghost q o' t hq ht hl (by omega),
      fun q q' o1 o2 t t' p p' hne a1 a2 a3 a4 b1 b2 b3 b4 => D.apart q q' o1 o2 t t' p p' hne a1 a2 a3 (by omega) b1 b2 b3 (by omega)⟩
    rcases Nat.lt_or_ge q f with h1 | h1
    · exact D.done q o' h1 ho' hk'
    · obtain rfl : q = f := by omega
      rw [hf] at ho'; cases ho'; exact absurd hk' hk
  · cases hfo : floatOf o with
    | none => simp [hfo] at hfl
    | some t =>
      have hst' : ∃ l, (zeroAV P t).cells = some l ∧ (hs f)[base + qs f]? = some .dead ∧ τs (f + 1) = put (τs f) o.dst (.ptr (base + qs f) 0 0) ∧ hs (f + 1) = (hs f).set (base + qs f) (newMem t l) := by
        rcases stepD_inv hst with ⟨t', ht', h1⟩ | ⟨hn, _⟩
        · rw [hfo] at ht'; cases ht'; exact h1
        · rw [hfo] at hn; cases hn
      obtain ⟨l, s1, s2, s3, s4⟩ := hst'
      obtain ⟨p, hp, hg⟩ := D.ghost f o t hf hfo hLf (Nat.le_refl _)
      obtain ⟨C, l', g1, g2, g3, g4, g5, g6, g7, g8, g9⟩ := hg
      rw [s1] at g1; cases g1
      have hgl : ∀ g l', (g, l') ∈ gvT → p.blk ≠ g := fun g l' hg => by
        obtain ⟨⟨ty, fr, h1⟩, _⟩ := hr.gl g l' hg
        have := (Array.getElem?_eq_some_iff.1 h1).1
        omega
      have hR := D.rep.take s2 hp g2 g3 g4 g5 g6 g7 g9 hgl
      rw [← s4] at hR
      have hlen : (hs (f + 1)).length = (hs f).length := by rw [s4]; simp
      have orig : ∀ (q : Bool) (x : Nat) (y : Blk), (hs (f + 1))[x]? = some y → y.has q = true → (x = base + qs f ∧ y = newMem t l) ∨ (x ≠ base + qs f ∧ (hs f)[x]? = some y) := fun q x y hx _ => by rw [s4] at hx; exact get_set hx
      refine ⟨hflt, fun q o' hq ho' hk' => ?_, fun q o' ho' hk' hn hl => Nat.lt_succ_of_lt (D.behind q o' ho' hk' hn hl), ?_, hR, by rw [hlen]; exact D.room, D.unborn, ?_,
        fun q q' o1 o2 t t' p p' hne a1 a2 a3 a4 b1 b2 b3 b4 => D.apart q q' o1 o2 t t' p p' hne a1 a2 a3 (by omega) b1 b2 b3 (by omega)⟩
      · rcases Nat.lt_or_ge q f with h1 | h1
        · exact D.done q o' h1 ho' hk'
        · obtain rfl : q = f := by omega
          exact hLf
      · have E := D.ext
        refine ⟨E.emb, E.os, E.tape, E.output, E.size, E.keep, fun q b s x hb hx hs' => ?_, by rw [hlen]; exact E.len, E.stay⟩
        rcases orig q b x hb hx with ⟨rfl, _⟩ | ⟨_, hb⟩
        · rw [hp] at hs'; cases hs'; exact .inl g8
        · exact E.org q b s x hb hx hs'
      · intro q o' t' hq ht hl hf'
        obtain ⟨p', hp', hg'⟩ := D.ghost q o' t' hq ht hl (by omega)
        obtain ⟨C', l', k1, k2, k3, k4, k5, k6, k7, k8, k9⟩ := hg'
        refine ⟨p', hp', C', l', k1, k2, k3, k4, k5, k6, k7, k8, fun b s x hb hx hs' => ?_⟩
        rcases orig false b x hb hx with ⟨rfl, _⟩ | ⟨_, hb⟩
        · rw [hp] at hs'; cases hs'
          exact D.apart f q o o' t t' p p' (by omega) hf hfo hLf (Nat.le_refl _) hq ht hl (by omega) hp hp'
        · exact k9 b s x hb hx hs'

/-- A variable is made. -/
theorem DInv.born {P : Program} {pure : FuncId → Bool} {ops : List Oper} {base nf : Nat} {qs : Nat → Nat} {hs : Nat → Heap} {ι ι' : Emb} {h : Heap} {w w' : World} {L L' : Nat → Bool} {f : Nat}
    (D : DInv P pure ops base nf qs hs ι h w L f ι' w') (hbase : base = h.length) (hinj : ∀ q q' o t, q < q' → q' ≤ ops.length → ops[q]? = some o → floatOf o = some t → qs q < qs q') (hrank : ∀ q o t, ops[q]? = some o → floatOf o = some t → qs q < nf)
    {i : Nat} {o : Oper} {t : TypeId} (hi : ops[i]? = some o) (hfo : floatOf o = some t) (hLi : L i = false) (hL' : ∀ q, L' q = if q = i then true else L q) {l : List AV} (hl : (zeroAV P t).cells = some l) {z : Value} (hz : zeroAV P t = ofVal z) :
    DInv P pure ops base nf qs hs ι h w L' f (fun x => if x = base + qs i then some ⟨w'.heap.size, 0, l.length, z.cells.size⟩ else ι' x) (w'.alloc (.cells z.cells t)) := by
  have hno := D.unborn i o t hi hfo hLi
  have hfi : f ≤ i := by
    rcases Nat.lt_or_ge i f with h1 | h1
    · have := D.done i o h1 hi (float_kind hfo); rw [hLi] at this; cases this
    · exact h1
  rw [hz] at hl
  have hcells : ∀ ι : Emb, VRs ι l z.cells.toList ∧ ∀ x ∈ z.cells.toList, x.oneCell' = true := fun ι => cells_of hl (ofVal_VR (ι := ι) z)
  have hzs : z.cells.size = l.length := by have := (hcells ι).1.1; simpa using this.symm
  generalize hp : (⟨w'.heap.size, 0, l.length, z.cells.size⟩ : Place) = p
  have hpb : p.blk = w'.heap.size := by rw [← hp]
  generalize hι2 : (fun x => if x = base + qs i then some p else ι' x : Emb) = ι2
  have hnew : ι2 (base + qs i) = some p := by rw [← hι2]; simp
  have hold : ∀ x, x ≠ base + qs i → ι2 x = ι' x := fun x hx => by rw [← hι2]; simp [hx]
  have hle : Emb.le ι' ι2 := fun x s hx => by
    by_cases hxi : x = base + qs i
    · subst hxi; rw [hno] at hx; cases hx
    · rw [hold x hxi]; exact hx
  have hq2 : ∀ q o' t', q ≠ i → ops[q]? = some o' → floatOf o' = some t' → ι2 (base + qs q) = ι' (base + qs q) := fun q o' t' hne hq ht => hold _ (by
    rcases Nat.lt_or_gt_of_ne hne with h1 | h1
    · have := hinj q i o' t' h1 (Nat.le_of_lt (List.getElem?_eq_some_iff.1 hi).1) hq ht; omega
    · have := hinj i q o t h1 (Nat.le_of_lt (List.getElem?_eq_some_iff.1 hq).1) hi hfo; omega)
  have live : ∀ (q : Bool) b x, (hs f)[b]? = some x → x.has q = true → b ≠ base + qs i := fun q b x hb hx e => by
    obtain ⟨s, g1, _⟩ := D.rep.there hb hx
    subst e; rw [hno] at g1; cases g1
  have hheap : ∀ k, k < w'.heap.size → (w'.alloc (.cells z.cells t)).heap[k]? = w'.heap[k]? := fun k hk => heap_alloc_old w' _ k hk
  have hR : Rep ι2 (hs f) (w'.alloc (.cells z.cells t)) := by
    refine ⟨⟨fun x s hx => ?_, fun b ty n cols rw hb => ?_, fun b st pe kp τ ps asg body hb => ?_, fun a c pa pc u v hac ha hu hc hv hpa hpc => ?_⟩, fun g l' hg => ⟨?_, fun b s x hb hx hs' => ?_⟩⟩
    · by_cases hxi : x = base + qs i
      · have := hrank i o t hi hfo; have := D.room; omega
      · rw [hold x hxi] at hx; exact D.rep.dom x s hx
    · obtain ⟨s, C, fr, g1, g2, g3, g4, g5, g6, g7⟩ := D.rep.mem b ty n cols rw hb
      refine ⟨s, C, fr, hle _ _ g1, by rw [hheap _ (D.rep.blk_lt hb g1)]; exact g2, g3, g4, g5, fun i' j c hi' hj => ?_, g7⟩
      obtain ⟨u, k1, k2, k3⟩ := g6 i' j c hi' hj
      exact ⟨u, k1, k2, k3.mono hle⟩
    · obtain ⟨s, y, g1, g2, g3, g4, g5, g6, g7, g8⟩ := D.rep.lp b _ _ _ _ _ _ _ hb
      exact ⟨s, y, hle _ _ g1, by rw [hheap _ (Array.getElem?_eq_some_iff.1 g2).1]; exact g2, g3, g4, g5, g6, g7, g8.mono hle⟩
    · rw [hold a (live true a u ha hu)] at hpa; rw [hold c (live false c v hc hv)] at hpc
      exact D.rep.sep a c pa pc u v hac ha hu hc hv hpa hpc
    · obtain ⟨⟨ty, fr, h1⟩, _⟩ := D.rep.gl g l' hg
      exact ⟨ty, fr, by rw [hheap _ (Array.getElem?_eq_some_iff.1 h1).1]; exact h1⟩
    · rw [hold b (live true b x hb hx)] at hs'
      exact (D.rep.gl g l' hg).2 b s x hb hx hs'
  have hE : Ext ι h w ι2 (hs f) (w'.alloc (.cells z.cells t)) := by
    have E := D.ext
    refine ⟨fun x s hx => hle _ _ (E.emb x s hx), E.os, E.tape, E.output, by have := E.size; simp; omega, fun k hk hn => (hheap k (Nat.lt_of_lt_of_le hk E.size)).trans (E.keep k hk hn), fun q b s x hb hx hs' => ?_, E.len, fun b hb => ?_⟩
    · rw [hold b (live q b x hb hx)] at hs'; exact E.org q b s x hb hx hs'
    · rw [hold b (by omega)]; exact E.stay b hb
  refine ⟨D.le, fun q o' hq ho' hk' => ?_, fun q o' ho' hk' hn hl' => ?_, hE, hR, D.room, fun q o' t' hq ht hl' => ?_, fun q o' t' hq ht hl' hf' => ?_, fun q q' o1 o2 t1 t2 p1 p2 hne a1 a2 a3 a4 b1 b2 b3 b4 hp1 hp2 => ?_⟩
  · rw [hL']; split
    · rfl
    · exact D.done q o' hq ho' hk'
  · rw [hL'] at hl'
    split at hl'
    · rename_i e; subst e; rw [hi] at ho'; cases ho'; rw [hfo] at hn; cases hn
    · exact D.behind q o' ho' hk' hn hl'
  · rw [hL'] at hl'
    split at hl'
    · cases hl'
    · rename_i hne; rw [hq2 q o' t' hne hq ht]; exact D.unborn q o' t' hq ht hl'
  · by_cases hqi : q = i
    · subst hqi
      rw [hi] at hq; cases hq
      rw [hfo] at ht; cases ht
      refine ⟨p, hnew, z.cells, l, by rw [hz]; exact hl, ?_, by rw [← hp], by rw [← hp], by rw [← hp], hzs, fun j x hx => ?_, ?_, fun b s x hb hx hs' => ?_⟩
      · rw [hpb]; exact heap_alloc_new w' _
      · obtain ⟨u, g1, _⟩ := (hcells ι).1.get hx
        refine ⟨u, by simpa using g1, (hcells ι).2 u (List.mem_of_getElem? g1), fun ι0 => ?_⟩
        exact (hcells ι0).1.2 j x u hx g1
      · have := D.ext.size; omega
      · rw [hold b (live false b x hb hx)] at hs'
        have := D.rep.has_lt hb hx hs'
        omega
    · obtain ⟨p', hp', hg'⟩ := D.ghost q o' t' hq ht (by rw [hL', if_neg hqi] at hl'; exact hl') hf'
      have hlt := hg'.lt
      obtain ⟨C', l', k1, k2, k3, k4, k5, k6, k7, k8, k9⟩ := hg'
      refine ⟨p', (hq2 q o' t' hqi hq ht).trans hp', C', l', k1, (hheap _ hlt).trans k2, k3, k4, k5, k6, k7, k8, fun b s x hb hx hs' => ?_⟩
      rw [hold b (live false b x hb hx)] at hs'
      exact k9 b s x hb hx hs'
  · have old : ∀ {q o' t' p'}, q ≠ i → ops[q]? = some o' → floatOf o' = some t' → L' q = true → f ≤ q → ι2 (base + qs q) = some p' → p'.blk < w'.heap.size := fun {q o' t' p'} hne hq ht hl' hf' hp' => by
      rw [hq2 q o' t' hne hq ht] at hp'
      obtain ⟨p'', h1, hg⟩ := D.ghost q o' t' hq ht (by rw [hL', if_neg hne] at hl'; exact hl') hf'
      rw [hp'] at h1; cases h1; exact hg.lt
    by_cases h1 : q = i
    · subst h1
      rw [hnew] at hp1; cases hp1
      have := old (Ne.symm hne) b1 b2 b3 b4 hp2
      omega
    · by_cases h2 : q' = i
      · subst h2
        rw [hnew] at hp2; cases hp2
        have := old hne a1 a2 a3 a4 hp1
        omega
      · rw [hq2 q o1 t1 h1 a1 a2] at hp1; rw [hq2 q' o2 t2 h2 b1 b2] at hp2
        exact D.apart q q' o1 o2 t1 t2 p1 p2 hne a1 a2 (by rw [hL', if_neg h1] at a3; exact a3) a4 b1 b2 (by rw [hL', if_neg h2] at b3; exact b3) b4 hp1 hp2

theorem alloc_wp {P : Program} {ρ : Option Nat} {o : Oper} {t : TypeId} {a : Act} {w : World} {N : Act → World → Prop} {Q : Exit → Act → World → Prop} (hop : o.op = .alloc t) {i : TypeInfo} {z : Value} (hi : P.info? t = some i) (hz : i.zero = some z)
    (hN : N (a.put o.dst (.pointer (some ⟨w.heap.size, 0, none⟩))) (w.alloc (.cells z.cells t))) : o.wpIn (W ρ) 0 P a w N Q := by
  obtain ⟨dst, op, ty, pos, after, guard⟩ := o
  simp only at hop
  subst hop
  have hsem : Oper.semAt ρ a.eval { dst := dst, op := .alloc t, type := ty, pos := pos, after := after, guard := guard } = execOp a.eval { dst := dst, op := .alloc t, type := ty, pos := pos, after := after, guard := guard } := by
    cases ρ <;> rfl
  refine ⟨fun _ _ => trivial, ?_⟩
  show Oper.uponIn (W ρ) 0 P { dst := dst, op := .alloc t, type := ty, pos := pos, after := after, guard := guard } a N Q ((Oper.semAt ρ a.eval { dst := dst, op := .alloc t, type := ty, pos := pos, after := after, guard := guard }).run P w)
  rw [hsem]
  have hrun : (execOp a.eval { dst := dst, op := .alloc t, type := ty, pos := pos, after := after, guard := guard }).run P w = .ok (.value (.pointer (some ⟨w.heap.size, 0, none⟩))) (w.alloc (.cells z.cells t)) := by
    simp [execOp, Instr.alloc, Sem.run_bind, zeroValue, typeInfo, hi, hz, newVar, newRow]
  rw [hrun]
  exact hN

theorem qs_mono {ops : List Oper} {qs : Nat → Nat} (hq : ∀ i o, ops[i]? = some o → qs (i + 1) = qs i + isF o) {i : Nat} : ∀ {j : Nat}, i ≤ j → j ≤ ops.length → qs i ≤ qs j := by
  intro j
  induction j with
  | zero => intro h _; rw [show i = 0 by omega]; exact Nat.le_refl _
  | succ j ih =>
    intro h1 h2
    rcases Nat.lt_or_ge j i with h3 | h3
    · rw [show i = j + 1 by omega]; exact Nat.le_refl _
    · have := hq j ops[j] (by simp)
      have := ih h3 (by omega)
      omega

theorem draw_sound {P : Program} (hP : NoNum P) {cl : Caller} (hcl : CallerOK P cl) (hlf : CallerLeaf cl) {pure : FuncId → Bool} (hpure : PureOK pure cl) {ρ : Option Nat} {all : Array Oper}
    {τ : List AV} {h : Heap} {k : List AV → Heap → Fin} {r : Out × Heap} (he : evOpsD P cl all h.length all.toList 0 [] τ (roomFor (floatsIn all.toList) h) (fun fp τ' h' => if orderD P pure all.toList h.length fp = true then k τ' h' else none) = some r)
    {ι : Emb} {w : World} {a : Act} (hr : Rep ι h w) (ht : VRs ι τ a.tmps.toList) {Q : Exit → Act → World → Prop}
    (hk : ∀ τ' h' ι' w' a', k τ' h' = some r → Ext ι h w ι' h' w' → Rep ι' h' w' → VRs ι' τ' a'.tmps.toList → a'.defers = a.defers → Q .normal a' w') :
    ∀ w0, w0 = w → wpAnyIn (W ρ) 0 P .any all Q all.size (Array.replicate all.size false) a w0 := by
  obtain ⟨τs, hs, qs, fp, e1, e2, e3, e4, e5, steps, hend⟩ := traceD hlf all.toList 0 [] he
  have hfin := he
  rw [hend] at hfin
  simp only [List.nil_append] at hfin
  split at hfin
  case isFalse => cases hfin
  rename_i hok
  have hN : all.toList.length = all.size := by simp
  generalize hbase : h.length = base at *
  generalize hnf : floatsIn all.toList = nf at *
  have hqs : ∀ i o, all.toList[i]? = some o → qs (i + 1) = qs i + isF o := fun i o ho => (steps i o ho).2
  have hfl1 : ∀ {o : Oper} {t : TypeId}, floatOf o = some t → isF o = 1 := fun {o t} hf => by simp [isF, hf]
  have hrank : ∀ q o t, all.toList[q]? = some o → floatOf o = some t → qs q < nf := fun q o t hq hf => by
    have h1 := hqs q o hq
    rw [hfl1 hf] at h1
    have hlt := (List.getElem?_eq_some_iff.1 hq).1
    have := qs_mono hqs (i := q + 1) (j := all.toList.length) (by omega) (Nat.le_refl _)
    omega
  have hinj : ∀ q q' o t, q < q' → q' ≤ all.toList.length → all.toList[q]? = some o → floatOf o = some t → qs q < qs q' := fun q q' o t hlt hle hq hf => by
    have h1 := hqs q o hq
    rw [hfl1 hf] at h1
    have := qs_mono hqs (i := q + 1) (j := q') (by omega) hle
    omega
  -- what the check says
  have hchk : ∀ (j : Nat) (b : Oper), all.toList[j]? = some b → (∀ q ∈ predsOf b, q < j) ∧ ∀ (i : Nat) (o : Oper), i < j → all.toList[i]? = some o → clashD P pure all.toList base fp i o j b = true → ((ancs all.toList).getD j 0).testBit i = true := by
    intro j b hb
    have hj : j < all.toList.length := (List.getElem?_eq_some_iff.1 hb).1
    have := List.all_eq_true.1 hok j (List.mem_range.2 hj)
    simp only [hb, Bool.and_eq_true] at this
    refine ⟨fun q hq => by have := List.all_eq_true.1 this.1 q hq; simpa using this, fun i o hi ho hc => ?_⟩
    have h2 := List.all_eq_true.1 this.2 i (List.mem_range.2 hi)
    simp only [ho, hc, Bool.not_true, Bool.false_or] at h2
    simpa using h2
  have hpre : ∀ i o, all.toList[i]? = some o → ∀ j ∈ predsOf o, j < i := fun i o ho j hj => (hchk i o ho).1 j hj
  -- the slots
  have stepτ : ∀ i o, all.toList[i]? = some o → ∃ v, τs (i + 1) = put (τs i) o.dst v := fun i o ho => by
    rcases stepD_inv (steps i o ho).1 with ⟨t, _, l, _, _, h1, _⟩ | ⟨_, _, ⟨_, h1, _⟩ | ⟨_, v, _, h1⟩⟩
    · exact ⟨_, h1⟩
    · exact ⟨_, h1⟩
    · exact ⟨v, h1⟩
  have hlenτ : ∀ i, i ≤ all.size → (τs i).length = τ.length := by
    intro i
    induction i with
    | zero => intro _; rw [e1]
    | succ i ih =>
      intro hi
      have hlt : i < all.toList.length := by omega
      obtain ⟨v, h1⟩ := stepτ i all.toList[i] (by simp)
      rw [h1, putτ_len, ih (by omega)]
  let W1 : (Nat → Bool) → Nat → Nat → Bool := fun L t i => L i && (match all.toList[i]? with | some o => o.dst == some t | none => false)
  have seqτ : ∀ (t i : Nat), i ≤ all.size → (τs i)[t]? = (τs (lastW (W1 (fun _ => true) t) i))[t]? := by
    intro t i hi
    refine seq_lastW (fun i => (τs i)[t]?) (W1 (fun _ => true) t) i (fun j hj hw => ?_)
    have hlt : j < all.toList.length := by omega
    have hne : all.toList[j].dst ≠ some t := by
      intro hd
      simp only [W1, Bool.true_and, List.getElem?_eq_getElem hlt, hd] at hw
      simp at hw
    obtain ⟨v, h1⟩ := stepτ j all.toList[j] (by simp)
    show (τs (j + 1))[t]? = (τs j)[t]?
    rw [h1, put_get hne]
  -- memory
  have keepsh : ∀ i o, all.toList[i]? = some o → kindOf P pure o ≠ 2 → hs (i + 1) = hs i := fun i o ho hk => by
    rcases stepD_inv (steps i o ho).1 with ⟨t, hf, _⟩ | ⟨_, _, ⟨_, _, h1⟩ | ⟨_, v, h1, _⟩⟩
    · exact absurd (float_kind hf) hk
    · exact h1
    · exact kind_keeps hpure hk h1
  -- the walk
  have main : ∀ (fuel : Nat) (listed : Array Bool) (a' : Act) (w' : World), listed.size = all.size →
      ((List.range all.size).filter fun i => !listed.getD i false).length = fuel →
      (∀ i o, all.toList[i]? = some o → listed.getD i false = true → ∀ j ∈ predsOf o, listed.getD j false = true) →
      (∃ f ι', DInv P pure all.toList base nf qs hs ι h w (fun i => listed.getD i false) f ι' w' ∧ a'.defers = a.defers ∧ a'.tmps.size = τ.length ∧
        ∀ (t : Nat) (v : AV), (τs (lastW (W1 (fun i => listed.getD i false) t) all.size))[t]? = some v → ∃ u, a'.tmps.toList[t]? = some u ∧ VR ι' v u) →
      wpAnyIn (W ρ) 0 P .any all Q fuel listed a' w' := by
    intro fuel
    induction fuel with
    | zero =>
      intro listed a' w' hsz hcnt hcl' ⟨f, ι', D, hd, hts, hsl⟩
      have hall : ∀ i, i < all.size → listed.getD i false = true := by
        intro i hi
        have hnil : (List.range all.size).filter (fun i => !listed.getD i false) = [] := List.eq_nil_of_length_eq_zero hcnt
        have := List.filter_eq_nil_iff.1 hnil i (List.mem_range.2 hi)
        simpa using this
      have hall2 : ∀ i, i < all.size → listed.getD i true = true := fun i hi => by
        have := hall i hi
        simp only [Array.getD, hsz, hi, dif_pos] at this ⊢
        exact this
      refine ⟨?_, ?_⟩
      · unfold Region.ready
        rw [List.filter_eq_nil_iff]
        intro i hi
        have := hall2 i (List.mem_range.1 hi)
        simp [this]
      · -- to the end
        have up : ∀ n f, n = all.toList.length - f → DInv P pure all.toList base nf qs hs ι h w (fun i => listed.getD i false) f ι' w' → DInv P pure all.toList base nf qs hs ι h w (fun i => listed.getD i false) all.toList.length ι' w' := by
          intro n
          induction n with
          | zero => intro f hn D; have := D.le; rw [show all.toList.length = f by omega]; exact D
          | succ n ihn =>
            intro f hn D
            have hlt : f < all.toList.length := by omega
            have hfo : all.toList[f]? = some all.toList[f] := by simp
            refine ihn (f + 1) (by omega) (D.next (τs := τs) (fp := fp) (cl := cl) (all := all) hr hfo (steps f _ hfo).1 ?_)
            by_cases hk2 : kindOf P pure all.toList[f] = 2
            · cases hff : floatOf all.toList[f] with
              | some t => exact .inr ⟨rfl, hall f (by omega)⟩
              | none => exact absurd (D.behind f _ hfo hk2 hff (hall f (by omega))) (Nat.lt_irrefl _)
            · exact .inl ⟨hk2, keepsh f _ hfo hk2⟩
        have D' := up _ f rfl D
        refine hk _ _ ι' w' a' hfin D'.ext D'.rep ⟨by rw [hN, hlenτ _ (Nat.le_refl _)]; simpa using hts.symm, fun t v u hv hu => ?_⟩ hd
        have hw1 : lastW (W1 (fun i => listed.getD i false) t) all.size = lastW (W1 (fun _ => true) t) all.size := lastW_congr _ fun j hj => by simp only [W1, hall j hj]
        rw [hN] at hv
        obtain ⟨u', h1, h2⟩ := hsl t v (by rw [hw1, ← seqτ t _ (Nat.le_refl _)]; exact hv)
        rw [hu] at h1; cases h1; exact h2
    | succ fuel ih =>
      intro listed a' w' hsz hcnt hcl' ⟨f, ι', D, hd, hts, hsl⟩
      refine ⟨?_, ?_⟩
      · -- not all have been done: one is ready
        intro hnone
        exfalso
        have hall : ∀ i, i < all.size → listed.getD i false = true := by
          intro i
          induction i using Nat.strongRecOn with
          | _ i ihi =>
            intro hi
            rcases hb : listed.getD i false with _ | _
            · exfalso
              have hmem : i ∈ Region.ready .any all listed := by
                unfold Region.ready
                refine List.mem_filter.2 ⟨List.mem_range.2 hi, ?_⟩
                have h1 : listed.getD i true = false := by
                  simp only [Array.getD, hsz, hi, dif_pos] at hb ⊢; exact hb
                simp only [h1, Bool.not_false, Bool.true_and, Array.getElem?_eq_getElem hi, Option.map_some, Option.getD_some]
                rw [Array.all_eq_true']
                intro e he'
                rcases hbn : Region.binds .any e with _ | _
                · simp
                · simp only [Bool.not_true, Bool.false_or]
                  have hp : e.on ∈ predsOf all[i] := List.mem_map.2 ⟨e, List.mem_filter.2 ⟨by simpa using he', hbn⟩, rfl⟩
                  have hlt := hpre i all[i] (by simp [hi]) e.on hp
                  exact ihi e.on hlt (by omega)
              rw [hnone] at hmem; cases hmem
            · rfl
        have hnil : (List.range all.size).filter (fun i => !listed.getD i false) = [] := List.filter_eq_nil_iff.2 fun i hi => by simp [hall i (List.mem_range.1 hi)]
        rw [hnil] at hcnt; simp at hcnt
      · intro i hi
        unfold Region.ready at hi
        obtain ⟨hir, hready⟩ := List.mem_filter.1 hi
        have hiN : i < all.size := List.mem_range.1 hir
        have hoi : all.toList[i]? = some all[i] := by simp [hiN]
        have hoa : all[i]? = some all[i] := by simp [hiN]
        generalize ho : all[i] = o at hoi hoa hready
        simp only [Bool.and_eq_true, Bool.not_eq_true'] at hready
        obtain ⟨hni, hpl⟩ := hready
        have hLi : listed.getD i false = false := by
          simp only [Array.getD, hsz, hiN, dif_pos] at hni ⊢; exact hni
        have hpreds : ∀ j ∈ predsOf o, listed.getD j false = true := by
          rw [hoa] at hpl
          simp only [Option.map_some, Option.getD_some] at hpl
          rw [Array.all_eq_true'] at hpl
          intro j hj
          obtain ⟨e, he1, rfl⟩ := List.mem_map.1 hj
          obtain ⟨he2, he3⟩ := List.mem_filter.1 he1
          have := hpl e (by simpa using he2)
          simpa [he3] using this
        have hset : ∀ q, (listed.setIfInBounds i true).getD q false = if q = i then true else listed.getD q false := by
          intro q
          rw [Array.getD_eq_getD_getElem?, Array.getElem?_setIfInBounds]
          by_cases hq : i = q
          · subst hq; rw [if_pos rfl, if_pos (by omega), if_pos rfl]; rfl
          · rw [if_neg hq, if_neg (fun e => hq e.symm), ← Array.getD_eq_getD_getElem?]
        have hcl2 : ∀ x p, all.toList[x]? = some p → (listed.setIfInBounds i true).getD x false = true → ∀ j ∈ predsOf p, (listed.setIfInBounds i true).getD j false = true := by
          intro x p hx hl j hj
          rw [hset]
          split
          · rfl
          · rw [hset] at hl
            split at hl
            · rename_i hxi; subst hxi; rw [hoi] at hx; cases hx; exact hpreds j hj
            · exact hcl' x p hx hl j hj
        -- who must have come, who cannot have come
        have before : ∀ q p, q < i → all.toList[q]? = some p → clashD P pure all.toList base fp q p i o = true → listed.getD q false = true := by
          intro q p hq hp hc
          have hm := (hchk i o hoi).2 q p hq hp hc
          have := ancs_closed (L := fun x => (listed.setIfInBounds i true).getD x false) (ops := all.toList) hcl2 i (by rw [hset]; simp) (by omega) hpre q hm
          simp only [hset] at this
          rw [if_neg (by omega)] at this
          exact this
        have behind : ∀ q p, i < q → all.toList[q]? = some p → clashD P pure all.toList base fp i o q p = true → listed.getD q false = false := by
          intro q p hq hp hc
          rcases hb : listed.getD q false with _ | _
          · rfl
          · have hm := (hchk q p hp).2 i o hq hoi hc
            have hqN : q < all.toList.length := (List.getElem?_eq_some_iff.1 hp).1
            have := ancs_closed (L := fun x => listed.getD x false) (ops := all.toList) hcl' q hb hqN hpre i hm
            simp only [hLi] at this; cases this
        have slot : ∀ {q p q' p'}, slotClash all.toList p p' = true → clashD P pure all.toList base fp q p q' p' = true := fun hc => by unfold clashD; rw [hc]; rfl
        have kind : ∀ {q p q' p'}, kindClash P pure base fp q p q' p' = true → clashD P pure all.toList base fp q p q' p' = true := fun hc => by unfold clashD; rw [hc]; simp
        have F1 : ∀ t, t ∈ looks all.toList o → (τs i)[t]? = (τs (lastW (W1 (fun i => listed.getD i false) t) all.size))[t]? := by
          intro t htl
          have e1 : lastW (W1 (fun i => listed.getD i false) t) all.size = lastW (W1 (fun i => listed.getD i false) t) i := by
            refine lastW_none all.size (fun q hq hqN => ?_) (Nat.le_of_lt hiN)
            have hqt : q < all.toList.length := by omega
            simp only [W1, List.getElem?_eq_getElem hqt]
            by_cases hqi : q = i
            · subst hqi; simp [hLi]
            · cases hdq : (all.toList[q].dst == some t) with
              | false => simp
              | true =>
                have hdst : all.toList[q].dst = some t := by simpa using hdq
                rw [behind q all.toList[q] (by omega) (by simp) (slot (by unfold slotClash; simp only [hdst]; simp [htl]))]; rfl
          have e2 : lastW (W1 (fun i => listed.getD i false) t) i = lastW (W1 (fun _ => true) t) i := lastW_congr _ fun q hq => by
            have hqt : q < all.toList.length := by omega
            simp only [W1, List.getElem?_eq_getElem hqt]
            cases hdq : (all.toList[q].dst == some t) with
            | false => simp
            | true =>
              have hdst : all.toList[q].dst = some t := by simpa using hdq
              rw [before q all.toList[q] hq (by simp) (slot (by unfold slotClash; simp only [hdst]; simp [htl]))]
          rw [e1, e2]; exact seqτ t i (Nat.le_of_lt hiN)
        have hlook : ∀ (t : Nat) (v : AV), t ∈ looks all.toList o → (τs i)[t]? = some v → ∃ u, a'.tmps.toList[t]? = some u ∧ VR ι' v u := by
          intro t v htl hv
          rw [F1 t htl] at hv
          exact hsl t v hv
        -- behind it
        have fin : ∀ f2 ι2 w2 u v, DInv P pure all.toList base nf qs hs ι h w (fun i' => (listed.setIfInBounds i true).getD i' false) f2 ι2 w2 → Emb.le ι' ι2 → VR ι2 v u → τs (i + 1) = put (τs i) o.dst v →
            wpAnyIn (W ρ) 0 P .any all Q fuel (listed.setIfInBounds i true) (a'.put o.dst u) w2 := by
          intro f2 ι2 w2 u v D2 hle2 hv hτ
          refine ih _ _ _ (by simp [hsz]) ?_ hcl2 ⟨f2, ι2, D2, (put_defers ..).trans hd, by rw [put_size]; exact hts, ?_⟩
          · -- one fewer is left
            have hsplit : (List.range all.size).filter (fun q => !(listed.setIfInBounds i true).getD q false) = ((List.range all.size).filter fun q => !listed.getD q false).erase i := by
              rw [List.Nodup.erase_eq_filter (List.Pairwise.filter _ List.nodup_range), List.filter_filter]
              apply List.filter_congr
              intro q _
              rw [hset]
              by_cases hqi : q = i
              · subst hqi; simp
              · rw [if_neg hqi]; simp [hqi]
            rw [hsplit, List.length_erase_of_mem (List.mem_filter.2 ⟨hir, by simp [hLi]⟩), hcnt]; rfl
          · intro t v' hv'
            by_cases hdt : o.dst = some t
            · rw [lastW_at (i := i) hiN (by simp only [W1, hset, hoi, hdt]; simp) (fun q hq hqN => by
                have hqt : q < all.toList.length := by omega
                simp only [W1, hset, List.getElem?_eq_getElem hqt]
                rw [if_neg (by omega)]
                cases hdq : (all.toList[q].dst == some t) with
                | false => simp
                | true => rw [behind q all.toList[q] hq (by simp) (slot (by unfold slotClash; simp only [hdt, hdq, Bool.or_true, Bool.true_or]))]; rfl), hτ, hdt] at hv'
              simp only [put] at hv'
              rcases get_set hv' with ⟨_, rfl⟩ | ⟨hne, _⟩
              · have htl : t < τ.length := by
                  have := (List.getElem?_eq_some_iff.1 hv').1
                  rw [List.length_set, hlenτ i (Nat.le_of_lt hiN)] at this
                  exact this
                refine ⟨u, ?_, hv⟩
                rw [hdt]
                simp only [Act.put, Array.toList_setIfInBounds]
                rw [List.getElem?_set, if_pos rfl, if_pos (by simp [hts]; exact htl)]
              · exact absurd rfl hne
            · have hwg : lastW (W1 (fun q => (listed.setIfInBounds i true).getD q false) t) all.size = lastW (W1 (fun q => listed.getD q false) t) all.size := lastW_congr _ fun q hq => by
                simp only [W1, hset]
                by_cases hqi : q = i
                · subst hqi; rw [hoi]; simp [hdt]
                · rw [if_neg hqi]
              rw [hwg] at hv'
              obtain ⟨u', h1, h2⟩ := hsl t v' hv'
              refine ⟨u', ?_, h2.mono hle2⟩
              cases hd2 : o.dst with
              | none => exact h1
              | some d =>
                simp only [Act.put, Array.toList_setIfInBounds]
                rw [List.getElem?_set_ne (fun e => hdt (by rw [hd2, e]))]; exact h1
        -- an operation that leaves memory alone
        have done0 : kindOf P pure o ≠ 2 → ∀ f, DInv P pure all.toList base nf qs hs ι h w (fun i => listed.getD i false) f ι' w' → ∀ ι2 w2, Ext ι' (hs f) w' ι2 (hs f) w2 → Rep ι2 (hs f) w2 →
            DInv P pure all.toList base nf qs hs ι h w (fun i' => (listed.setIfInBounds i true).getD i' false) f ι2 w2 := by
          intro hk f D ι2 w2 E R
          refine D.move hrank D.le (fun q p hq hp hkp => ?_) (fun q p hp hkp hn hl => ?_) (fun q p t hp hf => ?_) (Nat.le_refl _) E R
          · simp only [hset]; split
            · rfl
            · exact D.done q p hq hp hkp
          · simp only [hset] at hl
            split at hl
            · rename_i e; subst e; rw [hoi] at hp; cases hp; exact absurd hkp hk
            · exact D.behind q p hp hkp hn hl
          · simp only [hset]
            rw [if_neg]
            rintro rfl
            rw [hoi] at hp; cases hp; exact hk (float_kind hf)
        -- as far as the place of this one
        have upto : (∀ q p, q < i → all.toList[q]? = some p → kindOf P pure p = 2 → listed.getD q false = true) → ∀ n f, n = i - f → f ≤ i → DInv P pure all.toList base nf qs hs ι h w (fun i => listed.getD i false) f ι' w' →
            DInv P pure all.toList base nf qs hs ι h w (fun i => listed.getD i false) i ι' w' := by
          intro hb n
          induction n with
          | zero => intro f hn hle D; rw [show i = f by omega]; exact D
          | succ n ihn =>
            intro f hn hle D
            have hlt : f < all.toList.length := by omega
            have hfo : all.toList[f]? = some all.toList[f] := by simp
            refine ihn (f + 1) (by omega) (by omega) (D.next (τs := τs) (fp := fp) (cl := cl) (all := all) hr hfo (steps f _ hfo).1 ?_)
            by_cases hk2 : kindOf P pure all.toList[f] = 2
            · have hLf := hb f _ (by omega) hfo hk2
              cases hff : floatOf all.toList[f] with
              | some t => exact .inr ⟨rfl, hLf⟩
              | none => exact absurd (D.behind f _ hfo hk2 hff hLf) (Nat.lt_irrefl _)
            · exact .inl ⟨hk2, keepsh f _ hfo hk2⟩
        unfold wpOpIn
        rw [hoa]
        simp only
        rcases stepD_inv (steps i o hoi).1 with ⟨t, hf, l, s1, s2, s3, s4⟩ | ⟨hnf, hx, hst⟩
        · -- a variable is made
          obtain ⟨hop, hg, d, hdst⟩ := floatOf_some hf
          have hw : Region.wanted o (yielded all a'.tmps) = true := by simp [Region.wanted, hg]
          rw [hw]
          obtain ⟨inf, z, hi, hz, hzz⟩ := zeroAV_cells s1
          refine alloc_wp hop hi hz ?_
          have D2 := D.born hbase.symm hinj hrank hoi hf hLi (L' := fun i' => (listed.setIfInBounds i true).getD i' false) (fun q => hset q) s1 hzz
          refine fin f _ _ _ _ D2 (fun x s hxs => ?_) ?_ s3
          · have hno := D.unborn i o t hoi hf hLi
            show (if x = base + qs i then _ else ι' x) = some s
            rw [if_neg (fun e => by rw [e, hno] at hxs; cases hxs)]; exact hxs
          · have := VR.ptr (ι := fun x => if x = base + qs i then some ⟨w'.heap.size, 0, l.length, z.cells.size⟩ else ι' x) (i := 0) (j := 0) (b := base + qs i) (p := ⟨w'.heap.size, 0, l.length, z.cells.size⟩) (by simp)
            simpa using this
        · -- another operation
          have hnst : kindOf P pure o ≠ 2 → isStoreOp o = false := fun hk => by
            cases hs' : isStoreOp o with
            | false => rfl
            | true => exact absurd (store_kind hs') hk
          have hup2 : kindOf P pure o = 2 → DInv P pure all.toList base nf qs hs ι h w (fun i => listed.getD i false) i ι' w' := fun hk2 => by
            have hfi : f ≤ i := by
              rcases Nat.lt_or_ge i f with h1 | h1
              · have := D.done i o h1 hoi hk2; simp only [hLi] at this; cases this
              · exact h1
            refine upto (fun q p hq hp hkp => before q p hq hp (kind ?_)) _ f rfl hfi D
            unfold kindClash
            rw [hnf]
            cases hfp : floatOf p with
            | some t => simp [hk2]
            | none =>
              have : apartD base fp q p i o = false := by
                unfold apartD
                split
                · rename_i x y hx hy
                  cases hr1 : isRdOp o with
                  | true => exact absurd hk2 (by have := rd_kind (P := P) (pure := pure) hr1; omega)
                  | false =>
                    cases hr2 : isRdOp p with
                    | true => exact absurd hkp (by have := rd_kind (P := P) (pure := pure) hr2; omega)
                    | false => simp
                · rfl
              simp [hk2, hkp, this]
          have step2 : kindOf P pure o = 2 → ∀ ι2 w2, DInv P pure all.toList base nf qs hs ι h w (fun i => listed.getD i false) i ι' w' → Ext ι' (hs i) w' ι2 (hs (i + 1)) w2 → Rep ι2 (hs (i + 1)) w2 →
              DInv P pure all.toList base nf qs hs ι h w (fun i' => (listed.setIfInBounds i true).getD i' false) (i + 1) ι2 w2 := by
            intro hk2 ι2 w2 D1 E R
            refine D1.move hrank (by omega) (fun q p hq hp hkp => ?_) (fun q p hp hkp hn hl => ?_) (fun q p t hp hf => ?_) (Nat.le_succ _) E R
            · simp only [hset]; split
              · rfl
              · exact D1.done q p (by omega) hp hkp
            · simp only [hset] at hl
              split at hl
              · rename_i e; omega
              · have := D1.behind q p hp hkp hn hl; omega
            · simp only [hset]
              rw [if_neg]
              rintro rfl
              rw [hoi] at hp; cases hp; rw [hnf] at hf; cases hf
          rcases hst with ⟨hwa, hτ, hh⟩ | ⟨hwa, v, hev, hτ⟩
          · rw [wanted_of hwa hlook]
            refine ⟨fun _ _ => trivial, ?_⟩
            by_cases hk2 : kindOf P pure o = 2
            · have D1 := hup2 hk2
              exact fin (i + 1) ι' w' Go.undef .undef (step2 hk2 ι' w' D1 (hh ▸ .refl _ _ _) (hh ▸ D1.rep)) (fun _ _ h => h) .undef hτ
            · exact fin f ι' w' Go.undef .undef (done0 hk2 f D ι' w' (.refl _ _ _) D.rep) (fun _ _ h => h) .undef hτ
          · rw [wanted_of hwa hlook]
            let τ' := (List.range (τs i).length).map fun t => if (looks all.toList o).contains t then (τs i).getD t .any else .any
            have hτl : (τs i).length = a'.tmps.toList.length := by rw [hlenτ i (Nat.le_of_lt hiN)]; simpa using hts.symm
            have hV : VRs ι' τ' a'.tmps.toList := mask_VRs hτl (fun t => (looks all.toList o).contains t) (fun t v hp hv => hlook t v (by simpa using hp) hv)
            have hrd : ∀ x ∈ o.op.operands.toList, rd τ' x = rd (τs i) x := fun x hx => mask_rd fun t hxt => by
              subst hxt
              simp only [List.contains_iff_mem]
              exact List.mem_append.2 (.inl (List.mem_filterMap.2 ⟨.tmp t, hx, rfl⟩))
            -- memory is left alone
            have quiet : kindOf P pure o ≠ 2 → ∀ f1, DInv P pure all.toList base nf qs hs ι h w (fun i => listed.getD i false) f1 ι' w' → evOp1 P cl o τ' (hs f1) (fun v h' => some (.ret v, h')) (fun _ _ => none) = some (.ret v, hs f1) →
                Oper.wpIn (W ρ) 0 P o a' w' (wpAnyIn (W ρ) 0 P .any all Q fuel (listed.setIfInBounds i true)) Q := by
              intro hk f1 D1 h3
              refine evOp1_sound hP hcl h3 D1.rep hV ?_ ?_
              · intro v2 h2 ι2 w2 u hk2 hE2 hR2 hvu
                simp only [Option.some.injEq, Prod.mk.injEq, Out.ret.injEq] at hk2
                obtain ⟨rfl, rfl⟩ := hk2
                exact fin f1 ι2 w2 u v2 (done0 hk f1 D1 ι2 w2 hE2 hR2) hE2.emb hvu hτ
              · intro v2 h2 ι2 w2 u hk2; cases hk2
            by_cases hk0 : kindOf P pure o = 0
            · have h1 : evOp P o (τs i) (hs i) retK = retK v (hs (i + 1)) := by rw [← kind0_op hk0 (cl := cl) _ _ retK (fun _ _ => none)]; exact hev _ _
              rw [evOp_kind0 hk0] at h1
              obtain ⟨v', hv', h2⟩ := kbind_some (show kbind _ _ = some (.ret v, hs (i + 1)) from h1)
              simp only [retK, Option.some.injEq, Prod.mk.injEq, Out.ret.injEq] at h2
              obtain ⟨rfl, hh⟩ := h2
              exact quiet (by omega) f D (by rw [kind0_op hk0, evOp_kind0 hk0, evOp_congr hrd, hv']; rfl)
            · by_cases hk2 : kindOf P pure o = 2
              · have D1 := hup2 hk2
                have h3 : evOp1 P cl o τ' (hs i) (fun v h' => some (.ret v, h')) (fun _ _ => none) = some (.ret v, hs (i + 1)) := by rw [evOp1_congr hrd]; exact hev _ _
                refine evOp1_sound hP hcl h3 D1.rep hV ?_ ?_
                · intro v2 h2 ι2 w2 u hk3 hE2 hR2 hvu
                  simp only [Option.some.injEq, Prod.mk.injEq, Out.ret.injEq] at hk3
                  obtain ⟨rfl, rfl⟩ := hk3
                  exact fin (i + 1) ι2 w2 u v2 (step2 hk2 ι2 w2 D1 hE2 hR2) hE2.emb hvu hτ
                · intro v2 h2 ι2 w2 u hk3; cases hk3
              · have hk1 : kindOf P pure o = 1 := by have := kind_le (P := P) (pure := pure) o; omega
                have hkeep := keepsh i o hoi hk2
                have hnso := hnst hk2
                cases hlow : (isRdOp o && lowD base fp i) with
                | false =>
                  have hb1 : ∀ q p, q < i → all.toList[q]? = some p → kindOf P pure p = 2 → listed.getD q false = true := fun q p hq hp hkp => before q p hq hp (kind (by
                    unfold kindClash
                    rw [hnf]
                    cases hfp : floatOf p with
                    | some t => simp [hk1]
                    | none =>
                      have : apartD base fp q p i o = false := by
                        unfold apartD
                        split
                        · rename_i x y hx hy
                          have : (isRdOp o && Nat.blt y base) = false := by rw [← hlow]; unfold lowD; rw [hy]
                          cases hr1 : isRdOp o with
                          | true => rw [hr1, Bool.true_and] at this; simp [hnso, this]
                          | false => simp [hnso]
                        · rfl
                      simp [hk1, hkp, this]))
                  have hb2 : ∀ q p, i < q → all.toList[q]? = some p → kindOf P pure p = 2 → listed.getD q false = false := fun q p hq hp hkp => behind q p hq hp (kind (by
                    unfold kindClash
                    rw [hnf]
                    cases hfp : floatOf p with
                    | some t => simp [hk1, hlow]
                    | none =>
                      have : apartD base fp i o q p = false := by
                        unfold apartD
                        split
                        · rename_i x y hx hy
                          have : (isRdOp o && Nat.blt x base) = false := by rw [← hlow]; unfold lowD; rw [hx]
                          cases hr1 : isRdOp o with
                          | true => rw [hr1, Bool.true_and] at this; simp [hnso, this]
                          | false => simp [hnso]
                        · rfl
                      simp [hk1, hkp, this]))
                  rcases Nat.lt_or_ge i f with hif | hif
                  · have hsame : ∀ j, i ≤ j → j ≤ f → hs j = hs i := by
                      intro j
                      induction j with
                      | zero => intro h1 _; rw [show i = 0 by omega]
                      | succ j ihj =>
                        intro h1 h2
                        rcases Nat.lt_or_ge j i with h3 | h3
                        · rw [show i = j + 1 by omega]
                        · have hjl : j < all.toList.length := by have := D.le; omega
                          have hoj : all.toList[j]? = some all.toList[j] := by simp
                          rw [keepsh j _ hoj ?_, ihj h3 (by omega)]
                          intro hkj
                          rcases Nat.lt_or_ge i j with h4 | h4
                          · have g1 := D.done j _ (by omega) hoj hkj
                            have g2 := hb2 j _ h4 hoj hkj
                            simp only [g2] at g1; cases g1
                          · obtain rfl : i = j := by omega
                            rw [hoi] at hoj
                            rw [← Option.some.inj hoj] at hkj; exact hk2 hkj
                    refine quiet hk2 f D ?_
                    rw [hsame f (by omega) (Nat.le_refl _), evOp1_congr hrd, hev, hkeep]
                  · have D1 := upto hb1 _ f rfl hif D
                    refine quiet hk2 i D1 ?_
                    rw [evOp1_congr hrd, hev, hkeep]
                | true =>
                  simp only [Bool.and_eq_true] at hlow
                  obtain ⟨hrdo, hlo⟩ := hlow
                  unfold lowD at hlo
                  split at hlo
                  case h_2 => cases hlo
                  rename_i b hb
                  have hbb : b < base := Nat.blt_eq.mp hlo
                  have htb : touchOf o (τs i) = some b := by rw [← hx, hb]
                  -- what the steps do to that block
                  have blk : ∀ q p, all.toList[q]? = some p → (kindOf P pure p = 2 → floatOf p = none → isStoreOp p = true ∧ ∃ x, fp.getD q none = some x ∧ x ≠ b) → (hs (q + 1))[b]? = (hs q)[b]? := by
                    intro q p hp hcond
                    by_cases hkp : kindOf P pure p = 2
                    · rcases stepD_inv (steps q p hp).1 with ⟨t, _, l, _, _, _, g4⟩ | ⟨gn, gx, gst⟩
                      · rw [g4, List.getElem?_set_ne (by omega)]
                      · obtain ⟨hsp, x, hx1, hx2⟩ := hcond hkp gn
                        rcases gst with ⟨_, _, g⟩ | ⟨_, v', g, _⟩
                        · rw [g]
                        · have g' : evOp P p (τs q) (hs q) retK = some (.ret v', hs (q + 1)) := by rw [← store_op1 hsp (cl := cl) _ _ retK (fun _ _ => none), g]; rfl
                          obtain ⟨b', y, g1, g2⟩ := evOp_store hsp g'
                          rw [g2, List.getElem?_set_ne (fun e => hx2 (by rw [← gx] at g1; rw [hx1] at g1; cases g1; exact e))]
                    · rw [keepsh q p hp hkp]
                  have chain : ∀ n i0 j0, n = j0 - i0 → i0 ≤ j0 → j0 ≤ all.toList.length → (∀ q p, i0 ≤ q → q < j0 → all.toList[q]? = some p → kindOf P pure p = 2 → floatOf p = none → isStoreOp p = true ∧ ∃ x, fp.getD q none = some x ∧ x ≠ b) → (hs j0)[b]? = (hs i0)[b]? := by
                    intro n
                    induction n with
                    | zero => intro i0 j0 hn hle _ _; rw [show i0 = j0 by omega]
                    | succ n ihn =>
                      intro i0 j0 hn hle hjl hcond
                      have hlt : i0 < all.toList.length := by omega
                      rw [ihn (i0 + 1) j0 (by omega) (by omega) hjl (fun q p h1 h2 h3 => hcond q p (by omega) h2 h3), blk i0 all.toList[i0] (by simp) (hcond i0 _ (Nat.le_refl _) (by omega) (by simp))]
                  have hsame : (hs f)[b]? = (hs i)[b]? := by
                    rcases Nat.lt_or_ge i f with hif | hif
                    · refine chain _ i f rfl (by omega) D.le (fun q p h1 h2 hp hkp hnp => ?_)
                      have hlq := D.done q p h2 hp hkp
                      have hiq : i < q := by
                        rcases Nat.lt_or_ge i q with h4 | h4
                        · exact h4
                        · obtain rfl : q = i := by omega
                          rw [hoi] at hp; cases hp; exact absurd hkp hk2
                      cases hc : kindClash P pure base fp i o q p with
                      | true => have := behind q p hiq hp (kind hc); simp only [this] at hlq; cases hlq
                      | false =>
                        unfold kindClash at hc
                        rw [hnf, hnp] at hc
                        simp only [Option.isSome_none, Bool.false_eq_true, if_false, hk1, hkp] at hc
                        have hap : apartD base fp i o q p = true := by simpa using hc
                        unfold apartD at hap
                        split at hap
                        · rename_i x y hx hy
                          rw [hb] at hx; cases hx
                          simp only [hnso, hrdo, Bool.false_and, Bool.false_or, Bool.true_and, Bool.and_eq_true, Bool.not_eq_true'] at hap
                          exact ⟨hap.2.1, y, hy, fun e => by subst e; simp at hap⟩
                        · cases hap
                    · refine (chain _ f i rfl hif (by omega) (fun q p h1 h2 hp hkp hnp => ?_)).symm
                      have hlq : listed.getD q false = false := by
                        rcases hq : listed.getD q false with _ | _
                        · rfl
                        · exact absurd (D.behind q p hp hkp hnp hq) (by omega)
                      cases hc : kindClash P pure base fp q p i o with
                      | true => have := before q p h2 hp (kind hc); rw [hlq] at this; cases this
                      | false =>
                        unfold kindClash at hc
                        rw [hnf, hnp] at hc
                        simp only [Option.isSome_none, Bool.false_eq_true, if_false, hk1, hkp] at hc
                        have hap : apartD base fp q p i o = true := by simpa using hc
                        unfold apartD at hap
                        split at hap
                        · rename_i x y hx hy
                          rw [hb] at hy; cases hy
                          simp only [hnso, hrdo, Bool.and_false, Bool.or_false, Bool.and_true, Bool.false_and, Bool.and_eq_true, Bool.not_eq_true'] at hap
                          exact ⟨hap.2.1, x, hx, fun e => by subst e; simp at hap⟩
                        · cases hap
                  refine quiet hk2 f D ?_
                  rw [rd_op1 hrdo, evOp_congr hrd]
                  have hi' : evOp P o (τs i) (hs i) retK = some (.ret v, hs i) := by rw [← rd_op1 hrdo (cl := cl) _ _ retK (fun _ _ => none), hev, hkeep]; rfl
                  exact evOp_rd hrdo htb hsame hi' _
  intro w0 hw0
  subst hw0
  have hrf : ∀ n (b : Nat) x, (roomFor n h)[b]? = some x → x = .dead ∨ h[b]? = some x := by
    intro n b x hx
    cases n with
    | zero => exact .inr hx
    | succ n =>
      simp only [roomFor] at hx
      rw [List.getElem?_append] at hx
      split at hx
      · exact .inr hx
      · have := List.mem_of_getElem? hx
        exact .inl (List.eq_of_mem_replicate this)
  have hrl : ∀ n, (roomFor n h).length = h.length + n := by intro n; cases n <;> simp [roomFor]
  have hrg : ∀ n (b : Nat) x, h[b]? = some x → (roomFor n h)[b]? = some x := by
    intro n b x hx
    cases n with
    | zero => exact hx
    | succ n => simp only [roomFor]; rw [List.getElem?_append_left (List.getElem?_eq_some_iff.1 hx).1]; exact hx
  have hfalse : ∀ q, (Array.replicate all.size false).getD q false = false := fun q => by simp only [Array.getD]; split <;> simp
  refine main all.size _ a w0 (by simp) ?_ ?_ ⟨0, ι, ?_, rfl, by simpa using ht.1.symm, ?_⟩
  · rw [List.filter_eq_self.2]
    · simp
    · intro i hi
      rw [hfalse]; rfl
  · intro i o ho hl
    rw [hfalse] at hl; cases hl
  · refine ⟨Nat.zero_le _, fun q o hq => absurd hq (Nat.not_lt_zero _), fun q o _ _ _ hl => ?_, ?_, ?_, ?_, fun q o t hq hf _ => ?_, fun q o t _ _ hl => ?_, fun q q' o o' t t' p p' _ _ _ hl => ?_⟩
    · simp only [hfalse] at hl; cases hl
    · rw [e2]
      refine ⟨fun _ _ h => h, rfl, rfl, rfl, Nat.le_refl _, fun _ _ _ => rfl, fun q b p x hb hx hp => ?_, by rw [hrl]; omega, fun _ _ => rfl⟩
      rcases hrf _ _ _ hb with rfl | hb
      · cases q <;> cases hx
      · exact .inr ⟨b, p, x, hb, hx, hp, rfl⟩
    · rw [e2]
      refine ⟨⟨fun b p hp => by rw [hrl]; have := hr.dom b p hp; omega, fun b ty n cols rw hb => ?_, fun b st pe kp τ ps asg body hb => ?_, fun a b p q x y hab hha hx hhb hy hp hq => ?_⟩, fun g l hg => ⟨(hr.gl g l hg).1, fun b p x hb hx hp => ?_⟩⟩
      · rcases hrf _ _ _ hb with hb | hb
        · cases hb
        · exact hr.mem _ _ _ _ _ hb
      · rcases hrf _ _ _ hb with hb | hb
        · cases hb
        · exact hr.lp _ _ _ _ _ _ _ _ hb
      · rcases hrf _ _ _ hha with rfl | hha
        · cases hx
        · rcases hrf _ _ _ hhb with rfl | hhb
          · cases hy
          · exact hr.sep a b p q x y hab hha hx hhb hy hp hq
      · rcases hrf _ _ _ hb with rfl | hb
        · cases hx
        · exact (hr.gl g l hg).2 b p x hb hx hp
    · rw [e2, hrl]; omega
    · cases hi : ι (base + qs q) with
      | none => rfl
      | some p => have := hr.dom _ _ hi; omega
    · simp only [hfalse] at hl; cases hl
    · simp only [hfalse] at hl; cases hl
  · have hz : ∀ (q : Nat → Bool), (∀ i, i < all.size → q i = false) → lastW q all.size = 0 := fun q hq => by
      rw [lastW_none (i := 0) all.size (fun j _ hj => hq j hj) (Nat.zero_le _)]; rfl
    intro t v hv
    rw [hz _ (fun i hi => by simp only [W1, hfalse, Bool.false_and]), e1] at hv
    exact ht.get hv

end Go.Am
