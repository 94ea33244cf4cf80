/- A call's meaning over a small memory is its meaning over every memory that holds the small one. No condition. -/
import Derived.Test.YtpdkcpbhihaakaaDoorAmFn
namespace Go.Am

/-- What a call does: from these arguments and this memory to that answer and that memory. -/
def SemCall (P : Program) (f : FuncId) (args : List AV) (h : Heap) (out : Out) (h' : Heap) : Prop :=
  ∀ ι w cargs, Rep ι h w → VRs ι args cargs → CallsIn (W none) 0 P f cargs.toArray w fun e w' => ∃ ι', Ext ι h w ι' h' w' ∧ Rep ι' h' w' ∧ OutR ι' out e

mutual
def AV.ren (σ : Nat → Nat) : AV → AV
  | .ptr b i j => .ptr (σ b) i j
  | .slc b o n => .slc (σ b) o n
  | .fn f l1 l2 => .fn f (AV.renL σ l1) (AV.renL σ l2)
  | .ifc t v => .ifc t (AV.ren σ v)
  | .agg l => .agg (AV.renL σ l)
  | .tup l => .tup (AV.renL σ l)
  | .any => .any
  | .undef => .undef
  | .bool b => .bool b
  | .int k n => .int k n
  | .str s => .str s
  | .nilptr => .nilptr
  | .nilsl => .nilsl
  | .nilfn => .nilfn
  | .nilifc => .nilifc
  | .yld b => .yld (σ b)
  | .gp g j => .gp g j
def AV.renL (σ : Nat → Nat) : List AV → List AV
  | [] => []
  | v :: l => AV.ren σ v :: AV.renL σ l
end

mutual
/-- The numbers of blocks in a value. -/
def AV.within (p : Nat → Prop) : AV → Prop
  | .ptr b _ _ => p b
  | .slc b _ _ => p b
  | .yld b => p b
  | .fn _ l1 l2 => AV.withinL p l1 ∧ AV.withinL p l2
  | .ifc _ v => AV.within p v
  | .agg l => AV.withinL p l
  | .tup l => AV.withinL p l
  | _ => True
def AV.withinL (p : Nat → Prop) : List AV → Prop
  | [] => True
  | v :: l => AV.within p v ∧ AV.withinL p l
end

theorem renL_eq (σ : Nat → Nat) (l : List AV) : AV.renL σ l = l.map (AV.ren σ) := by
  induction l with
  | nil => rfl
  | cons x l ih => simp [AV.renL, ih]

theorem withinL_iff {p : Nat → Prop} {l : List AV} : AV.withinL p l ↔ ∀ x ∈ l, AV.within p x := by
  induction l with
  | nil => simp [AV.withinL]
  | cons x l ih => simp [AV.withinL, ih]

/-- From one naming of blocks to another. -/
theorem VR.ren {ι ι' : Emb} {σ : Nat → Nat} {q : Nat → Prop} (hc : ∀ b p, q b → ι b = some p → ι' (σ b) = some p) {v : AV} {u : Value} (h : VR ι v u) : AV.within q v → VR ι' (v.ren σ) u := by
  have lists : ∀ {l : List AV} {vs : List Value}, l.length = vs.length → (∀ (i : Nat) (x : AV) (u : Value), l[i]? = some x → vs[i]? = some u → AV.within q x → VR ι' (x.ren σ) u) → AV.withinL q l →
      (AV.renL σ l).length = vs.length ∧ ∀ (i : Nat) (x : AV) (u : Value), (AV.renL σ l)[i]? = some x → vs[i]? = some u → VR ι' x u := by
    intro l vs e ih hw
    rw [renL_eq]
    refine ⟨by simpa using e, fun i x u h1 h2 => ?_⟩
    rw [List.getElem?_map] at h1
    cases hl : l[i]? with
    | none => simp [hl] at h1
    | some y => simp [hl] at h1; subst h1; exact ih i y u hl h2 (withinL_iff.1 hw y (List.mem_of_getElem? hl))
  induction h with
  | any u => intro _; exact .any u
  | undef => intro _; exact .undef
  | bool b => intro _; exact .bool b
  | int k n => intro _; exact .int k n
  | str s => intro _; exact .str s
  | nilptr => intro _; exact .nilptr
  | ptr h => intro hw; exact .ptr (hc _ _ hw h)
  | gp g j => intro _; exact .gp g j
  | nilsl => intro _; exact .nilsl
  | slc h h1 h2 h3 => intro hw; exact .slc (hc _ _ hw h) h1 h2 h3
  | fn f e1 e2 _ _ i1 i2 =>
    intro hw
    simp only [AV.within] at hw
    have a := lists e1 i1 hw.1
    have b := lists e2 i2 hw.2
    exact .fn f a.1 b.1 a.2 b.2
  | nilfn => intro _; exact .nilfn
  | ifc t _ i => intro hw; exact .ifc t (i hw)
  | nilifc => intro _; exact .nilifc
  | agg e _ i => intro hw; have a := lists e i hw; exact .agg a.1 a.2
  | tup e _ i => intro hw; have a := lists e i hw; exact .tup a.1 a.2
  | yld h => intro hw; exact .yld (hc _ _ hw h)

/-- And back. -/
theorem VR.unren {ι ι' : Emb} {σ : Nat → Nat} {q : Nat → Prop} (hc : ∀ b p, q b → ι' (σ b) = some p → ι b = some p) : ∀ {v : AV} {u : Value}, VR ι' (v.ren σ) u → AV.within q v → VR ι v u := by
  intro v
  induction v using AV.rec (motive_2 := fun l => ∀ {vs : List Value}, VRs ι' (AV.renL σ l) vs → AV.withinL q l → VRs ι l vs) with
  | any => intro u h _; exact .any u
  | undef => intro u h _; cases h; exact .undef
  | bool b => intro u h _; cases h; exact .bool b
  | int k n => intro u h _; cases h; exact .int k n
  | str s => intro u h _; cases h; exact .str s
  | nilptr => intro u h _; cases h; exact .nilptr
  | ptr b i j => intro u h hw; obtain ⟨p, hp, rfl⟩ := h.ptr_inv; exact .ptr (hc _ _ hw hp)
  | nilsl => intro u h _; cases h; exact .nilsl
  | yld b => intro u h hw; obtain ⟨p, hp, rfl⟩ := h.yld_inv; exact .yld (hc _ _ hw hp)
  | gp g j => intro u h hw; cases h; exact .gp g j
  | slc b o n => intro u h hw; obtain ⟨p, off', cap, hp, h1, h2, h3, rfl⟩ := h.slc_inv; exact .slc (hc _ _ hw hp) h1 h2 h3
  | fn f l1 l2 i1 i2 =>
    intro u h hw
    simp only [AV.ren] at h
    simp only [AV.within] at hw
    generalize ha : AV.renL σ l1 = a1 at h
    generalize hb : AV.renL σ l2 = a2 at h
    cases h with
    | fn f e1 e2 h1 h2 =>
      have a := i1 (by rw [ha]; exact ⟨e1, h1⟩) hw.1
      have b := i2 (by rw [hb]; exact ⟨e2, h2⟩) hw.2
      exact .fn f a.1 b.1 a.2 b.2
  | nilfn => intro u h _; cases h; exact .nilfn
  | ifc t v i => intro u h hw; simp only [AV.ren] at h; cases h with | ifc t h => exact .ifc t (i h hw)
  | nilifc => intro u h _; cases h; exact .nilifc
  | agg l i =>
    intro u h hw
    simp only [AV.ren] at h
    generalize ha : AV.renL σ l = a at h
    cases h with
    | agg e h => have a := i (by rw [ha]; exact ⟨e, h⟩) hw; exact .agg a.1 a.2
  | tup l i =>
    intro u h hw
    simp only [AV.ren] at h
    generalize ha : AV.renL σ l = a at h
    cases h with
    | tup e h => have a := i (by rw [ha]; exact ⟨e, h⟩) hw; exact .tup a.1 a.2
  | nil => rename_i vs h _; rw [VRs.nil_inv h]; exact .nil
  | cons x l ix il =>
    rename_i vs h hw
    obtain ⟨u, us, rfl, hx, hs⟩ := h.cons_inv
    exact .cons (ix hx hw.1) (il hs hw.2)

def slRen (σ : Nat → Nat) : Option (Nat × Nat × Nat) → Option (Nat × Nat × Nat)
  | none => none
  | some (b, o, n) => some (σ b, o, n)

def Col.ren (σ : Nat → Nat) : Col → Col
  | .avs l => .avs (AV.renL σ l)
  | .slcs l => .slcs (l.map (slRen σ))
  | c => c

def slWithin (q : Nat → Prop) : Option (Nat × Nat × Nat) → Prop
  | none => True
  | some (b, _, _) => q b

def Col.within (q : Nat → Prop) : Col → Prop
  | .avs l => AV.withinL q l
  | .slcs l => ∀ x ∈ l, slWithin q x
  | _ => True

def Blk.ren (σ : Nat → Nat) : Blk → Blk
  | .mem t n cols rw => .mem t n (cols.map (Col.ren σ)) rw
  | .dead => .dead
  | .loop st pe kp τ ps asg body => .loop st pe kp (AV.renL σ τ) ps asg body

def Blk.within (q : Nat → Prop) : Blk → Prop
  | .mem _ _ cols _ => ∀ c ∈ cols, Col.within q c
  | .dead => True
  | .loop _ _ _ τ _ _ _ => AV.withinL q τ

theorem Blk.ren_has (σ : Nat → Nat) (x : Blk) (q : Bool) : (x.ren σ).has q = x.has q := by cases x <;> cases q <;> rfl

/-- A value that stands for something is within the memory. -/
theorem VR.inside {ι : Emb} {q : Nat → Prop} (hd : ∀ b p, ι b = some p → q b) {v : AV} {u : Value} (h : VR ι v u) : AV.within q v := by
  have lists : ∀ {l : List AV} {vs : List Value}, l.length = vs.length → (∀ (i : Nat) (x : AV) (u : Value), l[i]? = some x → vs[i]? = some u → AV.within q x) → AV.withinL q l := by
    intro l vs e ih
    refine withinL_iff.2 fun x hx => ?_
    obtain ⟨i, hi, rfl⟩ := List.mem_iff_getElem.1 hx
    have hi' : i < vs.length := e ▸ hi
    exact ih i l[i] vs[i] (List.getElem?_eq_getElem hi) (List.getElem?_eq_getElem hi')
  induction h with
  | ptr h => exact hd _ _ h
  | slc h h1 h2 h3 => exact hd _ _ h
  | yld h => exact hd _ _ h
  | fn f e1 e2 _ _ i1 i2 => exact ⟨lists e1 i1, lists e2 i2⟩
  | ifc t _ i => exact i
  | agg e _ i => exact lists e i
  | tup e _ i => exact lists e i
  | _ => trivial

theorem Col.ren_len (σ : Nat → Nat) (c : Col) : (c.ren σ).len = c.len := by
  cases c <;> simp [Col.ren, Col.len, renL_eq]

theorem Col.ren_at (σ : Nat → Nat) (c : Col) {i : Nat} (hi : i < c.len) : (c.ren σ).at i = (c.at i).ren σ := by
  cases c with
  | avs l => simp only [Col.len] at hi; simp only [Col.ren, Col.at, renL_eq]; rw [getD_map _ _ .any _ hi]
  | slcs l =>
    simp only [Col.len] at hi; simp only [Col.ren, Col.at]; rw [getD_map _ _ none _ hi]
    cases l.getD i none with
    | none => rfl
    | some x => obtain ⟨b, o, n⟩ := x; rfl
  | ints k l => rfl
  | bools l => rfl
  | strs l => rfl

theorem Col.within_at {q : Nat → Prop} {c : Col} (h : c.within q) {i : Nat} (hi : i < c.len) : AV.within q (c.at i) := by
  cases c with
  | avs l =>
    simp only [Col.len] at hi; simp only [Col.at, List.getD_eq_getElem?_getD, List.getElem?_eq_getElem hi, Option.getD_some]
    exact withinL_iff.1 h _ (List.getElem_mem hi)
  | slcs l =>
    simp only [Col.len] at hi; simp only [Col.at, List.getD_eq_getElem?_getD, List.getElem?_eq_getElem hi, Option.getD_some]
    have := h l[i] (List.getElem_mem hi)
    cases hx : l[i] with
    | none => trivial
    | some x => rw [hx] at this; obtain ⟨b, o, n⟩ := x; exact this
  | ints k l => trivial
  | bools l => trivial
  | strs l => trivial

/-- Where the small memory's blocks lie in the great one: those that were there by σ, the new ones behind it. -/
def place (n : Nat) (σ : Nat → Nat) (H : Nat) (b : Nat) : Nat := bif Nat.blt b n then σ b else H + (b - n)

/-- The great memory behind the call. -/
def updF (n : Nat) (σ : Nat → Nat) (H : Nat) (g : Heap) : Nat → Heap → Heap
  | 0, h => h
  | k + 1, h => (updF n σ H g k h).set (σ k) ((g.getD k .dead).ren (place n σ H))

def after (n : Nat) (σ : Nat → Nat) (g : Heap) (h : Heap) : Heap := updF n σ h.length g n h ++ (g.drop n).map fun b => b.ren (place n σ h.length)

theorem updF_len (n : Nat) (σ : Nat → Nat) (H : Nat) (g : Heap) : ∀ k h, (updF n σ H g k h).length = h.length
  | 0, h => rfl
  | k + 1, h => by simp [updF, updF_len n σ H g k h]

theorem updF_get (n : Nat) (σ : Nat → Nat) (H : Nat) (g : Heap) (h : Heap) (hlt : ∀ i, i < n → σ i < h.length) : ∀ k, k ≤ n → ∀ x,
    (updF n σ H g k h)[x]? = (if ∃ i, i < k ∧ σ i = x then none else h[x]?) ∨ ∃ i, i < k ∧ σ i = x ∧ (updF n σ H g k h)[x]? = some ((g.getD i .dead).ren (place n σ H)) := by
  intro k
  induction k with
  | zero => intro _ x; left; simp [updF]
  | succ k ih =>
    intro hk x
    simp only [updF]
    by_cases hx : σ k = x
    · right
      refine ⟨k, by omega, hx, ?_⟩
      subst hx
      rw [List.getElem?_set, if_pos rfl, if_pos (by rw [updF_len]; exact hlt k (by omega))]
    · rw [List.getElem?_set, if_neg hx]
      rcases ih (by omega) x with h1 | ⟨i, h1, h2, h3⟩
      · by_cases he : ∃ i, i < k ∧ σ i = x
        · rw [if_pos he] at h1
          obtain ⟨i, hi, hs⟩ := he
          left
          rw [if_pos ⟨i, by omega, hs⟩]; exact h1
        · rw [if_neg he] at h1
          left
          rw [if_neg, h1]
          rintro ⟨i, hi, hs⟩
          rcases Nat.lt_or_ge i k with hik | hik
          · exact he ⟨i, hik, hs⟩
          · exact hx (by rw [show k = i by omega]; exact hs)
      · right; exact ⟨i, by omega, h2, h3⟩

def Out.ren (σ : Nat → Nat) : Out → Out
  | .ret v => .ret (v.ren σ)
  | .pan v => .pan (v.ren σ)

theorem SemCall.frame {P : Program} {f : FuncId} {args : List AV} {out : Out} {h0 g : Heap} (hs : SemCall P f args h0 out g) (σ : Nat → Nat) (h : Heap)
    (inj : ∀ i j, i < h0.length → j < h0.length → σ i = σ j → i = j) (hσ : ∀ i, i < h0.length → h[σ i]? = some ((h0.getD i .dead).ren σ)) (hlive : ∀ i, i < h0.length → (h0.getD i .dead).has false = true)
    (hargs : AV.withinL (· < h0.length) args) (hblk : ∀ i, i < h0.length → (h0.getD i .dead).within (· < h0.length)) (hgl : h0.length ≤ g.length) :
    SemCall P f (AV.renL σ args) h (out.ren (place h0.length σ h.length)) (after h0.length σ g h) := by
  intro ι w cargs hr ha
  have hlt : ∀ i, i < h0.length → σ i < h.length := fun i hi => (List.getElem?_eq_some_iff.1 (hσ i hi)).1
  let ι0 : Emb := fun b => if b < h0.length then ι (σ b) else none
  have hι0 : ∀ b p, ι0 b = some p → b < h0.length ∧ ι (σ b) = some p := by
    intro b p hb
    simp only [ι0] at hb
    split at hb
    · rename_i hlt; exact ⟨hlt, hb⟩
    · cases hb
  have back : ∀ b p, b < h0.length → ι (σ b) = some p → ι0 b = some p := fun b p hb hp => by simp only [ι0, if_pos hb]; exact hp
  have hget0 : ∀ i x, h0[i]? = some x → i < h0.length ∧ h0.getD i .dead = x := fun i x hi =>
    ⟨(List.getElem?_eq_some_iff.1 hi).1, by simp [List.getD, hi]⟩
  have hbig : ∀ i x, h0[i]? = some x → h[σ i]? = some (x.ren σ) := fun i x hi => by
    obtain ⟨h1, h2⟩ := hget0 i x hi
    rw [hσ i h1, h2]
  -- the small memory
  have hr0 : Rep ι0 h0 w := by
    refine ⟨⟨fun b p hb => (hι0 b p hb).1, ?_, ?_, ?_⟩, fun gg l hg => ⟨(hr.gl gg l hg).1, fun b p x hb hx hp => (hr.gl gg l hg).2 (σ b) p _ (hbig b _ hb) (by rw [Blk.ren_has]; exact hx) (hι0 b p hp).2⟩⟩
    · intro b t n c rr hb
      obtain ⟨hl, he⟩ := hget0 b _ hb
      obtain ⟨p, C, fr, g1, g2, g3, g4, g5, g6, g7, g8⟩ := hr.mem (σ b) _ _ _ _ (hbig b _ hb)
      have hw := hblk b hl
      rw [he] at hw
      refine ⟨p, C, fr, back b p hl g1, g2, g3, by simpa using g4, g5, fun i j x hi hj => ?_, g7, fun x hx => ?_⟩
      · obtain ⟨u, k1, k2, k3⟩ := g6 i j (x.ren σ) hi (by rw [List.getElem?_map, hj]; rfl)
        have hxl : i < x.len := by
          have := g8 (x.ren σ) (List.mem_map.2 ⟨x, List.mem_of_getElem? hj, rfl⟩)
          rw [Col.ren_len] at this; omega
        rw [Col.ren_at σ x hxl] at k3
        exact ⟨u, k1, k2, k3.unren (fun b p hb hp => back b p hb hp) (Col.within_at (hw x (List.mem_of_getElem? hj)) hxl)⟩
      · have := g8 (x.ren σ) (List.mem_map.2 ⟨x, hx, rfl⟩)
        rwa [Col.ren_len] at this
    · intro b st pe kp τ ps asg body hb
      obtain ⟨hl, he⟩ := hget0 b _ hb
      obtain ⟨p, y, g1, g2, g3, g4, g5, g6, g7, g8⟩ := hr.lp (σ b) _ _ _ _ _ _ _ (hbig b _ hb)
      have hw := hblk b hl
      rw [he] at hw
      refine ⟨p, y, back b p hl g1, g2, g3, g4, g5, g6, g7, ?_⟩
      rw [renL_eq] at g8
      refine ⟨by simpa using g8.1, fun i x u hx hu => ?_⟩
      exact (g8.2 i (x.ren σ) u (by rw [List.getElem?_map, hx]; rfl) hu).unren (fun b p hb hp => back b p hb hp) (withinL_iff.1 hw x (List.mem_of_getElem? hx))
    · intro a b p q x y hab hha hx hhb hy hp hq
      obtain ⟨hla, _⟩ := hget0 a _ hha
      obtain ⟨hlb, _⟩ := hget0 b _ hhb
      exact hr.sep (σ a) (σ b) p q _ _ (fun e => hab (inj a b hla hlb e)) (hbig a _ hha) (by rw [Blk.ren_has]; exact hx) (hbig b _ hhb) (by rw [Blk.ren_has]; exact hy) (hι0 a p hp).2 (hι0 b q hq).2
  have ha0 : VRs ι0 args cargs := by
    rw [renL_eq] at ha
    refine ⟨by simpa using ha.1, fun i x u hx hu => ?_⟩
    have := ha.2 i (x.ren σ) u (by rw [List.getElem?_map, hx]; rfl) hu
    exact this.unren (fun b p hb hp => back b p hb hp) (withinL_iff.1 hargs x (List.mem_of_getElem? hx))
  refine callsIn_mono (hs ι0 w cargs hr0 ha0) ?_
  rintro e w' ⟨ι1, hE, hR, hO⟩
  -- the great memory behind it
  let ι' : Emb := fun x => if x < h.length then ι x else if h0.length ≤ x - h.length + h0.length then ι1 (x - h.length + h0.length) else none
  have hle : Emb.le ι ι' := fun b p hb => by simp only [ι', if_pos (hr.dom b p hb)]; exact hb
  have hι0s : ∀ b, b < h0.length → ∃ p, ι0 b = some p ∧ ι (σ b) = some p ∧ ι1 b = some p := fun b hb => by
    have hx : h0[b]? = some (h0.getD b .dead) := by simp [List.getD, List.getElem?_eq_getElem hb]
    obtain ⟨p, g1, _⟩ := hr0.there hx (hlive b hb)
    exact ⟨p, g1, (hι0 b p g1).2, hE.emb b p g1⟩
  generalize hpl : place h0.length σ h.length = pl
  have hpl1 : ∀ b, b < h0.length → pl b = σ b := fun b hb => by rw [← hpl]; simp only [place, Nat.blt_eq.mpr hb, cond_true]
  have hpl2 : ∀ b, h0.length ≤ b → pl b = h.length + (b - h0.length) := fun b hb => by
    rw [← hpl]
    have : Nat.blt b h0.length = false := by
      cases hc : Nat.blt b h0.length with
      | false => rfl
      | true => have := Nat.blt_eq.mp hc; omega
    simp only [place, this, cond_false]
  have htr : ∀ b p, True → ι1 b = some p → ι' (pl b) = some p := by
    intro b p _ hp
    rcases Nat.lt_or_ge b h0.length with hb | hb
    · obtain ⟨q, h1, h2, h3⟩ := hι0s b hb
      rw [h3] at hp; cases hp
      rw [hpl1 b hb]
      exact hle _ _ h2
    · rw [hpl2 b hb]
      simp only [ι']
      rw [if_neg (by omega), if_pos (by omega), show h.length + (b - h0.length) - h.length + h0.length = b by omega]
      exact hp
  have hinj : ∀ b c, pl b = pl c → b = c := by
    intro b c e
    rcases Nat.lt_or_ge b h0.length with hb | hb <;> rcases Nat.lt_or_ge c h0.length with hc | hc
    · rw [hpl1 b hb, hpl1 c hc] at e; exact inj b c hb hc e
    · rw [hpl1 b hb, hpl2 c hc] at e; have := hlt b hb; omega
    · rw [hpl2 b hb, hpl1 c hc] at e; have := hlt c hc; omega
    · rw [hpl2 b hb, hpl2 c hc] at e; omega
  -- what lies where
  have look : ∀ (q : Bool) (x : Nat) (y : Blk), (after h0.length σ g h)[x]? = some y → y.has q = true →
      (x < h.length ∧ (∀ i, i < h0.length → σ i ≠ x) ∧ h[x]? = some y) ∨ ∃ b y0, pl b = x ∧ g[b]? = some y0 ∧ y = y0.ren pl ∧ y0.has q = true := by
    intro q x y hx hy
    unfold after at hx
    rw [hpl] at hx
    have hul := updF_len h0.length σ h.length g h0.length h
    rw [List.getElem?_append] at hx
    split at hx
    · rename_i hxl
      rw [hul] at hxl
      rcases updF_get h0.length σ h.length g h hlt h0.length (Nat.le_refl _) x with h1 | ⟨i, h1, h2, h3⟩
      · rw [h1] at hx
        split at hx
        · cases hx
        · rename_i hn; exact .inl ⟨hxl, fun i hi e => hn ⟨i, hi, e⟩, hx⟩
      · rw [h3, hpl] at hx
        cases Option.some.inj hx
        have hg : g[i]? = some (g.getD i .dead) := by simp [List.getD, List.getElem?_eq_getElem (show i < g.length by omega)]
        exact .inr ⟨i, _, by rw [hpl1 i h1]; exact h2, hg, rfl, by rwa [Blk.ren_has] at hy⟩
    · rename_i hxl
      rw [hul] at hxl hx
      rw [List.getElem?_map] at hx
      cases hb : (g.drop h0.length)[x - h.length]? with
      | none => simp [hb] at hx
      | some y0 =>
        simp only [hb, Option.map_some] at hx
        cases Option.some.inj hx
        rw [List.getElem?_drop] at hb
        exact .inr ⟨h0.length + (x - h.length), y0, by rw [hpl2 _ (by omega)]; omega, hb, rfl, by rwa [Blk.ren_has] at hy⟩
  have hemb2 : ∀ (q : Bool) b x, g[b]? = some x → x.has q = true → ∃ p, ι1 b = some p ∧ ι' (pl b) = some p := fun q b x hx hq => by
    obtain ⟨p, g1, _⟩ := hR.there hx hq
    exact ⟨p, g1, htr b p trivial g1⟩
  have hιA : ∀ x, x < h.length → ι' x = ι x := fun x hx => by simp only [ι', if_pos hx]
  have hR0 : Rep0 ι' (after h0.length σ g h) w' := by
    refine ⟨?_, ?_, ?_, ?_⟩
    · intro x p hx
      have hl : (after h0.length σ g h).length = h.length + (g.length - h0.length) := by simp [after, updF_len]
      rw [hl]
      simp only [ι'] at hx
      split at hx
      · omega
      · split at hx
        · have := hR.dom _ _ hx; omega
        · cases hx
    · intro x t n c rr hx
      rcases look false x _ hx rfl with ⟨hxl, hni, hx⟩ | ⟨b, y0, hbx, hg0, he, _⟩
      · obtain ⟨p, C, fr, g1, g2, g3, g4, g5, g6, g7⟩ := hr.mem x t n c rr hx
        refine ⟨p, C, fr, hle _ _ g1, ?_, g3, g4, g5, fun i j y hi hj => ?_, g7⟩
        · rw [hE.keep p.blk (hr.blk_lt hx g1) (fun b q z hb hz hq => ?_)]
          · exact g2
          · obtain ⟨hbl, _⟩ := hget0 b _ hb
            exact hr.sep (σ b) x q p _ _ (hni b hbl) (hbig b _ hb) (by rw [Blk.ren_has]; exact hz) hx rfl (hι0 b q hq).2 g1
        · obtain ⟨u, k1, k2, k3⟩ := g6 i j y hi hj
          exact ⟨u, k1, k2, k3.mono hle⟩
      · cases y0 with
        | dead => cases he
        | loop st pe kp τ ps asg body => cases he
        | mem t0 n0 c0 rr0 =>
          simp only [Blk.ren] at he
          cases he
          obtain ⟨p, C, fr, g1, g2, g3, g4, g5, g6, g7, g8⟩ := hR.mem b _ _ c0 _ hg0
          refine ⟨p, C, fr, hbx ▸ htr b p trivial g1, g2, g3, by simpa using g4, g5, fun i j y hi hj => ?_, g7, fun y hy => ?_⟩
          · rw [List.getElem?_map] at hj
            cases hj0 : c0[j]? with
            | none => simp [hj0] at hj
            | some y0 =>
              simp only [hj0, Option.map_some, Option.some.injEq] at hj
              subst hj
              obtain ⟨u, k1, k2, k3⟩ := g6 i j y0 hi hj0
              have hyl : i < y0.len := by rw [g8 y0 (List.mem_of_getElem? hj0)]; exact hi
              exact ⟨u, k1, k2, by rw [Col.ren_at pl y0 hyl]; exact k3.ren htr (k3.inside fun _ _ _ => trivial)⟩
          · obtain ⟨y0, hy0, rfl⟩ := List.mem_map.1 hy
            rw [Col.ren_len]; exact g8 y0 hy0
    · intro x st pe kp τ ps asg body hx
      rcases look false x _ hx rfl with ⟨hxl, hni, hx⟩ | ⟨b, y0, hbx, hg0, he, _⟩
      · obtain ⟨p, y, g1, g2, g3, g4, g5, g6, g7, g8⟩ := hr.lp x _ _ _ _ _ _ _ hx
        refine ⟨p, y, hle _ _ g1, ?_, g3, g4, g5, g6, g7, g8.mono hle⟩
        rw [hE.keep p.blk (Array.getElem?_eq_some_iff.1 g2).1 (fun b q z hb hz hq => ?_)]
        · exact g2
        · obtain ⟨hbl, _⟩ := hget0 b _ hb
          exact hr.sep (σ b) x q p _ _ (hni b hbl) (hbig b _ hb) (by rw [Blk.ren_has]; exact hz) hx rfl (hι0 b q hq).2 g1
      · cases y0 with
        | dead => cases he
        | mem t0 n0 c0 rr0 => cases he
        | loop st0 pe0 kp0 τ0 ps0 asg0 body0 =>
          simp only [Blk.ren] at he
          cases he
          obtain ⟨p, y, g1, g2, g3, g4, g5, g6, g7, g8⟩ := hR.lp b _ _ _ _ _ _ _ hg0
          refine ⟨p, y, hbx ▸ htr b p trivial g1, g2, g3, g4, g5, g6, g7, ?_⟩
          rw [renL_eq]
          refine ⟨by simpa using g8.1, fun i x u hx hu => ?_⟩
          rw [List.getElem?_map] at hx
          cases hx0 : τ0[i]? with
          | none => simp [hx0] at hx
          | some x0 =>
            simp only [hx0, Option.map_some, Option.some.injEq] at hx
            subst hx
            have := g8.2 i x0 u hx0 hu
            exact this.ren htr (this.inside fun _ _ _ => trivial)
    · intro x y p q u v hxy hx hu hy hv hp hq
      rcases look true x _ hx hu with ⟨hxl, hni, hx⟩ | ⟨b, y0, hbx, hg0, he, hu0⟩ <;> rcases look false y _ hy hv with ⟨hyl, hnj, hy⟩ | ⟨b2, y2, hby, hg02, he2, hv0⟩
      · rw [hιA x hxl] at hp; rw [hιA y hyl] at hq
        exact hr.sep x y p q _ _ hxy hx hu hy hv hp hq
      · rw [hιA x hxl] at hp
        obtain ⟨p2, k1, k2⟩ := hemb2 _ b2 _ hg02 hv0
        rw [hby, hq] at k2; cases k2
        rcases hE.org false b2 q _ hg02 hv0 k1 with hge | ⟨b0, p0, x0, f1, f0, f2, f3⟩
        · have := hr.has_lt hx hu hp; omega
        · rw [← f3]
          obtain ⟨hbl, _⟩ := hget0 b0 _ f1
          exact hr.sep x (σ b0) p p0 _ _ (fun e => hni b0 hbl e.symm) hx hu (hbig b0 _ f1) (by rw [Blk.ren_has]; exact f0) hp (hι0 b0 p0 f2).2
      · rw [hιA y hyl] at hq
        obtain ⟨p2, k1, k2⟩ := hemb2 _ b _ hg0 hu0
        rw [hbx, hp] at k2; cases k2
        rcases hE.org true b p _ hg0 hu0 k1 with hge | ⟨b0, p0, x0, f1, f0, f2, f3⟩
        · have := hr.has_lt hy hv hq; omega
        · rw [← f3]
          obtain ⟨hbl, _⟩ := hget0 b0 _ f1
          exact hr.sep (σ b0) y p0 q _ _ (hnj b0 hbl) (hbig b0 _ f1) (by rw [Blk.ren_has]; exact f0) hy hv (hι0 b0 p0 f2).2 hq
      · obtain ⟨p2, k1, k2⟩ := hemb2 _ b _ hg0 hu0
        obtain ⟨p3, k3, k4⟩ := hemb2 _ b2 _ hg02 hv0
        rw [hbx, hp] at k2; cases k2
        rw [hby, hq] at k4; cases k4
        exact hR.sep b b2 p q _ _ (fun e => hxy (by rw [← hbx, ← hby, e])) hg0 hu0 hg02 hv0 k1 k3
  have hE' : Ext ι h w ι' (after h0.length σ g h) w' := by
    refine ⟨hle, hE.os, hE.tape, hE.output, hE.size, fun k hk hn => hE.keep k hk (fun b p x hb hx hp => hn (σ b) p _ (hbig b _ hb) (by rw [Blk.ren_has]; exact hx) (hι0 b p hp).2), ?_, by simp [after, updF_len], fun b hb => hιA b hb⟩
    intro q x p y hx hy hp
    rcases look q x _ hx hy with ⟨hxl, hni, hx⟩ | ⟨b, y0, hbx, hg0, he, hu0⟩
    · rw [hιA x hxl] at hp; exact .inr ⟨x, p, y, hx, hy, hp, rfl⟩
    · obtain ⟨p2, k1, k2⟩ := hemb2 _ b _ hg0 hu0
      rw [hbx, hp] at k2; cases k2
      rcases hE.org q b p _ hg0 hu0 k1 with hge | ⟨b0, p0, x0, f1, f0, f2, f3⟩
      · exact .inl hge
      · exact .inr ⟨σ b0, p0, _, hbig b0 _ f1, by rw [Blk.ren_has]; exact f0, (hι0 b0 p0 f2).2, f3⟩
  refine ⟨ι', hE', ⟨hR0, hE'.gl hr.gl⟩, ?_⟩
  cases hO with
  | ret hv => exact .ret (hv.ren htr (hv.inside fun _ _ _ => trivial))
  | pan hv => exact .pan (hv.ren htr (hv.inside fun _ _ _ => trivial))

def Out.vals : Out → List AV
  | .ret v => [v]
  | .pan v => [v]

def Out.map (f : AV → AV) : Out → Out
  | .ret v => .ret (f v)
  | .pan v => .pan (f v)

/-- Behind a call: what nothing leads to is left out. -/
theorem SemCall.packed {P : Program} {f : FuncId} {args : List AV} {out : Out} {h0 g : Heap} (hs : SemCall P f args h0 out g) {out' : Out} {g' : Heap}
    (he : pack h0.length [] out.vals g (fun f _ h => some (out.map f, h)) = some (out', g')) : SemCall P f args h0 out' g' := by
  intro ι w cargs hr ha
  refine callsIn_mono (hs ι w cargs hr ha) ?_
  rintro e w' ⟨ι1, hE, hR, hO⟩
  obtain ⟨fn, τ', h', ι', hk, hr', _, hf, hag, horg, hlen⟩ := pack_sound he hR
  simp only [Option.some.injEq, Prod.mk.injEq] at hk
  obtain ⟨rfl, rfl⟩ := hk
  refine ⟨ι', hE.packed hr.dom (Nat.le_refl _) hlen hag horg, hr', ?_⟩
  cases hO with
  | ret hv => exact .ret (hf _ _ hv)
  | pan hv => exact .pan (hf _ _ hv)

/-- A call that needs no memory: its answer in every memory. -/
theorem SemCall.anywhere {P : Program} {f : FuncId} {args : List AV} {out : Out} {g : Heap} (hs : SemCall P f args [] out g) (ha : AV.withinL (fun _ => False) args) (h : Heap) :
    SemCall P f args h (out.ren fun b => h.length + b) (h ++ g.map (Blk.ren fun b => h.length + b)) := by
  have := hs.frame id h (by simp) (by simp) (by simp) (by simpa using ha) (by simp) (by simp)
  have e1 : AV.renL id args = args := by
    rw [renL_eq]
    have key : ∀ v : AV, v.within (fun _ => False) → v.ren id = v := by
      intro v
      induction v using AV.rec (motive_2 := fun l => AV.withinL (fun _ => False) l → AV.renL id l = l) with
      | fn f l1 l2 i1 i2 => intro h; simp only [AV.within] at h; simp only [AV.ren, i1 h.1, i2 h.2]
      | ifc t v i => intro h; simp only [AV.ren, i h]
      | agg l i => intro h; simp only [AV.ren, i h]
      | tup l i => intro h; simp only [AV.ren, i h]
      | ptr b i j => intro h; exact h.elim
      | slc b i j => intro h; exact h.elim
      | yld b => intro h; exact h.elim
      | nil => rfl
      | cons x l ix il => rename_i h; simp only [AV.renL, ix h.1, il h.2]
      | _ => intro _; rfl
    rw [List.map_congr_left (g := id) fun x hx => key x (withinL_iff.1 ha x hx)]
    simp
  have e2 : place 0 id h.length = fun b => h.length + b := by
    funext b
    have : Nat.blt b 0 = false := by cases hc : Nat.blt b 0 with | false => rfl | true => have := Nat.blt_eq.mp hc; omega
    simp [place, this]
  simp only [List.length_nil, e1, e2, after, updF, List.drop_zero] at this
  exact this

end Go.Am
