/- Memory without the blocks that nothing leads to, numbered anew, stands for the same. No condition. -/
import Derived.Test.YtpdkcpbhihaakaaDoorAmRel
namespace Go.Am

theorem AV.rnL_eq (ρ : Nat → Option Nat) (l : List AV) : AV.rnL ρ l = l.map (AV.rn ρ) := by
  induction l with
  | nil => rfl
  | cons x l ih => simp [AV.rnL, ih]

theorem VR.rn {ι ι' : Emb} {ρ : Nat → Option Nat} (hc : ∀ b b' p, ρ b = some b' → ι b = some p → ι' b' = some p) {v : AV} {u : Value} (h : VR ι v u) : VR ι' (v.rn ρ) u := by
  have lists : ∀ {l : List AV} {vs : List Value}, l.length = vs.length → (∀ (i : Nat) (x : AV) (u : Value), l[i]? = some x → vs[i]? = some u → VR ι' (x.rn ρ) u) →
      (AV.rnL ρ l).length = vs.length ∧ ∀ (i : Nat) (x : AV) (u : Value), (AV.rnL ρ l)[i]? = some x → vs[i]? = some u → VR ι' x u := by
    intro l vs e ih
    rw [AV.rnL_eq]
    refine ⟨by simpa using e, fun i x u h1 h2 => ?_⟩
    rw [List.getElem?_map] at h1
    cases hl : l[i]? with
    | none => simp [hl] at h1
    | some y => simp [hl] at h1; subst h1; exact ih i y u hl h2
  induction h with
  | any u => exact .any u
  | undef => exact .undef
  | bool b => exact .bool b
  | int k n => exact .int k n
  | str s => exact .str s
  | nilptr => exact .nilptr
  | @ptr b i j p h =>
    simp only [AV.rn]
    cases hr : ρ b with
    | none => exact .any _
    | some b' => exact .ptr (hc _ _ _ hr h)
  | gp g j => exact .gp g j
  | nilsl => exact .nilsl
  | @slc b off len off' cap p h h1 h2 h3 =>
    simp only [AV.rn]
    cases hr : ρ b with
    | none => exact .any _
    | some b' => exact .slc (hc _ _ _ hr h) h1 h2 h3
  | fn f e1 e2 _ _ i1 i2 =>
    have a := lists e1 i1
    have b := lists e2 i2
    exact .fn f a.1 b.1 a.2 b.2
  | nilfn => exact .nilfn
  | ifc t _ i => exact .ifc t i
  | nilifc => exact .nilifc
  | agg e _ i => have a := lists e i; exact .agg a.1 a.2
  | tup e _ i => have a := lists e i; exact .tup a.1 a.2
  | @yld b p h =>
    simp only [AV.rn]
    cases hr : ρ b with
    | none => exact .any _
    | some b' => exact .yld (hc _ _ _ hr h)

theorem VRs.rnL {ι ι' : Emb} {ρ : Nat → Option Nat} (hc : ∀ b b' p, ρ b = some b' → ι b = some p → ι' b' = some p) {l : List AV} {vs : List Value} (h : VRs ι l vs) : VRs ι' (AV.rnL ρ l) vs := by
  rw [AV.rnL_eq]
  refine ⟨by simpa using h.1, fun i x u h1 h2 => ?_⟩
  rw [List.getElem?_map] at h1
  cases hl : l[i]? with
  | none => simp [hl] at h1
  | some y => simp [hl] at h1; subst h1; exact (h.2 i y u hl h2).rn hc

theorem slRn_get {ρ : Nat → Option Nat} : ∀ {l l' : List (Option (Nat × Nat × Nat))}, slRn ρ l = some l' → l'.length = l.length ∧ ∀ i, i < l.length →
    (l.getD i none = none ∧ l'.getD i none = none) ∨ ∃ b b' o n, l.getD i none = some (b, o, n) ∧ l'.getD i none = some (b', o, n) ∧ ρ b = some b' := by
  intro l
  induction l with
  | nil => intro l' h; simp [slRn] at h; subst h; simp
  | cons x l ih =>
    intro l' h
    cases x with
    | none =>
      simp only [slRn] at h
      split at h
      · rename_i l1 h1
        cases h
        obtain ⟨e, g⟩ := ih h1
        refine ⟨by simp [e], fun i hi => ?_⟩
        cases i with
        | zero => exact .inl ⟨rfl, rfl⟩
        | succ i => simpa using g i (by simpa using hi)
      · cases h
    | some t =>
      obtain ⟨b, o, n⟩ := t
      simp only [slRn] at h
      split at h
      · rename_i b' l1 hb h1
        cases h
        obtain ⟨e, g⟩ := ih h1
        refine ⟨by simp [e], fun i hi => ?_⟩
        cases i with
        | zero => exact .inr ⟨b, b', o, n, rfl, rfl, hb⟩
        | succ i => simpa using g i (by simpa using hi)
      · cases h

theorem Col.rn_len {ρ : Nat → Option Nat} {c c' : Col} (h : c.rn ρ = some c') : c'.len = c.len := by
  cases c with
  | avs l => simp only [Col.rn] at h; cases h; simp [Col.len, AV.rnL_eq]
  | slcs l =>
    simp only [Col.rn] at h
    split at h
    · rename_i l' hl; cases h; exact (slRn_get hl).1
    · cases h
  | ints k l => cases h; rfl
  | bools l => cases h; rfl
  | strs l => cases h; rfl

theorem Col.rn_at {ι ι' : Emb} {ρ : Nat → Option Nat} (hc : ∀ b b' p, ρ b = some b' → ι b = some p → ι' b' = some p) {c c' : Col} (h : c.rn ρ = some c') {i : Nat} (hi : i < c.len) {u : Value} (hv : VR ι (c.at i) u) : VR ι' (c'.at i) u := by
  cases c with
  | avs l =>
    simp only [Col.rn] at h; cases h
    simp only [Col.len] at hi
    simp only [Col.at, AV.rnL_eq, List.getD_eq_getElem?_getD, List.getElem?_map, List.getElem?_eq_getElem hi, Option.map_some, Option.getD_some] at hv ⊢
    exact hv.rn hc
  | slcs l =>
    simp only [Col.rn] at h
    split at h
    · rename_i l' hl
      cases h
      simp only [Col.len] at hi
      rcases (slRn_get hl).2 i hi with ⟨h1, h2⟩ | ⟨b, b', o, n, h1, h2, h3⟩
      · simp only [Col.at, h1, h2, slAV] at hv ⊢; cases hv; exact .nilsl
      · simp only [Col.at, h1, h2, slAV] at hv ⊢
        have := hv.rn hc
        simpa only [AV.rn, h3] using this
    · cases h
  | ints k l => cases h; simp only [Col.at] at hv ⊢; cases hv; exact .int _ _
  | bools l => cases h; simp only [Col.at] at hv ⊢; cases hv; exact .bool _
  | strs l => cases h; simp only [Col.at] at hv ⊢; cases hv; exact .str _

theorem colsRn_get {ρ : Nat → Option Nat} : ∀ {cs cs' : List Col}, colsRn ρ cs = some cs' → cs'.length = cs.length ∧ ∀ (j : Nat) (c' : Col), cs'[j]? = some c' → ∃ c : Col, cs[j]? = some c ∧ c.rn ρ = some c' := by
  intro cs
  induction cs with
  | nil => intro cs' h; simp [colsRn] at h; subst h; simp
  | cons c cs ih =>
    intro cs' h
    simp only [colsRn] at h
    split at h
    · rename_i c1 cs1 h1 h2
      cases h
      obtain ⟨e, g⟩ := ih h2
      refine ⟨by simp [e], fun j c' hj => ?_⟩
      cases j with
      | zero => simp at hj; subst hj; exact ⟨c, rfl, h1⟩
      | succ j => simpa using g j c' (by simpa using hj)
    · cases h

theorem blksRn_get {ρ : Nat → Option Nat} : ∀ {bs bs' : List Blk}, blksRn ρ bs = some bs' → bs'.length = bs.length ∧ ∀ (j : Nat) (b' : Blk), bs'[j]? = some b' → ∃ b : Blk, bs[j]? = some b ∧ b.rn ρ = some b' := by
  intro bs
  induction bs with
  | nil => intro bs' h; simp [blksRn] at h; subst h; simp
  | cons c cs ih =>
    intro cs' h
    simp only [blksRn] at h
    split at h
    · rename_i c1 cs1 h1 h2
      cases h
      obtain ⟨e, g⟩ := ih h2
      refine ⟨by simp [e], fun j c' hj => ?_⟩
      cases j with
      | zero => simp at hj; subst hj; exact ⟨c, rfl, h1⟩
      | succ j => simpa using g j c' (by simpa using hj)
    · cases h

theorem Blk.rn_has {ρ : Nat → Option Nat} {x x' : Blk} (h : x.rn ρ = some x') (q : Bool) : x'.has q = x.has q := by
  cases x with
  | mem t n cols rw =>
    simp only [Blk.rn] at h
    split at h
    · cases h; cases q <;> rfl
    · cases h
  | dead => cases h; rfl
  | loop st pe kp τ ps asg body => cases h; cases q <;> rfl

theorem idxIn_get {b : Nat} : ∀ {l : List Nat} {i j : Nat}, idxIn b i l = some j → i ≤ j ∧ l[j - i]? = some b := by
  intro l
  induction l with
  | nil => intro i j h; cases h
  | cons x l ih =>
    intro i j h
    simp only [idxIn] at h
    cases hx : Nat.beq b x with
    | true =>
      rw [hx, cond_true] at h
      cases h
      have := Nat.eq_of_beq_eq_true hx
      subst this
      simp
    | false =>
      rw [hx, cond_false] at h
      obtain ⟨h1, h2⟩ := ih h
      refine ⟨by omega, ?_⟩
      rw [show j - i = (j - (i + 1)) + 1 by omega]
      simpa using h2

theorem nodupB_sound : ∀ {l : List Nat}, nodupB l = true → ∀ (i j x : Nat), l[i]? = some x → l[j]? = some x → i = j := by
  intro l
  induction l with
  | nil => intro _ i j x h; simp at h
  | cons y l ih =>
    intro h i j x hi hj
    simp only [nodupB, Bool.and_eq_true, Bool.not_eq_true'] at h
    have hn : ∀ k : Nat, l[k]? ≠ some y := by
      intro k hk
      have := List.mem_of_getElem? hk
      rw [← List.contains_iff_mem, h.1] at this
      cases this
    cases i with
    | zero =>
      cases j with
      | zero => rfl
      | succ j => simp at hi hj; subst hi; exact absurd hj (hn j)
    | succ i =>
      cases j with
      | zero => simp at hi hj; subst hj; exact absurd hi (hn i)
      | succ j => simp at hi hj; rw [ih h.2 i j x hi hj]

def embPack (base : Nat) (live : List Nat) (ι : Emb) : Emb := fun i => if i < base then ι i else (live[i - base]?).bind ι

theorem pack_sound {base : Nat} {τ v : List AV} {h : Heap} {k : (AV → AV) → List AV → Heap → Fin} {r : Out × Heap} (he : pack base τ v h k = some r) {ι : Emb} {w : World} (hr : Rep ι h w) :
    ∃ (f : AV → AV) (τ' : List AV) (h' : Heap) (ι' : Emb), k f τ' h' = some r ∧ Rep ι' h' w ∧ (∀ vs, VRs ι τ vs → VRs ι' τ' vs) ∧ (∀ x u, VR ι x u → VR ι' (f x) u) ∧ (∀ b, b < base → ι' b = ι b) ∧
      (∀ q b p x, h'[b]? = some x → x.has q = true → ι' b = some p → ∃ b0 x0, h[b0]? = some x0 ∧ x0.has q = true ∧ ι b0 = some p) ∧ (∀ n, n ≤ base → n ≤ h.length → n ≤ h'.length) := by
  unfold pack at he
  cases hb : Nat.ble h.length base with
  | true =>
    rw [hb, cond_true] at he
    exact ⟨id, τ, h, ι, he, hr, fun _ h => h, fun _ _ h => h, fun _ _ => rfl, fun q b p x h1 h2 h3 => ⟨b, x, h1, h2, h3⟩, fun _ _ h => h⟩
  | false =>
    rw [hb, cond_false] at he
    generalize hlv : reachN base h 1000 [] (AV.refsL v ++ AV.refsL τ ++ blksRefs (h.take base)) = live at he
    have hlen : base < h.length := by
      rcases Nat.lt_or_ge base h.length with h1 | h1
      · exact h1
      · rw [Nat.ble_eq.mpr h1] at hb; cases hb
    unfold packed at he
    split at he
    case isFalse => cases he
    rename_i hok
    split at he
    case h_2 => cases he
    rename_i h' hrn
    simp only [liveOK, Bool.and_eq_true] at hok
    obtain ⟨hnd, hin⟩ := hok
    have hin : ∀ b ∈ live, base ≤ b ∧ b < h.length := by
      intro b hbm
      have := List.all_eq_true.1 hin b hbm
      simp only [Bool.and_eq_true, Nat.ble_eq, Nat.blt_eq] at this
      exact this
    obtain ⟨hl', hget⟩ := blksRn_get hrn
    -- what a new number stands for
    have hc : ∀ b b' p, numAnew base live b = some b' → ι b = some p → embPack base live ι b' = some p := by
      intro b b' p hn hp
      unfold numAnew at hn
      unfold embPack
      cases hlt : Nat.blt b base with
      | true =>
        rw [hlt, cond_true] at hn; cases hn
        rw [if_pos (Nat.blt_eq.mp hlt)]; exact hp
      | false =>
        rw [hlt, cond_false] at hn
        obtain ⟨h1, h2⟩ := idxIn_get hn
        rw [if_neg (by omega), h2]; exact hp
    have old : ∀ i x', h'[i]? = some x' → ∃ b x, h[b]? = some x ∧ x.rn (numAnew base live) = some x' ∧ embPack base live ι i = ι b ∧ ((i < base ∧ b = i) ∨ (base ≤ i ∧ live[i - base]? = some b)) := by
      intro i x' hi
      obtain ⟨x, h1, h2⟩ := hget i x' hi
      by_cases hib : i < base
      · rw [List.getElem?_append_left (by simp; omega), List.getElem?_take, if_pos hib] at h1
        exact ⟨i, x, h1, h2, by simp [embPack, hib], .inl ⟨hib, rfl⟩⟩
      · rw [List.getElem?_append_right (by simp; omega)] at h1
        simp only [List.length_take, Nat.min_eq_left (Nat.le_of_lt hlen)] at h1
        rw [List.getElem?_map] at h1
        cases hlb : live[i - base]? with
        | none => simp [hlb] at h1
        | some b =>
          simp only [hlb, Option.map_some, Option.some.injEq] at h1
          have hbl := (hin b (List.mem_of_getElem? hlb)).2
          refine ⟨b, x, ?_, h2, by simp [embPack, hib, hlb], .inr ⟨by omega, rfl⟩⟩
          rw [← h1]
          simp [List.getD, List.getElem?_eq_getElem hbl]
    refine ⟨_, _, _, embPack base live ι, he, ⟨⟨?_, ?_, ?_, ?_⟩, fun g l hg => ⟨(hr.gl g l hg).1, fun i p x hi hx hp => ?_⟩⟩, fun vs hv => hv.rnL hc, fun x u hx => hx.rn hc, fun b hb => by simp [embPack, hb], ?_, fun n hn _ => by rw [hl']; simp; omega⟩
    · intro b p hp
      rw [hl']
      simp only [List.length_append, List.length_take, List.length_map, Nat.min_eq_left (Nat.le_of_lt hlen)]
      unfold embPack at hp
      split at hp
      · omega
      · cases hlb : live[b - base]? with
        | none => simp [hlb] at hp
        | some x => have := (List.getElem?_eq_some_iff.1 hlb).1; omega
    · intro i ty n cols rw hi
      obtain ⟨b, x, h1, h2, h3, _⟩ := old i _ hi
      cases x with
      | dead => cases h2
      | loop st pe kp τ ps asg body => cases h2
      | mem ty0 n0 cols0 rw0 =>
        simp only [Blk.rn] at h2
        split at h2
        · rename_i cs hcs
          cases h2
          obtain ⟨p, C, fr, g1, g2, g3, g4, g5, g6, g7, g8⟩ := hr.mem b _ _ _ _ h1
          obtain ⟨e1, e2⟩ := colsRn_get hcs
          refine ⟨p, C, fr, h3.trans g1, g2, g3, g4.trans e1.symm, g5, fun i j c' hi hj => ?_, g7, fun c' hc' => ?_⟩
          · obtain ⟨c, f1, f2⟩ := e2 j c' hj
            obtain ⟨u, f3, f4, f5⟩ := g6 i j c hi f1
            exact ⟨u, f3, f4, Col.rn_at hc f2 (by rw [g8 c (List.mem_of_getElem? f1)]; exact hi) f5⟩
          · obtain ⟨j, hj⟩ := List.mem_iff_getElem?.1 hc'
            obtain ⟨c, f1, f2⟩ := e2 j c' hj
            rw [Col.rn_len f2]; exact g8 c (List.mem_of_getElem? f1)
        · cases h2
    · intro i st pe kp τ0 ps asg body hi
      obtain ⟨b, x, h1, h2, h3, _⟩ := old i _ hi
      cases x with
      | dead => cases h2
      | mem ty0 n0 cols0 rw0 => simp only [Blk.rn] at h2; split at h2 <;> cases h2
      | loop st0 pe0 kp0 τ00 ps0 asg0 body0 =>
        cases h2
        obtain ⟨p, y, g1, g2, g3, g4, g5, g6, g7, g8⟩ := hr.lp b _ _ _ _ _ _ _ h1
        exact ⟨p, y, h3.trans g1, g2, g3, g4, g5, g6, g7, g8.rnL hc⟩
    · intro i j p q x y hij hi hx hj hy hp hq
      obtain ⟨b, x0, h1, h2, h3, h4⟩ := old i _ hi
      obtain ⟨c, y0, k1, k2, k3, k4⟩ := old j _ hj
      refine hr.sep b c p q x0 y0 ?_ h1 ((Blk.rn_has h2 _).symm.trans hx) k1 ((Blk.rn_has k2 _).symm.trans hy) (h3.symm.trans hp) (k3.symm.trans hq)
      rintro rfl
      rcases h4 with ⟨a1, a2⟩ | ⟨a1, a2⟩ <;> rcases k4 with ⟨b1, b2⟩ | ⟨b1, b2⟩
      · omega
      · have := (hin b (List.mem_of_getElem? b2)).1; omega
      · have := (hin b (List.mem_of_getElem? a2)).1; omega
      · have := nodupB_sound hnd _ _ _ a2 b2; omega
    · obtain ⟨b, x0, h1, h2, h3, _⟩ := old i _ hi
      exact (hr.gl g l hg).2 b p x0 h1 ((Blk.rn_has h2 _).symm.trans hx) (h3.symm.trans hp)
    · intro q i p x hi hx hp
      obtain ⟨b, x0, h1, h2, h3, _⟩ := old i _ hi
      exact ⟨b, x0, h1, (Blk.rn_has h2 q).symm.trans hx, h3.symm.trans hp⟩

end Go.Am
