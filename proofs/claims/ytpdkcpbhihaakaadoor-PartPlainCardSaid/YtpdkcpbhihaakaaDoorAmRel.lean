/- What the abstract values and memory stand for, in a world; what a step keeps. No condition. -/
import Derived.Test.YtpdkcpbhihaakaaDoorAmEval
import Derived.Below
import Derived.Laws.AppendOwn
import Derived.Laws.Entries
namespace Go.Am

structure Place where
  blk : Nat
  sh : Nat
  wd : Nat
  cap : Nat

abbrev Emb := Nat → Option Place

inductive VR (ι : Emb) : AV → Value → Prop
  | any (u : Value) : VR ι .any u
  | undef : VR ι .undef Go.undef
  | bool (b : Bool) : VR ι (.bool b) (.bool b)
  | int (k : IntKind) (n : Int) : VR ι (.int k n) (.int k n)
  | str (s : List UInt8) : VR ι (.str s) (.string ⟨s.toArray⟩)
  | nilptr : VR ι .nilptr (.pointer none)
  | ptr {b i j : Nat} {p : Place} (h : ι b = some p) : VR ι (.ptr b i j) (.pointer (some ⟨p.blk, p.sh + i * p.wd + j, none⟩))
  | gp (g j : Nat) : VR ι (.gp g j) (.pointer (some ⟨g, j, none⟩))
  | nilsl : VR ι .nilsl (.slice none 0 0)
  | slc {b off len off' cap : Nat} {p : Place} (h : ι b = some p) (h1 : len ≤ cap) (h2 : p.sh + off * p.wd + cap * p.wd ≤ p.cap) (h3 : off' = p.sh + off * p.wd ∨ cap = 0) :
      VR ι (.slc b off len) (.slice (some ⟨p.blk, off', none⟩) len cap)
  | fn (f : Fn) {l1 l2 : List AV} {v1 v2 : List Value} (e1 : l1.length = v1.length) (e2 : l2.length = v2.length)
      (h1 : ∀ (i : Nat) (x : AV) (u : Value), l1[i]? = some x → v1[i]? = some u → VR ι x u) (h2 : ∀ (i : Nat) (x : AV) (u : Value), l2[i]? = some x → v2[i]? = some u → VR ι x u) :
      VR ι (.fn f l1 l2) (.func f ⟨v1⟩ ⟨v2⟩)
  | nilfn : VR ι .nilfn .nilFunc
  | ifc (t : TypeId) {v : AV} {u : Value} (h : VR ι v u) : VR ι (.ifc t v) (.iface t u)
  | nilifc : VR ι .nilifc .nilIface
  | agg {l : List AV} {vs : List Value} (e : l.length = vs.length) (h : ∀ (i : Nat) (x : AV) (u : Value), l[i]? = some x → vs[i]? = some u → VR ι x u) : VR ι (.agg l) (.agg ⟨vs⟩)
  | tup {l : List AV} {vs : List Value} (e : l.length = vs.length) (h : ∀ (i : Nat) (x : AV) (u : Value), l[i]? = some x → vs[i]? = some u → VR ι x u) : VR ι (.tup l) (.tuple ⟨vs⟩)
  | yld {b : Nat} {p : Place} (h : ι b = some p) : VR ι (.yld b) (.func (.yield p.blk) #[] #[])

theorem VR.slc_inv {ι : Emb} {b o n : Nat} {u : Value} (h : VR ι (.slc b o n) u) : ∃ p off' cap, ι b = some p ∧ n ≤ cap ∧ p.sh + o * p.wd + cap * p.wd ≤ p.cap ∧ (off' = p.sh + o * p.wd ∨ cap = 0) ∧ u = .slice (some ⟨p.blk, off', none⟩) n cap := by
  cases h with
  | slc h h1 h2 h3 => exact ⟨_, _, _, h, h1, h2, h3, rfl⟩

theorem VR.ptr_inv {ι : Emb} {b i j : Nat} {u : Value} (h : VR ι (.ptr b i j) u) : ∃ p, ι b = some p ∧ u = .pointer (some ⟨p.blk, p.sh + i * p.wd + j, none⟩) := by
  cases h with
  | ptr h => exact ⟨_, h, rfl⟩

theorem VR.yld_inv {ι : Emb} {b : Nat} {u : Value} (h : VR ι (.yld b) u) : ∃ p, ι b = some p ∧ u = .func (.yield p.blk) #[] #[] := by
  cases h with
  | yld h => exact ⟨_, h, rfl⟩

def VRs (ι : Emb) (l : List AV) (vs : List Value) : Prop := l.length = vs.length ∧ ∀ (i : Nat) (x : AV) (u : Value), l[i]? = some x → vs[i]? = some u → VR ι x u

def Emb.le (ι ι' : Emb) : Prop := ∀ b p, ι b = some p → ι' b = some p

theorem VR.mono {ι ι' : Emb} (hi : Emb.le ι ι') {x : AV} {u : Value} (h : VR ι x u) : VR ι' x u := by
  induction h with
  | any u => exact .any u
  | undef => exact .undef
  | bool b => exact .bool b
  | int k n => exact .int k n
  | str s => exact .str s
  | nilptr => exact .nilptr
  | ptr h => exact .ptr (hi _ _ h)
  | gp g j => exact .gp g j
  | nilsl => exact .nilsl
  | slc h h1 h2 h3 => exact .slc (hi _ _ h) h1 h2 h3
  | fn f e1 e2 _ _ i1 i2 => exact .fn f e1 e2 i1 i2
  | nilfn => exact .nilfn
  | ifc t _ i => exact .ifc t i
  | nilifc => exact .nilifc
  | agg e _ i => exact .agg e i
  | tup e _ i => exact .tup e i
  | yld h => exact .yld (hi _ _ h)

theorem VRs.mono {ι ι' : Emb} (hi : Emb.le ι ι') {l : List AV} {vs : List Value} (h : VRs ι l vs) : VRs ι' l vs := ⟨h.1, fun i x u a b => (h.2 i x u a b).mono hi⟩

theorem VRs.nil {ι : Emb} : VRs ι [] [] := ⟨rfl, fun i x u h => by simp at h⟩
theorem VRs.cons {ι : Emb} {x : AV} {u : Value} {l : List AV} {vs : List Value} (h : VR ι x u) (hs : VRs ι l vs) : VRs ι (x :: l) (u :: vs) := by
  refine ⟨by simp [hs.1], fun i y v h1 h2 => ?_⟩
  cases i with
  | zero => simp at h1 h2; subst h1; subst h2; exact h
  | succ i => exact hs.2 i y v (by simpa using h1) (by simpa using h2)
theorem VRs.cons_inv {ι : Emb} {x : AV} {l : List AV} {vs : List Value} (h : VRs ι (x :: l) vs) : ∃ u us, vs = u :: us ∧ VR ι x u ∧ VRs ι l us := by
  cases vs with
  | nil => have := h.1; simp at this
  | cons u us =>
    refine ⟨u, us, rfl, h.2 0 x u (by simp) (by simp), by have := h.1; simpa using this, fun i y v h1 h2 => h.2 (i + 1) y v (by simpa using h1) (by simpa using h2)⟩
theorem VRs.nil_inv {ι : Emb} {vs : List Value} (h : VRs ι [] vs) : vs = [] := by
  have := h.1
  exact List.eq_nil_of_length_eq_zero (by simpa using this.symm)
theorem VRs.append {ι : Emb} {l m : List AV} {vs us : List Value} (h : VRs ι l vs) (k : VRs ι m us) : VRs ι (l ++ m) (vs ++ us) := by
  induction l generalizing vs with
  | nil => rw [h.nil_inv]; exact k
  | cons x l ih => obtain ⟨u, us', rfl, hx, hl⟩ := h.cons_inv; exact .cons hx (ih hl)
theorem VRs.map {ι : Emb} {α : Type} (l : List α) (f : α → AV) (g : α → Value) (h : ∀ x ∈ l, VR ι (f x) (g x)) : VRs ι (l.map f) (l.map g) := by
  induction l with
  | nil => exact .nil
  | cons x l ih => exact .cons (h x (by simp)) (ih fun y hy => h y (by simp [hy]))
theorem VRs.take {ι : Emb} {l : List AV} {vs : List Value} (h : VRs ι l vs) (n : Nat) : VRs ι (l.take n) (vs.take n) := by
  induction l generalizing vs n with
  | nil => rw [h.nil_inv]; simp; exact .nil
  | cons x l ih =>
    obtain ⟨u, us, rfl, hx, hl⟩ := h.cons_inv
    cases n with
    | zero => exact .nil
    | succ n => exact .cons hx (ih hl n)
theorem VRs.drop {ι : Emb} {l : List AV} {vs : List Value} (h : VRs ι l vs) (n : Nat) : VRs ι (l.drop n) (vs.drop n) := by
  induction l generalizing vs n with
  | nil => rw [h.nil_inv]; simp; exact .nil
  | cons x l ih =>
    obtain ⟨u, us, rfl, hx, hl⟩ := h.cons_inv
    cases n with
    | zero => exact .cons hx hl
    | succ n => exact ih hl n
theorem VRs.get {ι : Emb} {l : List AV} {vs : List Value} (h : VRs ι l vs) {i : Nat} {x : AV} (hx : l[i]? = some x) : ∃ u, vs[i]? = some u ∧ VR ι x u := by
  have hi : i < l.length := (List.getElem?_eq_some_iff.1 hx).1
  have hi' : i < vs.length := h.1 ▸ hi
  exact ⟨vs[i], by simp [hi'], h.2 i x _ hx (by simp [hi'])⟩
theorem VRs.set {ι : Emb} {l : List AV} {vs : List Value} (h : VRs ι l vs) (d : Nat) {x : AV} {u : Value} (hx : VR ι x u) : VRs ι (l.set d x) (vs.set d u) := by
  refine ⟨by simp [h.1], fun i y v h1 h2 => ?_⟩
  rw [List.getElem?_set] at h1 h2
  by_cases hd : d = i
  · subst hd
    rw [if_pos rfl] at h1 h2
    by_cases hl : d < l.length
    · rw [if_pos hl] at h1; rw [if_pos (h.1 ▸ hl)] at h2; cases h1; cases h2; exact hx
    · rw [if_neg hl] at h1; cases h1
  · rw [if_neg hd] at h1 h2; exact h.2 i y v h1 h2

def Col.len : Col → Nat
  | .avs l => l.length
  | .ints _ l => l.length
  | .bools l => l.length
  | .strs l => l.length
  | .slcs l => l.length

/-- May it be written (true); is it there (false)? -/
def Blk.has : Bool → Blk → Bool
  | true, .mem _ _ _ rw => rw
  | false, .mem _ _ _ _ => true
  | _, .loop _ _ _ _ _ _ _ => true
  | _, .dead => false

/-- What memory stands for. -/
structure Rep0 (ι : Emb) (h : Heap) (w : World) : Prop where
  dom : ∀ b p, ι b = some p → b < h.length
  mem : ∀ b ty n cols rw, h[b]? = some (.mem ty n cols rw) → ∃ p C fr, ι b = some p ∧ w.heap[p.blk]? = some (.cells C ty fr) ∧ C.size = p.cap ∧ p.wd = cols.length ∧ p.sh + n * p.wd ≤ p.cap ∧
    (∀ i j c, i < n → cols[j]? = some c → ∃ u, C[p.sh + i * p.wd + j]? = some u ∧ u.oneCell' = true ∧ VR ι (c.at i) u) ∧ (rw = true → fr = (0, 0) ∧ p.sh = 0) ∧ (∀ c ∈ cols, c.len = n)
  lp : ∀ b st pe kp τ ps asg body, h[b]? = some (.loop st pe kp τ ps asg body) → ∃ p r, ι b = some p ∧ w.heap[p.blk]? = some (.loop r) ∧ r.state = st ∧ r.pending = pe ∧ r.params.toList = ps ∧ r.assign = asg ∧ r.body = body ∧ VRs ι τ r.tmps.toList
  sep : ∀ a b p q x y, a ≠ b → h[a]? = some x → x.has true = true → h[b]? = some y → y.has false = true → ι a = some p → ι b = some q → p.blk ≠ q.blk

/-- What a step keeps: all that is not memory to be written. -/
structure Ext (ι : Emb) (h : Heap) (w : World) (ι' : Emb) (h' : Heap) (w' : World) : Prop where
  emb : Emb.le ι ι'
  os : w'.os = w.os
  tape : w'.tape = w.tape
  output : w'.output = w.output
  size : w.heap.size ≤ w'.heap.size
  keep : ∀ k, k < w.heap.size → (∀ b p x, h[b]? = some x → x.has true = true → ι b = some p → p.blk ≠ k) → w'.heap[k]? = w.heap[k]?
  org : ∀ q b p x, h'[b]? = some x → x.has q = true → ι' b = some p → w.heap.size ≤ p.blk ∨ ∃ b0 p0 x0, h[b0]? = some x0 ∧ x0.has q = true ∧ ι b0 = some p0 ∧ p0.blk = p.blk
  len : h.length ≤ h'.length
  stay : ∀ b, b < h.length → ι' b = ι b

theorem Ext.refl (ι : Emb) (h : Heap) (w : World) : Ext ι h w ι h w :=
  ⟨fun _ _ h => h, rfl, rfl, rfl, Nat.le_refl _, fun _ _ _ => rfl, fun _ b p x h1 h2 h3 => .inr ⟨b, p, x, h1, h2, h3, rfl⟩, Nat.le_refl _, fun _ _ => rfl⟩

theorem Ext.trans {ι ι' ι'' : Emb} {h h' h'' : Heap} {w w' w'' : World} (a : Ext ι h w ι' h' w') (b : Ext ι' h' w' ι'' h'' w'') : Ext ι h w ι'' h'' w'' where
  emb := fun x p hx => b.emb x p (a.emb x p hx)
  os := b.os.trans a.os
  tape := b.tape.trans a.tape
  output := b.output.trans a.output
  size := Nat.le_trans a.size b.size
  keep := fun k hk hn => (b.keep k (Nat.lt_of_lt_of_le hk a.size) (fun y p x h1 h0 h2 => by
    rcases a.org true y p x h1 h0 h2 with hge | ⟨b0, p0, x0, g1, g0, g2, g3⟩
    · exact fun e => by omega
    · rw [← g3]; exact hn b0 p0 x0 g1 g0 g2)).trans (a.keep k hk hn)
  org := fun q y p x h1 h0 h2 => by
    rcases b.org q y p x h1 h0 h2 with hge | ⟨b0, p0, x0, g1, g0, g2, g3⟩
    · exact .inl (Nat.le_trans a.size hge)
    · rcases a.org q b0 p0 x0 g1 g0 g2 with hge | ⟨b1, p1, x1, f1, f0, f2, f3⟩
      · exact .inl (g3 ▸ hge)
      · exact .inr ⟨b1, p1, x1, f1, f0, f2, f3.trans g3⟩
  len := Nat.le_trans a.len b.len
  stay := fun x hx => (b.stay x (Nat.lt_of_lt_of_le hx a.len)).trans (a.stay x hx)

/-- The package's tables lie as they lay, and no block that may be written is one of them. -/
def GL (ι : Emb) (h : Heap) (w : World) : Prop :=
  ∀ g l, (g, l) ∈ gvT → (∃ ty fr, w.heap[g]? = some (.cells l.toArray ty fr)) ∧ ∀ b p x, h[b]? = some x → x.has true = true → ι b = some p → p.blk ≠ g

structure Rep (ι : Emb) (h : Heap) (w : World) : Prop extends Rep0 ι h w where
  gl : GL ι h w

theorem Ext.gl {ι ι' : Emb} {h h' : Heap} {w w' : World} (E : Ext ι h w ι' h' w') (G : GL ι h w) : GL ι' h' w' := by
  intro g l hg
  obtain ⟨⟨ty, fr, h1⟩, h2⟩ := G g l hg
  have hlt := (Array.getElem?_eq_some_iff.1 h1).1
  refine ⟨⟨ty, fr, (E.keep g hlt h2).trans h1⟩, fun b p x hb hx hp => ?_⟩
  rcases E.org true b p x hb hx hp with hge | ⟨b0, p0, x0, g1, g0, g2, g3⟩
  · omega
  · rw [← g3]; exact h2 b0 p0 x0 g1 g0 g2

theorem Rep.both {ι ι' : Emb} {h h' : Heap} {w w' : World} (r : Rep ι h w) (x : Rep0 ι' h' w' ∧ Ext ι h w ι' h' w') : Rep ι' h' w' ∧ Ext ι h w ι' h' w' := ⟨⟨x.1, x.2.gl r.gl⟩, x.2⟩

theorem Rep.drew {ι : Emb} {h : Heap} {w : World} (r : Rep ι h w) : Rep ι h w.drew := ⟨⟨r.dom, r.mem, r.lp, r.sep⟩, r.gl⟩
theorem Ext.drew {ι : Emb} {h : Heap} {w : World} : Ext ι h w ι h w.drew :=
  ⟨fun _ _ h => h, rfl, rfl, rfl, Nat.le_refl _, fun _ _ _ => rfl, fun _ b p x h1 h2 h3 => .inr ⟨b, p, x, h1, h2, h3, rfl⟩, Nat.le_refl _, fun _ _ => rfl⟩

def embAdd (ι : Emb) (b : Nat) (p : Place) : Emb := fun x => if x = b then some p else ι x

theorem embAdd_le {ι : Emb} {h : Heap} {w : World} (r : Rep ι h w) (p : Place) : Emb.le ι (embAdd ι h.length p) := by
  intro b q hb
  have := r.dom b q hb
  unfold embAdd
  rw [if_neg (by omega)]
  exact hb

theorem Rep.there {ι : Emb} {h : Heap} {w : World} (r : Rep ι h w) {b : Nat} {x : Blk} {q : Bool} (hb : h[b]? = some x) (hx : x.has q = true) : ∃ p, ι b = some p ∧ p.blk < w.heap.size ∧ (∀ ds, w.heap[p.blk]? ≠ some (.deferred ds)) := by
  cases x with
  | mem ty n cols rw =>
    obtain ⟨p, C, fr, h1, h2, _⟩ := r.mem b ty n cols rw hb
    exact ⟨p, h1, (Array.getElem?_eq_some_iff.1 h2).1, fun ds e => by rw [h2] at e; cases e⟩
  | dead => cases q <;> cases hx
  | loop st pe kp τ ps asg body =>
    obtain ⟨p, y, h1, h2, _⟩ := r.lp b st pe kp τ ps asg body hb
    exact ⟨p, h1, (Array.getElem?_eq_some_iff.1 h2).1, fun ds e => by rw [h2] at e; cases e⟩

theorem Rep.has_lt {ι : Emb} {h : Heap} {w : World} (r : Rep ι h w) {b : Nat} {x : Blk} {q : Bool} {p : Place} (hb : h[b]? = some x) (hx : x.has q = true) (hp : ι b = some p) : p.blk < w.heap.size := by
  obtain ⟨p', h1, h2, _⟩ := r.there hb hx
  rw [hp] at h1; cases h1; exact h2

theorem Rep.blk_lt {ι : Emb} {h : Heap} {w : World} (r : Rep ι h w) {b : Nat} {ty : TypeId} {n : Nat} {cols : List Col} {rw : Bool} {p : Place} (hb : h[b]? = some (.mem ty n cols rw)) (hp : ι b = some p) : p.blk < w.heap.size :=
  r.has_lt (q := false) hb rfl hp

theorem Blk.has_live {x : Blk} {q : Bool} (h : x.has q = true) : x.has false = true := by
  cases x <;> cases q <;> first | rfl | exact h

theorem get_snoc {α : Type} {l : List α} {x y : α} {i : Nat} (h : (l ++ [x])[i]? = some y) : l[i]? = some y ∨ (i = l.length ∧ y = x) := by
  rw [List.getElem?_append] at h
  split at h
  · exact .inl h
  · rename_i hn
    have : i - l.length = 0 := by
      rcases Nat.eq_zero_or_pos (i - l.length) with e | e
      · exact e
      · rw [List.getElem?_eq_none (by simp; omega)] at h; cases h
    rw [this] at h
    simp at h
    exact .inr ⟨by omega, h.symm⟩

theorem get_snoc_lt {α : Type} {l : List α} {x : α} {i : Nat} (hi : i < l.length) : (l ++ [x])[i]? = l[i]? := List.getElem?_append_left hi

/-- A new block behind the others. -/
theorem Rep.push {ι : Emb} {h : Heap} {w : World} (r : Rep ι h w) (x : Blk) (o : Obj) (p : Place) (hp : p.blk = w.heap.size)
    (hm : ∀ ty n cols rw, x = .mem ty n cols rw → ∃ C fr, o = .cells C ty fr ∧ C.size = p.cap ∧ p.wd = cols.length ∧ p.sh + n * p.wd ≤ p.cap ∧
      (∀ i j c, i < n → cols[j]? = some c → ∃ u, C[p.sh + i * p.wd + j]? = some u ∧ u.oneCell' = true ∧ VR ι (c.at i) u) ∧ (rw = true → fr = (0, 0) ∧ p.sh = 0) ∧ (∀ c ∈ cols, c.len = n))
    (hl : ∀ st pe kp τ ps asg body, x = .loop st pe kp τ ps asg body → ∃ y, o = .loop y ∧ y.state = st ∧ y.pending = pe ∧ y.params.toList = ps ∧ y.assign = asg ∧ y.body = body ∧ VRs ι τ y.tmps.toList) :
    Rep (embAdd ι h.length p) (h ++ [x]) (w.alloc o) ∧ Ext ι h w (embAdd ι h.length p) (h ++ [x]) (w.alloc o) := by
  have hle := embAdd_le r p
  have hold : ∀ k, k < w.heap.size → (w.alloc o).heap[k]? = w.heap[k]? := fun k hk => heap_alloc_old w _ k hk
  have hnew : (w.alloc o).heap[p.blk]? = some o := by rw [hp]; exact heap_alloc_new w _
  have old : ∀ b y s, h[b]? = some y → embAdd ι h.length p b = some s → ι b = some s := by
    intro b y s hx hs
    have hlt : b < h.length := (List.getElem?_eq_some_iff.1 hx).1
    unfold embAdd at hs; rw [if_neg (by omega)] at hs; exact hs
  have new : ∀ s, embAdd ι h.length p h.length = some s → s = p := by
    intro s hs; unfold embAdd at hs; rw [if_pos rfl] at hs; cases hs; rfl
  refine r.both ⟨⟨?_, ?_, ?_, ?_⟩, ⟨hle, rfl, rfl, rfl, by simp, fun k hk _ => hold k hk, ?_, by simp, fun b hb => by unfold embAdd; rw [if_neg (by omega)]⟩⟩
  · intro b s hb
    unfold embAdd at hb
    split at hb
    · simp; omega
    · have := r.dom b s hb; simp; omega
  · intro b ty' n' cols' rw' hb
    rcases get_snoc hb with hb | ⟨rfl, he⟩
    · obtain ⟨s, C', fr, h1, h2, h3, h4, h5, h6, h7⟩ := r.mem b ty' n' cols' rw' hb
      refine ⟨s, C', fr, hle _ _ h1, ?_, h3, h4, h5, fun i j c hi hj => ?_, h7⟩
      · rw [hold _ (r.blk_lt hb h1)]; exact h2
      · obtain ⟨u, g1, g2, g3⟩ := h6 i j c hi hj
        exact ⟨u, g1, g2, g3.mono hle⟩
    · obtain ⟨C, fr, g1, g2, g3, g4, g5, g6⟩ := hm _ _ _ _ he.symm
      refine ⟨p, C, fr, by simp [embAdd], by rw [hnew, g1], g2, g3, g4, fun i j c hi hj => ?_, g6⟩
      obtain ⟨u, f1, f2, f3⟩ := g5 i j c hi hj
      exact ⟨u, f1, f2, f3.mono hle⟩
  · intro b st pe kp τ ps asg body hb
    rcases get_snoc hb with hb | ⟨rfl, he⟩
    · obtain ⟨s, y, h1, h2, h3, h4, h5, h6, h7, h8⟩ := r.lp b _ _ _ _ _ _ _ hb
      exact ⟨s, y, hle _ _ h1, by rw [hold _ (Array.getElem?_eq_some_iff.1 h2).1]; exact h2, h3, h4, h5, h6, h7, h8.mono hle⟩
    · obtain ⟨y, g1, g2, g3, g4, g5, g6, g7⟩ := hl _ _ _ _ _ _ _ he.symm
      exact ⟨p, y, by simp [embAdd], by rw [hnew, g1], g2, g3, g4, g5, g6, g7.mono hle⟩
  · intro a b s t y z hab ha hya hb hzb hs ht
    rcases get_snoc ha with ha | ⟨rfl, ha⟩ <;> rcases get_snoc hb with hb | ⟨rfl, hb⟩
    · exact r.sep a b s t y z hab ha hya hb hzb (old _ _ _ ha hs) (old _ _ _ hb ht)
    · have h1 := r.has_lt ha hya (old _ _ _ ha hs); have h2 := new _ ht; subst h2; omega
    · have h1 := r.has_lt hb hzb (old _ _ _ hb ht); have h2 := new _ hs; subst h2; omega
    · exact absurd rfl hab
  · intro q b s y hb hy hs
    rcases get_snoc hb with hb | ⟨rfl, hb⟩
    · exact .inr ⟨b, s, y, hb, hy, old _ _ _ hb hs, rfl⟩
    · have := new _ hs; subst this; exact .inl (by omega)

/-- A new block that stands for a new row of cells. -/
theorem Rep.new {ι : Emb} {h : Heap} {w : World} (r : Rep ι h w) (ty : TypeId) (n : Nat) (cols : List Col) (C : Array Value) (hn : n * cols.length ≤ C.size) (hlen : ∀ c ∈ cols, c.len = n)
    (hc : ∀ i j c, i < n → cols[j]? = some c → ∃ u, C[i * cols.length + j]? = some u ∧ u.oneCell' = true ∧ VR ι (c.at i) u) :
    Rep (embAdd ι h.length ⟨w.heap.size, 0, cols.length, C.size⟩) (h ++ [.mem ty n cols true]) (w.alloc (.cells C ty)) ∧
    Ext ι h w (embAdd ι h.length ⟨w.heap.size, 0, cols.length, C.size⟩) (h ++ [.mem ty n cols true]) (w.alloc (.cells C ty)) := by
  refine r.push _ _ _ rfl ?_ (fun st pe kp τ ps asg body e => by cases e)
  intro ty' n' cols' rw' he
  cases he
  exact ⟨C, (0, 0), rfl, rfl, rfl, by simpa using hn, fun i j c hi hj => by obtain ⟨u, g1, g2, g3⟩ := hc i j c hi hj; exact ⟨u, by simpa using g1, g2, g3⟩, fun _ => ⟨rfl, rfl⟩, hlen⟩

theorem Rep.new_emb (ι : Emb) (h : Heap) (p : Place) : embAdd ι h.length p h.length = some p := by simp [embAdd]

/-- Blocks that are given up. -/
theorem Rep.forget {ι : Emb} {h : Heap} {w : World} (r : Rep ι h w) (b : Nat) : Rep ι (h.set b .dead) w ∧ Ext ι h w ι (h.set b .dead) w := by
  have key : ∀ (q : Bool) (x : Nat) (y : Blk), (h.set b .dead)[x]? = some y → y.has q = true → h[x]? = some y := by
    intro q x y hx hy
    rw [List.getElem?_set] at hx
    split at hx
    · split at hx
      · cases hx; cases q <;> cases hy
      · cases hx
    · exact hx
  refine r.both ⟨⟨fun x p hx => by have := r.dom x p hx; simpa using this, fun x t n c rr hx => r.mem x t n c rr (key false _ _ hx rfl), fun x st pe kp τ ps asg body hx => r.lp x _ _ _ _ _ _ _ (key false _ _ hx rfl),
    fun x y p q u v hxy hx hu hy hv => r.sep x y p q u v hxy (key _ _ _ hx hu) hu (key _ _ _ hy hv) hv⟩,
    ⟨fun _ _ h => h, rfl, rfl, rfl, Nat.le_refl _, fun _ _ _ => rfl, fun q x p y hx hy hp => .inr ⟨x, p, y, key _ _ _ hx hy, hy, hp, rfl⟩, by simp, fun _ _ => rfl⟩⟩

end Go.Am
