/- Reading and writing memory, abstractly and in the world. No condition. -/
import Derived.Test.YtpdkcpbhihaakaaDoorAmRel
import Derived.Laws.CopyRow
import Derived.Laws.Cells
namespace Go.Am

theorem shape_run {P : Program} {t : TypeId} {b : Bool} {n : Nat} (h : shapeT P t = some (b, n)) (w : World) : (isAgg t).run P w = .ok b w ∧ (sizeOf t).run P w = .ok n w := by
  unfold shapeT at h
  split at h
  · rename_i d i h1 h2
    cases h
    constructor
    · unfold isAgg; rw [Sem.run_bind, run_underlying h1 w]; cases d <;> rfl
    · simp [sizeOf, typeInfo, h2]
  · cases h

theorem size_run {P : Program} {t : TypeId} {n : Nat} (h : sizeT P t = some n) (w : World) : (sizeOf t).run P w = .ok n w := by
  unfold sizeT at h
  cases hi : P.info? t with
  | none => simp [hi] at h
  | some i => simp [hi] at h; simp [sizeOf, typeInfo, hi, h]

theorem size_info {P : Program} {t : TypeId} {n : Nat} (h : sizeT P t = some n) : ∃ i, P.info? t = some i ∧ i.size = n := by
  unfold sizeT at h
  cases hi : P.info? t with
  | none => simp [hi] at h
  | some i => simp [hi] at h; exact ⟨i, rfl, h⟩

theorem addr_add (g o j : Nat) : (⟨g, o, none⟩ : Addr).add j = ⟨g, o + j, none⟩ := by unfold Addr.add; split <;> simp_all

theorem oneCell_of {ι : Emb} {v : AV} {u : Value} (h1 : v.one = true) (h : VR ι v u) : u.oneCell' = true := by
  cases h <;> first | rfl | (simp [AV.one] at h1)

theorem cells_of {ι : Emb} {v : AV} {u : Value} {l : List AV} (hc : v.cells = some l) (h : VR ι v u) : VRs ι l u.cells.toList ∧ ∀ x ∈ u.cells.toList, x.oneCell' = true := by
  have single : ∀ {v : AV} {u : Value}, v.one = true → VR ι v u → u.cells = #[u] → v.cells = some l → (∀ m, v ≠ .agg m) → VRs ι l u.cells.toList ∧ ∀ x ∈ u.cells.toList, x.oneCell' = true := by
    intro v u h1 hv hu hc hn
    have : l = [v] := by
      cases v <;> simp_all [AV.cells, AV.one]
    subst this
    rw [hu]
    refine ⟨.cons hv .nil, fun x hx => ?_⟩
    simp at hx; subst hx; exact oneCell_of h1 hv
  cases h with
  | any u => simp [AV.cells, AV.one] at hc
  | undef => simp [AV.cells, AV.one] at hc
  | tup e h => simp [AV.cells, AV.one] at hc
  | agg e h =>
    rename_i m vs
    simp only [AV.cells] at hc
    split at hc
    · rename_i hall
      cases hc
      refine ⟨⟨by simpa [Value.cells] using e, fun i x u a b => h i x u a (by simpa [Value.cells] using b)⟩, fun x hx => ?_⟩
      simp only [Value.cells] at hx
      obtain ⟨i, hi, hxi⟩ := List.mem_iff_getElem.1 hx
      have hi' : i < l.length := by rw [e]; exact hi
      have hv := h i l[i] x (by simp [hi']) (by simp [← hxi])
      exact oneCell_of (List.all_eq_true.1 hall _ (List.getElem_mem hi')) hv
    · cases hc
  | bool b => exact single rfl (.bool b) rfl hc (by simp)
  | int k n => exact single rfl (.int k n) rfl hc (by simp)
  | str s => exact single rfl (.str s) rfl hc (by simp)
  | nilptr => exact single rfl .nilptr rfl hc (by simp)
  | ptr h => exact single rfl (.ptr h) rfl hc (by simp)
  | gp g j => exact single rfl (.gp g j) rfl hc (by simp)
  | nilsl => exact single rfl .nilsl rfl hc (by simp)
  | slc h a b c => exact single rfl (.slc h a b c) rfl hc (by simp)
  | fn f a b c d => exact single rfl (.fn f a b c d) rfl hc (by simp)
  | nilfn => exact single rfl .nilfn rfl hc (by simp)
  | yld h => exact single rfl (.yld h) rfl hc (by simp)
  | ifc t h => exact single rfl (.ifc t h) rfl hc (by simp)
  | nilifc => exact single rfl .nilifc rfl hc (by simp)

/-- A row of cells inside one element. -/
theorem row_sound {ι : Emb} {C : Array Value} {p : Place} {n i : Nat} {cols : List Col} (hi : i < n)
    (hc : ∀ i j c, i < n → cols[j]? = some c → ∃ u, C[p.sh + i * p.wd + j]? = some u ∧ u.oneCell' = true ∧ VR ι (c.at i) u) :
    ∀ (s j : Nat), j + s ≤ cols.length → ∃ us : List Value, VRs ι (((cols.drop j).take s).map (Col.at i)) us ∧ us.length = s ∧ ∀ (q : Nat) (u : Value), us[q]? = some u → C[p.sh + i * p.wd + j + q]? = some u := by
  intro s
  induction s with
  | zero => exact fun j _ => ⟨[], by simpa using VRs.nil, rfl, fun q u h => by simp at h⟩
  | succ s ih =>
    intro j hj
    obtain ⟨us, h1, h2, h3⟩ := ih (j + 1) (by omega)
    have hlt : j < cols.length := by omega
    obtain ⟨u, g1, g2, g3⟩ := hc i j cols[j] hi (by simp [hlt])
    refine ⟨u :: us, ?_, by simp [h2], fun q x hx => ?_⟩
    · rw [List.drop_eq_getElem_cons hlt, List.take_succ_cons, List.map_cons]
      exact .cons g3 h1
    · cases q with
      | zero => simp at hx; subst hx; exact g1
      | succ q => have := h3 q x (by simpa using hx); rw [← this]; congr 1; omega

theorem load_sound {P : Program} {ι : Emb} {h : Heap} {w : World} (r : Rep ι h w) {t : TypeId} {b i j : Nat} {v : AV} (hl : h.load P t b i j = some v) {p : Place} (hp : ι b = some p) :
    ∃ u, (loadVar t ⟨p.blk, p.sh + i * p.wd + j, none⟩).run P w = .ok u w ∧ VR ι v u := by
  unfold Heap.load at hl
  split at hl
  · rename_i ty n cols rw hb
    obtain ⟨q, C, fr, h1, h2, h3, h4, h5, h6, _, _⟩ := r.mem b ty n cols rw hb
    rw [hp] at h1; cases h1
    have hcell : ∀ o, w.cell? ⟨p.blk, o, none⟩ = C[o]? := fun o => cell_of_row w p.blk o C ty fr h2
    split at hl
    · rename_i hi
      split at hl
      · rename_i s hs
        split at hl
        · rename_i hjs
          cases hl
          obtain ⟨us, g1, g2, g3⟩ := row_sound hi h6 s j hjs
          refine ⟨.agg us.toArray, ?_, .agg g1.1 g1.2⟩
          obtain ⟨ha, hz⟩ := shape_run hs w
          have hl := run_loadCells_list (P := P) w ⟨p.blk, p.sh + i * p.wd + j, none⟩ us (fun q u hu => by rw [addr_add, hcell]; exact g3 q u hu)
          rw [g2] at hl
          simp [loadVar, Sem.run_bind, ha, hz, hl]
        · cases hl
      · rename_i s hs
        split at hl
        · rename_i c hj
          cases hl
          obtain ⟨u, g1, g2, g3⟩ := h6 i j c hi hj
          refine ⟨u, ?_, g3⟩
          obtain ⟨ha, hz⟩ := shape_run hs w
          simp [loadVar, Sem.run_bind, ha, hcell, g1]
        · cases hl
      · cases hl
    · cases hl
  · cases hl

theorem gvAt_mem {g : Nat} {l : List Value} : ∀ {T : List (Nat × List Value)}, gvAt T g = some l → (g, l) ∈ T := by
  intro T
  induction T with
  | nil => intro h; cases h
  | cons x T ih =>
    obtain ⟨g0, l0⟩ := x
    intro h
    simp only [gvAt] at h
    cases hb : Nat.beq g g0 with
    | true => rw [hb, cond_true] at h; cases h; rw [Nat.eq_of_beq_eq_true hb]; exact List.mem_cons_self
    | false => rw [hb, cond_false] at h; exact List.mem_cons_of_mem _ (ih h)

theorem ofVal1_VR' {ι : Emb} (v : Value) : VR ι (ofVal1 v) v := by
  unfold ofVal1
  split
  · exact .bool _
  · exact .int _ _
  · exact .str _
  · exact .nilptr
  · exact .nilsl
  · exact .fn _ (l1 := []) (l2 := []) (v1 := []) (v2 := []) rfl rfl (fun i x u h => by simp at h) (fun i x u h => by simp at h)
  · exact .nilfn
  · exact .nilifc
  · exact .any _

theorem loadG_sound {P : Program} {ι : Emb} {h : Heap} {w : World} (r : Rep ι h w) {t : TypeId} {g j : Nat} {v : AV} (hl : loadG P t g j = some v) :
    ∃ u, (loadVar t ⟨g, j, none⟩).run P w = .ok u w ∧ VR ι v u := by
  unfold loadG at hl
  split at hl
  case h_2 => cases hl
  rename_i l hg
  obtain ⟨⟨ty, fr, h1⟩, _⟩ := r.gl g l (gvAt_mem hg)
  have hcell : ∀ o, w.cell? ⟨g, o, none⟩ = l.toArray[o]? := fun o => cell_of_row w g o l.toArray ty fr h1
  split at hl
  · rename_i s hs
    split at hl
    · rename_i hjs
      cases hl
      refine ⟨.agg ((l.drop j).take s).toArray, ?_, ?_⟩
      · obtain ⟨ha, hz⟩ := shape_run hs w
        have hl := run_loadCells_list (P := P) w ⟨g, j, none⟩ ((l.drop j).take s) (fun q u hu => by
          rw [addr_add, hcell]
          rw [List.getElem?_take] at hu
          split at hu
          · rw [List.getElem?_drop] at hu; simpa using hu
          · cases hu)
        have hlen : ((l.drop j).take s).length = s := by simp; omega
        rw [hlen] at hl
        simp [loadVar, Sem.run_bind, ha, hz, hl]
      · refine .agg (vs := (l.drop j).take s) (by simp) fun i x u hx hu => ?_
        rw [List.getElem?_map, hu] at hx
        simp at hx; subst hx
        exact ofVal1_VR' u
    · cases hl
  · rename_i s hs
    split at hl
    · rename_i x hx
      cases hl
      refine ⟨x, ?_, ofVal1_VR' x⟩
      obtain ⟨ha, hz⟩ := shape_run hs w
      have hx' : l.toArray[j]? = some x := by simpa using hx
      simp [loadVar, Sem.run_bind, ha, hcell, hx]
    · cases hl
  · cases hl

theorem put_other {ι : Emb} {c c' : Col} {i : Nat} {v : AV} (h : c.put i v = some c') {i' : Nat} (hne : i' ≠ i) {u : Value} (hu : VR ι (c.at i') u) : VR ι (c'.at i') u := by
  have hg : ∀ {α : Type} (l : List α) (x d : α), (l.set i x).getD i' d = l.getD i' d := by
    intro α l x d; simp [List.getD, Ne.symm hne]
  cases c <;> cases v <;> simp only [Col.put] at h <;> first
    | (cases h; simp only [Col.at, hg] at hu ⊢; exact hu)
    | (split at h <;> first | (cases h; simp only [Col.at, hg] at hu ⊢; exact hu) | cases h)
    | cases h

theorem put_same {ι : Emb} {c c' : Col} {i : Nat} {v : AV} (h : c.put i v = some c') (hi : i < c.len) {u : Value} (hu : VR ι v u) : VR ι (c'.at i) u := by
  have hg : ∀ {α : Type} (l : List α) (x d : α), i < l.length → (l.set i x).getD i d = x := by
    intro α l x d hl; simp [List.getD, hl]
  cases c <;> cases v <;> simp only [Col.put] at h <;> simp only [Col.len] at hi <;> first
    | (cases h; simp only [Col.at, hg _ _ _ hi, slAV]; exact hu)
    | (split at h <;> first | (rename_i hk; subst hk; cases h; simp only [Col.at, hg _ _ _ hi]; exact hu) | cases h)
    | cases h

theorem put_len {c c' : Col} {i : Nat} {v : AV} (h : c.put i v = some c') : c'.len = c.len := by
  cases c <;> cases v <;> simp only [Col.put] at h <;> first
    | (cases h; simp [Col.len])
    | (split at h <;> first | (cases h; simp [Col.len]) | cases h)
    | cases h

/-- A row of cells written into columns. -/
theorem putCols_sound {ι : Emb} {i : Nat} : ∀ {cs cs' : List Col} {l : List AV}, putCols i cs l = some cs' → ∀ {us : List Value}, VRs ι l us → (∀ c ∈ cs, i < c.len) →
    cs'.length = cs.length ∧ l.length ≤ cs.length ∧ (∀ (j : Nat) (c' : Col), cs'[j]? = some c' → ∃ c, cs[j]? = some c ∧ c'.len = c.len ∧
      (∀ i', i' ≠ i → ∀ u, VR ι (c.at i') u → VR ι (c'.at i') u) ∧
      (∀ u, us[j]? = some u → VR ι (c'.at i) u) ∧ (us[j]? = none → ∀ u, VR ι (c.at i) u → VR ι (c'.at i) u)) := by
  intro cs
  induction cs with
  | nil =>
    intro cs' l h us hv hlen
    cases l with
    | nil => simp only [putCols] at h; cases h; exact ⟨rfl, by simp, fun j c' hj => by simp at hj⟩
    | cons => simp [putCols] at h
  | cons c cs ih =>
    intro cs' l h us hv hlen
    cases l with
    | nil =>
      simp only [putCols] at h; cases h
      rw [hv.nil_inv]
      exact ⟨rfl, by simp, fun j c' hj => ⟨c', hj, rfl, fun _ _ _ h => h, fun u hu => by simp at hu, fun _ _ h => h⟩⟩
    | cons v l =>
      obtain ⟨u0, us', rfl, hx, hl⟩ := hv.cons_inv
      simp only [putCols] at h
      split at h
      · rename_i c1 cs1 hc hcs
        cases h
        obtain ⟨e1, e2, e3⟩ := ih hcs hl (fun c hc => hlen c (by simp [hc]))
        refine ⟨by simp [e1], by simp; omega, fun j c' hj => ?_⟩
        cases j with
        | zero =>
          simp at hj; subst hj
          exact ⟨c, by simp, put_len hc, fun i' hne u hu => put_other hc hne hu, fun u hu => by simp at hu; subst hu; exact put_same hc (hlen c (by simp)) hx, fun hu => by simp at hu⟩
        | succ j =>
          obtain ⟨c2, f1, f2, f3, f4, f5⟩ := e3 j c' (by simpa using hj)
          exact ⟨c2, by simpa using f1, f2, f3, fun u hu => f4 u (by simpa using hu), fun hu => f5 (by simpa using hu)⟩
      · cases h

theorem list_get_patch {C news : List Value} {o q : Nat} (ho : o + news.length ≤ C.length) :
    (C.take o ++ news ++ C.drop (o + news.length))[q]? = if o ≤ q ∧ q < o + news.length then news[q - o]? else C[q]? := by
  by_cases h1 : q < o
  · rw [if_neg (by omega), List.append_assoc, List.getElem?_append_left (by simp; omega), List.getElem?_take, if_pos h1]
  · by_cases h2 : q < o + news.length
    · rw [if_pos ⟨by omega, h2⟩, List.getElem?_append_left (by simp; omega), List.getElem?_append_right (by simp; omega)]
      congr 1; simp; omega
    · rw [if_neg (by omega), List.getElem?_append_right (by simp; omega), List.getElem?_drop]
      congr 1; simp; omega

theorem get_set {α : Type} {l : List α} {b x : Nat} {y z : α} (h : (l.set b y)[x]? = some z) : (x = b ∧ z = y) ∨ (x ≠ b ∧ l[x]? = some z) := by
  rw [List.getElem?_set] at h
  split at h
  · rename_i e
    split at h
    · cases h; exact .inl ⟨e.symm, rfl⟩
    · cases h
  · rename_i e
    exact .inr ⟨fun h => e h.symm, h⟩

theorem Blk.has_all {x : Blk} (h : x.has true = true) (q : Bool) : x.has q = true := by
  cases q
  · exact Blk.has_live h
  · exact h

/-- A block that may be written, written over: only its row of the heap has turned. -/
theorem Rep.over {ι : Emb} {h : Heap} {w w' : World} (r : Rep ι h w) {b : Nat} {x : Blk} (y : Blk) {p : Place} (hb : h[b]? = some x) (hx : x.has true = true) (hp : ι b = some p)
    (hoth : ∀ k, k ≠ p.blk → w'.heap[k]? = w.heap[k]?) (hsz : w'.heap.size = w.heap.size) (hos : w'.os = w.os) (htp : w'.tape = w.tape) (hou : w'.output = w.output)
    (hm : ∀ ty n cols rw, y = .mem ty n cols rw → ∃ C fr, w'.heap[p.blk]? = some (.cells C ty fr) ∧ C.size = p.cap ∧ p.wd = cols.length ∧ p.sh + n * p.wd ≤ p.cap ∧
      (∀ i j c, i < n → cols[j]? = some c → ∃ u, C[p.sh + i * p.wd + j]? = some u ∧ u.oneCell' = true ∧ VR ι (c.at i) u) ∧ (rw = true → fr = (0, 0) ∧ p.sh = 0) ∧ (∀ c ∈ cols, c.len = n))
    (hl : ∀ st pe kp τ ps asg body, y = .loop st pe kp τ ps asg body → ∃ z, w'.heap[p.blk]? = some (.loop z) ∧ z.state = st ∧ z.pending = pe ∧ z.params.toList = ps ∧ z.assign = asg ∧ z.body = body ∧ VRs ι τ z.tmps.toList) :
    Rep ι (h.set b y) w' ∧ Ext ι h w ι (h.set b y) w' := by
  have orig : ∀ (q : Bool) (z : Nat) (u : Blk), (h.set b y)[z]? = some u → u.has q = true → ∃ u0, h[z]? = some u0 ∧ u0.has q = true := by
    intro q z u hz hu
    rcases get_set hz with ⟨rfl, _⟩ | ⟨_, hz⟩
    · exact ⟨x, hb, Blk.has_all hx q⟩
    · exact ⟨u, hz, hu⟩
  refine r.both ⟨⟨fun z s hz => by have := r.dom z s hz; simpa using this, ?_, ?_, ?_⟩, ⟨fun _ _ h => h, hos, htp, hou, by omega, fun k hk hn => hoth k (fun e => hn b p x hb hx hp e.symm), ?_, by simp, fun _ _ => rfl⟩⟩
  · intro z ty n cols rw hz
    rcases get_set hz with ⟨rfl, he⟩ | ⟨hne, hz⟩
    · obtain ⟨C, fr, g⟩ := hm _ _ _ _ he.symm
      exact ⟨p, C, fr, hp, g⟩
    · obtain ⟨q, C, fr, g1, g2, g3⟩ := r.mem z ty n cols rw hz
      exact ⟨q, C, fr, g1, by rw [hoth q.blk (fun e => r.sep b z p q x _ (Ne.symm hne) hb hx hz rfl hp g1 e.symm)]; exact g2, g3⟩
  · intro z st pe kp τ ps asg body hz
    rcases get_set hz with ⟨rfl, he⟩ | ⟨hne, hz⟩
    · obtain ⟨u, g⟩ := hl _ _ _ _ _ _ _ he.symm
      exact ⟨p, u, hp, g⟩
    · obtain ⟨q, u, g1, g2, g3⟩ := r.lp z _ _ _ _ _ _ _ hz
      exact ⟨q, u, g1, by rw [hoth q.blk (fun e => r.sep b z p q x _ (Ne.symm hne) hb hx hz rfl hp g1 e.symm)]; exact g2, g3⟩
  · intro a c pa pc u v hac ha hu hc hv hpa hpc
    obtain ⟨u0, ha0, hu0⟩ := orig true a u ha hu
    obtain ⟨v0, hc0, hv0⟩ := orig false c v hc hv
    exact r.sep a c pa pc u0 v0 hac ha0 hu0 hc0 hv0 hpa hpc
  · intro q z s u hz hu hs
    obtain ⟨u0, h0, hu0⟩ := orig q z u hz hu
    exact .inr ⟨z, s, u0, h0, hu0, hs, rfl⟩

theorem store_sound {P : Program} {ι : Emb} {h h' : Heap} {w : World} (r : Rep ι h w) {t : TypeId} {b i j : Nat} {v : AV} (hs : h.store P t b i j v = some h') {p : Place} (hp : ι b = some p) {u : Value} (hv : VR ι v u) :
    ∃ w', (storeVar t ⟨p.blk, p.sh + i * p.wd + j, none⟩ u).run P w = .ok () w' ∧ Rep ι h' w' ∧ Ext ι h w ι h' w' := by
  unfold Heap.store at hs
  split at hs
  · rename_i ty n cols l hb hcell
    split at hs
    · rename_i hcond
      obtain ⟨hi, hsz, hj⟩ := hcond
      split at hs
      · rename_i cs hput
        cases hs
        obtain ⟨q, C, fr, h1, h2, h3, h4, h5, h6, h7, h8⟩ := r.mem b ty n cols true hb
        rw [hp] at h1; cases h1
        obtain ⟨hfr, hsh⟩ := h7 rfl
        subst hfr
        obtain ⟨hvs, hone⟩ := cells_of hcell hv
        obtain ⟨e1, e2, e3⟩ := putCols_sound hput hvs (fun c hc => by rw [h8 c (List.mem_of_mem_drop hc)]; exact hi)
        have hlw : l.length ≤ cols.length - j := by simpa using e2
        have hul : u.cells.toList.length = l.length := hvs.1.symm
        have hmul : (i + 1) * p.wd ≤ n * p.wd := Nat.mul_le_mul_right _ hi
        rw [Nat.add_mul, Nat.one_mul] at hmul
        have hfit : p.sh + i * p.wd + j + 0 + u.cells.toList.length ≤ C.size := by omega
        have hrun := run_storeCells_at P p.blk (p.sh + i * p.wd + j) ty u.cells.toList 0 C w h2 hfit hone
        have hst : (storeVar t ⟨p.blk, p.sh + i * p.wd + j, none⟩ u).run P w = .ok () (w.setRow p.blk (C.toList.take (p.sh + i * p.wd + j + 0) ++ u.cells.toList ++ C.toList.drop (p.sh + i * p.wd + j + 0 + u.cells.toList.length)).toArray) := by
          have hz := size_run hsz w
          have hul' : u.cells.size = l.length := by simpa using hul
          simp only [storeVar, Sem.run_bind, hz, Result.andThen_ok, hul']
          simpa using hrun
        rw [Nat.add_zero] at hst
        refine ⟨_, hst, ?_⟩
        generalize hD : (C.toList.take (p.sh + i * p.wd + j) ++ u.cells.toList ++ C.toList.drop (p.sh + i * p.wd + j + u.cells.toList.length)).toArray = D
        have hDget : ∀ q, D[q]? = if p.sh + i * p.wd + j ≤ q ∧ q < p.sh + i * p.wd + j + u.cells.toList.length then u.cells.toList[q - (p.sh + i * p.wd + j)]? else C[q]? := by
          intro q
          rw [← hD]
          have := list_get_patch (C := C.toList) (news := u.cells.toList) (o := p.sh + i * p.wd + j) (q := q) (by simp; have := hfit; simp at this; omega)
          simpa using this
        have hDsize : D.size = C.size := by rw [← hD]; simp; have := hfit; simp at this; omega
        have hother : ∀ k, k ≠ p.blk → (w.setRow p.blk D).heap[k]? = w.heap[k]? := fun k hk => setRow_other w p.blk k D hk
        have hsame := setRow_heap w p.blk C D ty (0, 0) h2
        have hcl : (cols.take j ++ cs).length = cols.length := by simp [e1]; omega
        refine r.over (.mem ty n (cols.take j ++ cs) true) hb rfl hp hother (by simp [World.setRow]) rfl rfl rfl ?_ (fun st pe kp τ ps asg body e => by cases e)
        · intro ty' n' cols' rw' he
          cases he
          refine ⟨D, (0, 0), hsame, hDsize.trans h3, by rw [hcl]; exact h4, h5, fun i' j' c' hi' hj' => ?_, fun _ => ⟨rfl, hsh⟩, fun c hc => ?_⟩
          · have hj'lt : j' < cols.length := by have := (List.getElem?_eq_some_iff.1 hj').1; omega
            by_cases hjj : j' < j
            · -- a column before the written ones
              rw [List.getElem?_append_left (by simp; omega), List.getElem?_take, if_pos hjj] at hj'
              obtain ⟨u', g1, g2, g3⟩ := h6 i' j' c' hi' hj'
              refine ⟨u', ?_, g2, g3⟩
              rw [hDget, if_neg, g1]
              intro hc
              by_cases hii : i' = i
              · subst hii; omega
              · rcases Nat.lt_or_ge i' i with hlt | hge
                · have : (i' + 1) * p.wd ≤ i * p.wd := Nat.mul_le_mul_right _ hlt
                  rw [Nat.add_mul, Nat.one_mul] at this; omega
                · have : (i + 1) * p.wd ≤ i' * p.wd := Nat.mul_le_mul_right _ (by omega)
                  rw [Nat.add_mul, Nat.one_mul] at this; omega
            · rw [List.getElem?_append_right (by simp; omega)] at hj'
              have hmin : min j cols.length = j := by omega
              rw [List.length_take, hmin] at hj'
              obtain ⟨c, f1, f2, f3, f4, f5⟩ := e3 (j' - j) c' hj'
              rw [List.getElem?_drop, show j + (j' - j) = j' by omega] at f1
              obtain ⟨u', g1, g2, g3⟩ := h6 i' j' c hi' f1
              by_cases hii : i' = i
              · subst hii
                by_cases hw : j' - j < u.cells.toList.length
                · refine ⟨u.cells.toList[j' - j], ?_, hone _ (List.getElem_mem hw), f4 _ (by simp [List.getElem?_eq_getElem hw])⟩
                  rw [hDget, if_pos (by omega), show p.sh + i' * p.wd + j' - (p.sh + i' * p.wd + j) = j' - j by omega, List.getElem?_eq_getElem hw]
                · refine ⟨u', ?_, g2, f5 (by rw [List.getElem?_eq_none (by omega)]) u' g3⟩
                  rw [hDget, if_neg (by omega), g1]
              · refine ⟨u', ?_, g2, f3 i' hii u' g3⟩
                rw [hDget, if_neg, g1]
                intro hc
                rcases Nat.lt_or_ge i' i with hlt | hge
                · have : (i' + 1) * p.wd ≤ i * p.wd := Nat.mul_le_mul_right _ hlt
                  rw [Nat.add_mul, Nat.one_mul] at this; omega
                · have : (i + 1) * p.wd ≤ i' * p.wd := Nat.mul_le_mul_right _ (by omega)
                  rw [Nat.add_mul, Nat.one_mul] at this; omega
          · rcases List.mem_append.1 hc with hc | hc
            · exact h8 c (List.mem_of_mem_take hc)
            · obtain ⟨jj, hjj, rfl⟩ := List.mem_iff_getElem.1 hc
              obtain ⟨c0, f1, f2, _⟩ := e3 jj cs[jj] (by simp [hjj])
              rw [f2]
              rw [List.getElem?_drop] at f1
              exact h8 c0 (List.mem_of_getElem? f1)
      · cases hs
    · cases hs
  · cases hs

end Go.Am
