/- Slices that are written down and appended to. No condition. -/
import Derived.Test.YtpdkcpbhihaakaaDoorAmOps2
namespace Go.Am

theorem intsOf_spec {k : IntKind} : ∀ {l : List AV} {xs : List Int}, intsOf k l = some xs → l = xs.map (AV.int k)
  | [], xs, h => by simp [intsOf] at h; subst h; rfl
  | v :: l, xs, h => by
    cases v <;> simp only [intsOf] at h <;> first | (cases h; done) | skip
    rename_i k' n
    split at h
    · rename_i hk; subst hk
      cases hi : intsOf k l with
      | none => simp [hi] at h
      | some ys => simp [hi] at h; subst h; rw [intsOf_spec hi]; rfl
    · cases h
theorem boolsOf_spec : ∀ {l : List AV} {xs : List Bool}, boolsOf l = some xs → l = xs.map AV.bool
  | [], xs, h => by simp [boolsOf] at h; subst h; rfl
  | v :: l, xs, h => by
    cases v <;> simp only [boolsOf] at h <;> first | (cases h; done) | skip
    cases hi : boolsOf l with
    | none => simp [hi] at h
    | some ys => simp [hi] at h; subst h; rw [boolsOf_spec hi]; rfl
theorem strsOf_spec : ∀ {l : List AV} {xs : List (List UInt8)}, strsOf l = some xs → l = xs.map AV.str
  | [], xs, h => by simp [strsOf] at h; subst h; rfl
  | v :: l, xs, h => by
    cases v <;> simp only [strsOf] at h <;> first | (cases h; done) | skip
    cases hi : strsOf l with
    | none => simp [hi] at h
    | some ys => simp [hi] at h; subst h; rw [strsOf_spec hi]; rfl
theorem slcsOf_spec : ∀ {l : List AV} {xs : List (Option (Nat × Nat × Nat))}, slcsOf l = some xs → l = xs.map slAV
  | [], xs, h => by simp [slcsOf] at h; subst h; rfl
  | v :: l, xs, h => by
    cases v <;> simp only [slcsOf] at h <;> first | (cases h; done) | skip
    all_goals
      cases hi : slcsOf l with
      | none => simp [hi] at h
      | some ys => simp [hi] at h; subst h; rw [slcsOf_spec hi]; rfl

theorem getD_map {α β : Type} (l : List α) (f : α → β) (d : α) (i : Nat) (h : i < l.length) (e : β) : (l.map f).getD i e = f (l.getD i d) := by
  simp [List.getD, h]

theorem colOf_spec (l : List AV) : (colOf l).len = l.length ∧ ∀ i, i < l.length → (colOf l).at i = l.getD i .any := by
  have ha : (Col.avs l).len = l.length ∧ ∀ i, i < l.length → (Col.avs l).at i = l.getD i .any := ⟨rfl, fun _ _ => rfl⟩
  unfold colOf
  split
  · split
    · rename_i h; have e := intsOf_spec h; rw [e]; exact ⟨by simp [Col.len], fun i hi => by simp only [List.length_map] at hi; rw [getD_map _ _ 0 _ hi]; rfl⟩
    · exact ha
  · split
    · rename_i h; have e := boolsOf_spec h; rw [e]; exact ⟨by simp [Col.len], fun i hi => by simp only [List.length_map] at hi; rw [getD_map _ _ false _ hi]; rfl⟩
    · exact ha
  · split
    · rename_i h; have e := strsOf_spec h; rw [e]; exact ⟨by simp [Col.len], fun i hi => by simp only [List.length_map] at hi; rw [getD_map _ _ [] _ hi]; rfl⟩
    · exact ha
  · split
    · rename_i h; have e := slcsOf_spec h; rw [e]; exact ⟨by simp [Col.len], fun i hi => by simp only [List.length_map] at hi; rw [getD_map _ _ none _ hi]; rfl⟩
    · exact ha
  · split
    · rename_i h; have e := slcsOf_spec h; rw [e]; exact ⟨by simp [Col.len], fun i hi => by simp only [List.length_map] at hi; rw [getD_map _ _ none _ hi]; rfl⟩
    · exact ha
  · exact ha

theorem fill_rows (s : Nat) : ∀ (us : List Value) (i0 : Nat) (C : Array Value), (∀ u ∈ us, u.cells.size = s) → (i0 + us.length) * s ≤ C.size →
    ∃ C', Instr.fill (fun i => some (i * s, s)) C ((us.zipIdx i0).map fun x => (x.2, x.1)) = some C' ∧
      C'.toList = C.toList.take (i0 * s) ++ (us.map fun u => u.cells.toList).flatten ++ C.toList.drop ((i0 + us.length) * s) := by
  intro us
  induction us with
  | nil => intro i0 C _ _; exact ⟨C, rfl, by simp⟩
  | cons u us ih =>
    intro i0 C hu hC
    have hs : u.cells.size = s := hu u (by simp)
    have hlen : (u :: us).length = us.length + 1 := rfl
    rw [hlen] at hC
    have e1 : (i0 + (us.length + 1)) * s = i0 * s + s + us.length * s := by rw [Nat.add_mul, Nat.add_mul]; omega
    rw [e1] at hC
    have hfit : i0 * s + u.cells.size ≤ C.size := by rw [hs]; omega
    have hfold := fold_set u.cells.toList 0 (i0 * s) C (by simp; omega)
    simp only [Nat.add_zero] at hfold
    have hz : (u.cells.zipIdx.foldl (fun cs (x : Value × Nat) => cs.setIfInBounds (i0 * s + x.2) x.1) C) = (u.cells.toList.zipIdx.foldl (fun cs (x : Value × Nat) => cs.setIfInBounds (i0 * s + x.2) x.1) C) := by
      rw [← Array.foldl_toList]; congr 1; simp
    have hDl : (u.cells.zipIdx.foldl (fun cs (x : Value × Nat) => cs.setIfInBounds (i0 * s + x.2) x.1) C).toList = C.toList.take (i0 * s) ++ u.cells.toList ++ C.toList.drop (i0 * s + s) := by
      rw [hz, hfold]; simp [hs]
    generalize hD : (u.cells.zipIdx.foldl (fun cs (x : Value × Nat) => cs.setIfInBounds (i0 * s + x.2) x.1) C) = D at hDl
    have hDs : D.size = C.size := by
      have := congrArg List.length hDl
      simp at this
      rw [Nat.min_eq_left (by omega)] at this
      omega
    obtain ⟨C', h1, h2⟩ := ih (i0 + 1) D (fun x hx => hu x (by simp [hx])) (by rw [hDs, show (i0 + 1 + us.length) * s = i0 * s + s + us.length * s by rw [Nat.add_mul, Nat.add_mul]; omega]; omega)
    refine ⟨C', ?_, ?_⟩
    · rw [List.zipIdx_cons, List.map_cons, Instr.fill]
      simp only
      rw [if_neg (by rw [hs] at hfit; simp [hs]; exact hfit), hD]
      exact h1
    · rw [h2, hDl]
      have hcl : C.toList.length = C.size := by simp
      have hul : u.cells.toList.length = s := by simpa using hs
      have t1 : (C.toList.take (i0 * s)).length = i0 * s := by rw [List.length_take, hcl]; omega
      have e2 : (i0 + 1) * s = i0 * s + s := by rw [Nat.add_mul, Nat.one_mul]
      have e3 : (i0 + 1 + us.length) * s = i0 * s + s + us.length * s := by rw [Nat.add_mul, Nat.add_mul]; omega
      rw [hlen, e1, e2, e3, List.map_cons, List.flatten_cons]
      have tk : (C.toList.take (i0 * s) ++ u.cells.toList ++ C.toList.drop (i0 * s + s)).take (i0 * s + s) = C.toList.take (i0 * s) ++ u.cells.toList := by
        apply List.take_left'
        rw [List.length_append, t1, hul]
      have dk : (C.toList.take (i0 * s) ++ u.cells.toList ++ C.toList.drop (i0 * s + s)).drop (i0 * s + s + us.length * s) = C.toList.drop (i0 * s + s + us.length * s) := by
        rw [← List.drop_drop, List.drop_left' (by rw [List.length_append, t1, hul]), List.drop_drop]
      rw [tk, dk]
      simp

theorem rowsOf_spec : ∀ {parts : List (Nat × AV)} {i0 : Nat} {rows : List (List AV)}, rowsOf i0 parts = some rows → parts.length = rows.length ∧
    ∀ (q : Nat) (x : Nat × AV), parts[q]? = some x → x.1 = i0 + q ∧ ∃ r, rows[q]? = some r ∧ x.2.cells = some r
  | [], i0, rows, h => by simp [rowsOf] at h; subst h; exact ⟨rfl, fun q x hx => by simp at hx⟩
  | (j, v) :: parts, i0, rows, h => by
    simp only [rowsOf] at h
    split at h
    · rename_i l ls hl hls
      split at h
      · rename_i hij
        cases h
        obtain ⟨h1, h2⟩ := rowsOf_spec hls
        refine ⟨by simp [h1], fun q x hx => ?_⟩
        cases q with
        | zero => simp at hx; subst hx; exact ⟨by simp [hij], l, by simp, hl⟩
        | succ q =>
          obtain ⟨g1, r, g2, g3⟩ := h2 q x (by simpa using hx)
          exact ⟨by omega, r, by simpa using g2, g3⟩
      · cases h
    · cases h

theorem flatten_get {l : List (List Value)} {s : Nat} (hs : ∀ r ∈ l, r.length = s) {i j : Nat} {r : List Value} (hi : l[i]? = some r) (hj : j < s) : l.flatten[i * s + j]? = r[j]? := by
  induction l generalizing i with
  | nil => simp at hi
  | cons x l ih =>
    rw [List.flatten_cons]
    have hx : x.length = s := hs x (by simp)
    cases i with
    | zero => simp at hi; subst hi; rw [Nat.zero_mul, Nat.zero_add, List.getElem?_append_left (by omega)]
    | succ i =>
      rw [List.getElem?_append_right (by rw [hx, Nat.add_mul, Nat.one_mul]; omega), hx, Nat.add_mul, Nat.one_mul, show i * s + s + j - s = i * s + j by omega]
      exact ih (fun r hr => hs r (by simp [hr])) (by simpa using hi)

theorem flatten_len {l : List (List Value)} {s : Nat} (hs : ∀ r ∈ l, r.length = s) : l.flatten.length = l.length * s := by
  induction l with
  | nil => simp
  | cons x l ih => rw [List.flatten_cons, List.length_append, hs x (by simp), ih (fun r hr => hs r (by simp [hr])), List.length_cons, Nat.add_mul]; omega

/-- A slice that is written down. -/
theorem buildSlice_sound {P : Program} {ι : Emb} {h : Heap} {w : World} (r : Rep ι h w) {t e : TypeId} {len s : Nat} {parts : List (Nat × AV)} {parts' : List (Nat × Value)} {rows : List (List AV)}
    (ht : P.underlying t = some (.slice e)) (hs : sizeT P e = some s) (hrows : rowsOf 0 parts = some rows) (hlen : rows.length = len) (hall : ∀ x ∈ rows, x.length = s) (hs0 : 0 < s) (hl0 : 0 < len) (hbig : len * s ≤ 1000000)
    (hp : parts.length = parts'.length) (hv : ∀ (q : Nat) (x : Nat × AV) (y : Nat × Value), parts[q]? = some x → parts'[q]? = some y → x.1 = y.1 ∧ VR ι x.2 y.2) (hz : ∃ i z, P.info? e = some i ∧ i.zero = some z) :
    ∃ u ι' w', (Instr.buildSlice t len parts'.toArray).run P w = .ok u w' ∧ Rep ι' (h ++ [.mem e len (colsOf s rows) true]) w' ∧ Ext ι h w ι' (h ++ [.mem e len (colsOf s rows) true]) w' ∧ VR ι' (.slc h.length 0 len) u := by
  obtain ⟨i, hi, his⟩ := size_info hs
  obtain ⟨i2, z, hi2, hz⟩ := hz
  rw [hi] at hi2; cases hi2
  obtain ⟨r1, r2⟩ := rowsOf_spec hrows
  -- the values
  have hpe : parts' = ((parts'.map (·.2)).zipIdx 0).map fun x => (x.2, x.1) := by
    apply List.ext_getElem?
    intro q
    simp only [List.getElem?_map, List.getElem?_zipIdx]
    cases hq : parts'[q]? with
    | none => simp
    | some y =>
      have hql : q < parts.length := by rw [hp]; exact (List.getElem?_eq_some_iff.1 hq).1
      obtain ⟨g1, _⟩ := hv q parts[q] y (by simp [hql]) hq
      obtain ⟨g2, _⟩ := r2 q parts[q] (by simp [hql])
      simp; ext1 <;> simp; omega
  have hcells : ∀ (q : Nat) (u : Value), (parts'.map (·.2))[q]? = some u → ∃ r, rows[q]? = some r ∧ VRs ι r u.cells.toList ∧ u.cells.size = s ∧ ∀ x ∈ u.cells.toList, x.oneCell' = true := by
    intro q u hu
    rw [List.getElem?_map] at hu
    cases hq : parts'[q]? with
    | none => simp [hq] at hu
    | some y =>
      simp [hq] at hu; subst hu
      have hql : q < parts.length := by rw [hp]; exact (List.getElem?_eq_some_iff.1 hq).1
      obtain ⟨_, g1⟩ := hv q parts[q] y (by simp [hql]) hq
      obtain ⟨_, r, g2, g3⟩ := r2 q parts[q] (by simp [hql])
      obtain ⟨f1, f2⟩ := cells_of g3 g1
      exact ⟨r, g2, f1, by have := f1.1; rw [hall r (List.mem_of_getElem? g2)] at this; simpa using this.symm, f2⟩
  have hul : (parts'.map (·.2)).length = len := by rw [List.length_map, ← hp, r1, hlen]
  generalize hus : parts'.map (·.2) = us at hpe hcells hul
  have hsz : ∀ u ∈ us, u.cells.size = s := fun u hu => by obtain ⟨q, hq⟩ := List.mem_iff_getElem?.1 hu; obtain ⟨_, _, _, g, _⟩ := hcells q u hq; exact g
  have hzs : z.cells.size ≤ z.cells.size := Nat.le_refl _
  obtain ⟨C, hC1, hC2⟩ := fill_rows s us 0 ((Array.range (len * s)).map (z.cells[· % z.cells.size]!)) hsz (by simp [hul])
  have hCl : C.toList = (us.map fun u => u.cells.toList).flatten := by
    rw [hC2]; simp [hul]
  have hCs : C.size = len * s := by
    have : C.toList.length = len * s := by rw [hCl, flatten_len (s := s) (by simp; intro u hu; exact hsz u hu)]; simp [hul]
    simpa using this
  have hlen1 : ∀ c ∈ colsOf s rows, c.len = len := by
    intro c hc
    simp only [colsOf, List.mem_map] at hc
    obtain ⟨j, _, rfl⟩ := hc
    rw [(colOf_spec _).1]; simp [hlen]
  have hcw : (colsOf s rows).length = s := by simp [colsOf]
  have hcell : ∀ i j c, i < len → (colsOf s rows)[j]? = some c → ∃ u, C[i * (colsOf s rows).length + j]? = some u ∧ u.oneCell' = true ∧ VR ι (c.at i) u := by
    intro q j c hq hj
    have hjs : j < s := by have := (List.getElem?_eq_some_iff.1 hj).1; omega
    have hqu : q < us.length := by omega
    obtain ⟨row, g1, g2, g3, g4⟩ := hcells q us[q] (by simp [hqu])
    have hjr : j < row.length := by rw [hall row (List.mem_of_getElem? g1)]; exact hjs
    have hju : j < us[q].cells.toList.length := by simpa [g3] using hjs
    have hcc : c = colOf (rows.map fun r => r.getD j .any) := by
      simp [colsOf, hjs] at hj
      exact hj.symm
    refine ⟨us[q].cells.toList[j], ?_, g4 _ (List.getElem_mem hju), ?_⟩
    · rw [hcw]
      have : C.toList[q * s + j]? = us[q].cells.toList[j]? := by
        rw [hCl]; exact flatten_get (by simp; intro u hu; exact hsz u hu) (by simp [hqu]) hjs
      rw [List.getElem?_eq_getElem hju] at this
      simpa using this
    · have hrl : q < rows.length := by omega
      have hrow : rows[q] = row := by have := g1; rw [List.getElem?_eq_getElem hrl] at this; exact Option.some.inj this
      rw [hcc, (colOf_spec _).2 q (by simpa using hrl), getD_map _ _ [] _ hrl]
      have e1 : rows.getD q [] = row := by simp [List.getD, g1]
      have e2 : row.getD j .any = row[j] := by simp [List.getD, hjr]
      rw [e1, e2]
      exact g2.2 j row[j] _ (by simp [hjr]) (by simp)
  obtain ⟨hR, hE⟩ := r.new e len (colsOf s rows) C (by rw [hcw, hCs]; exact Nat.le_refl _) hlen1 hcell
  refine ⟨.slice (some ⟨w.heap.size, 0, none⟩) len len, _, _, ?_, hR, hE, ?_⟩
  · have hm0 : len * s ≠ 0 := Nat.mul_ne_zero (by omega) (by omega)
    have hnb : ¬ (16777216 < len * s) := by omega
    rw [hpe] 
    simp [Instr.buildSlice, run_under ht, size_run hs w, hnb, hm0, zeroValue, typeInfo, hi, hz, newRow]
    rw [hC1]
    simp
  · exact .slc (Rep.new_emb ι h _) (Nat.le_refl _) (by simp [hcw, hCs]) (.inl (by simp))

theorem sub_spec (c : Col) (o n : Nat) (h : o + n ≤ c.len) : (c.sub o n).len = n ∧ ∀ i, i < n → (c.sub o n).at i = c.at (o + i) := by
  have hg : ∀ {α : Type} (l : List α) (d : α) (i : Nat), i < n → ((l.drop o).take n).getD i d = l.getD (o + i) d := by
    intro α l d i hi
    simp [List.getD, hi]
  cases c <;> simp only [Col.sub, Col.len] at h ⊢ <;> refine ⟨by simp; omega, fun i hi => ?_⟩ <;> simp only [Col.at, hg _ _ _ hi]

theorem cat_spec {c d e : Col} (h : c.cat d = some e) : e.len = c.len + d.len ∧ (∀ i, i < c.len → e.at i = c.at i) ∧ (∀ i, e.at (c.len + i) = d.at i) := by
  have h1 : ∀ {α : Type} (l m : List α) (x : α) (i : Nat), i < l.length → (l ++ m).getD i x = l.getD i x := by
    intro α l m x i hi; simp [List.getD, List.getElem?_append_left hi]
  have h2 : ∀ {α : Type} (l m : List α) (x : α) (i : Nat), (l ++ m).getD (l.length + i) x = m.getD i x := by
    intro α l m x i; simp [List.getD, List.getElem?_append_right]
  cases c <;> cases d <;> simp only [Col.cat] at h <;> first
    | (cases h; exact ⟨by simp [Col.len], fun i hi => by simp only [Col.len] at hi; simp only [Col.at, h1 _ _ _ _ hi], fun i => by simp only [Col.at, Col.len, h2]⟩)
    | (split at h
       · rename_i hk; subst hk; cases h; exact ⟨by simp [Col.len], fun i hi => by simp only [Col.len] at hi; simp only [Col.at, h1 _ _ _ _ hi], fun i => by simp only [Col.at, Col.len, h2]⟩
       · cases h)
    | cases h

theorem catCols_spec : ∀ {cs ds es : List Col}, catCols cs ds = some es → es.length = cs.length ∧ cs.length = ds.length ∧
    ∀ (j : Nat) (e : Col), es[j]? = some e → ∃ c d, cs[j]? = some c ∧ ds[j]? = some d ∧ c.cat d = some e
  | [], [], es, h => by simp [catCols] at h; subst h; exact ⟨rfl, rfl, fun j e hj => by simp at hj⟩
  | [], _ :: _, es, h => by simp [catCols] at h
  | _ :: _, [], es, h => by simp [catCols] at h
  | c :: cs, d :: ds, es, h => by
    simp only [catCols] at h
    split at h
    · rename_i x xs hx hxs
      cases h
      obtain ⟨h1, h2, h3⟩ := catCols_spec hxs
      refine ⟨by simp [h1], by simp [h2], fun j e hj => ?_⟩
      cases j with
      | zero => simp at hj; subst hj; exact ⟨c, d, by simp, by simp, hx⟩
      | succ j => obtain ⟨c', d', f1, f2, f3⟩ := h3 j e (by simpa using hj); exact ⟨c', d', by simpa using f1, by simpa using f2, f3⟩
    · cases h

/-- A slice's cells in the world, as one row. -/
theorem slice_row {ι : Emb} {h : Heap} {w : World} (r : Rep ι h w) {b o n : Nat} {ty : TypeId} {m : Nat} {cols : List Col} {rw : Bool} (hb : h[b]? = some (.mem ty m cols rw)) {p : Place} (hp : ι b = some p) (hn : o + n ≤ m) :
    ∃ us : List Value, us.length = n * cols.length ∧ (∀ (j : Nat) (u : Value), us[j]? = some u → w.cell? ⟨p.blk, p.sh + o * p.wd + j, none⟩ = some u) ∧ (∀ u ∈ us, u.oneCell' = true) ∧
      ∀ (i j : Nat) (c : Col), i < n → cols[j]? = some c → ∃ u, us[i * cols.length + j]? = some u ∧ VR ι (c.at (o + i)) u := by
  obtain ⟨q, C, fr, h1, h2, h3, h4, h5, h6, h7, h8⟩ := r.mem b ty m cols rw hb
  rw [hp] at h1; cases h1
  have hcell : ∀ x, w.cell? ⟨p.blk, x, none⟩ = C[x]? := fun x => cell_of_row w p.blk x C ty fr h2
  have hmul : (o + n) * p.wd ≤ m * p.wd := Nat.mul_le_mul_right _ hn
  rw [Nat.add_mul] at hmul
  refine ⟨(C.toList.drop (p.sh + o * p.wd)).take (n * cols.length), ?_, ?_, ?_, ?_⟩
  · simp; rw [← h4]; omega
  · intro j u hu
    rw [hcell]
    rw [List.getElem?_take] at hu
    split at hu
    · rw [List.getElem?_drop] at hu; simpa using hu
    · cases hu
  · intro u hu
    obtain ⟨k, hk⟩ := List.mem_iff_getElem?.1 hu
    rw [List.getElem?_take] at hk
    split at hk
    · rename_i hkn
      rw [List.getElem?_drop] at hk
      have hw : 0 < cols.length := by
        rcases Nat.eq_zero_or_pos cols.length with e | e
        · rw [e, Nat.mul_zero] at hkn; omega
        · exact e
      have hdiv : k / cols.length < n := Nat.div_lt_of_lt_mul (by rw [Nat.mul_comm]; exact hkn)
      have hmod : k % cols.length < cols.length := Nat.mod_lt _ hw
      obtain ⟨u', g1, g2, _⟩ := h6 (o + k / cols.length) (k % cols.length) cols[k % cols.length] (by omega) (by simp [hmod])
      have e1 : p.sh + (o + k / cols.length) * p.wd + k % cols.length = p.sh + o * p.wd + k := by
        rw [Nat.add_mul, h4]
        have := Nat.div_add_mod k cols.length
        rw [Nat.mul_comm] at this
        omega
      rw [e1] at g1
      have : C[p.sh + o * p.wd + k]? = some u := by simpa using hk
      rw [g1] at this; cases this; exact g2
    · cases hk
  · intro i j c hi hj
    obtain ⟨u, g1, _, g3⟩ := h6 (o + i) j c (by omega) hj
    have hjl : j < cols.length := (List.getElem?_eq_some_iff.1 hj).1
    have hin : i * cols.length + j < n * cols.length := by
      have : (i + 1) * cols.length ≤ n * cols.length := Nat.mul_le_mul_right _ hi
      rw [Nat.add_mul, Nat.one_mul] at this; omega
    refine ⟨u, ?_, g3⟩
    rw [List.getElem?_take, if_pos hin, List.getElem?_drop]
    have e1 : p.sh + (o + i) * p.wd + j = p.sh + o * p.wd + (i * cols.length + j) := by rw [Nat.add_mul, h4]; omega
    rw [e1] at g1
    simpa using g1

/-- The old memory with one block replaced by a new one over the same row. -/
theorem Rep.regrow {ι : Emb} {h : Heap} {w w' : World} (r : Rep ι h w) {b0 : Nat} {e : TypeId} {m0 : Nat} {cols0 cs : List Col} (hb0 : h[b0]? = some (.mem e m0 cols0 true)) {p : Place} (hp : ι b0 = some p)
    {D : Array Value} {n : Nat} (hD : w'.heap[p.blk]? = some (.cells D e (0, 0))) (hDs : D.size = p.cap) (hoth : ∀ k, k ≠ p.blk → w'.heap[k]? = w.heap[k]?) (hsz : w'.heap.size = w.heap.size)
    (hos : w'.os = w.os) (htp : w'.tape = w.tape) (hou : w'.output = w.output) (hwd : p.wd = cs.length) (hsh : p.sh = 0) (hn : n * cs.length ≤ p.cap) (hlen : ∀ c ∈ cs, c.len = n)
    (hc : ∀ i j c, i < n → cs[j]? = some c → ∃ u, D[i * cs.length + j]? = some u ∧ u.oneCell' = true ∧ VR ι (c.at i) u) :
    ∃ ι', Rep ι' ((h.set b0 .dead) ++ [.mem e n cs true]) w' ∧ Ext ι h w ι' ((h.set b0 .dead) ++ [.mem e n cs true]) w' ∧ ι' h.length = some p := by
  have hle := embAdd_le r p
  have hsl : (h.set b0 .dead).length = h.length := by simp
  have orig : ∀ (q : Bool) (x : Nat) (y : Blk), ((h.set b0 .dead) ++ [Blk.mem e n cs true])[x]? = some y → y.has q = true →
      (x ≠ b0 ∧ x < h.length ∧ h[x]? = some y) ∨ (x = h.length ∧ y = Blk.mem e n cs true) := by
    intro q x y hx hy
    rcases get_snoc hx with hx | ⟨hx, he⟩
    · rcases get_set hx with ⟨_, he⟩ | ⟨hne, hx⟩
      · subst he; cases q <;> cases hy
      · exact .inl ⟨hne, (List.getElem?_eq_some_iff.1 hx).1, hx⟩
    · exact .inr ⟨by rw [hx, hsl], he⟩
  have old : ∀ x s, x < h.length → embAdd ι h.length p x = some s → ι x = some s := by
    intro x s hx hs; unfold embAdd at hs; rw [if_neg (by omega)] at hs; exact hs
  have new : ∀ s, embAdd ι h.length p h.length = some s → s = p := by
    intro s hs; unfold embAdd at hs; rw [if_pos rfl] at hs; cases hs; rfl
  have key : Rep0 (embAdd ι h.length p) ((h.set b0 .dead) ++ [.mem e n cs true]) w' ∧ Ext ι h w (embAdd ι h.length p) ((h.set b0 .dead) ++ [.mem e n cs true]) w' := by
   refine ⟨⟨?_, ?_, ?_, ?_⟩, ⟨hle, hos, htp, hou, by omega, fun k hk hnot => hoth k (fun e1 => hnot b0 p _ hb0 rfl hp e1.symm), ?_, by simp, fun x hx => by unfold embAdd; rw [if_neg (by omega)]⟩⟩
   · intro x s hx
     unfold embAdd at hx
     simp only [List.length_append, hsl, List.length_cons, List.length_nil]
     split at hx
     · omega
     · have := r.dom x s hx; omega
   · intro x t k c rr hx
     rcases orig false x _ hx rfl with ⟨hne, hlt, hx⟩ | ⟨rfl, he⟩
     · obtain ⟨q, C, fr, g1, g2, g3, g4, g5, g6, g7⟩ := r.mem x t k c rr hx
       refine ⟨q, C, fr, hle _ _ g1, ?_, g3, g4, g5, fun i j c hi hj => ?_, g7⟩
       · rw [hoth q.blk (fun e1 => r.sep b0 x p q _ _ (Ne.symm hne) hb0 rfl hx rfl hp g1 e1.symm)]; exact g2
       · obtain ⟨u, f1, f2, f3⟩ := g6 i j c hi hj; exact ⟨u, f1, f2, f3.mono hle⟩
     · cases he
       refine ⟨p, D, (0, 0), by simp [embAdd], hD, hDs, hwd, by rw [hwd, hsh]; simpa using hn, fun i j c hi hj => ?_, fun _ => ⟨rfl, hsh⟩, hlen⟩
       obtain ⟨u, f1, f2, f3⟩ := hc i j c hi hj
       exact ⟨u, by rw [hsh, hwd, Nat.zero_add]; exact f1, f2, f3.mono hle⟩
   · intro x st pe kp τ ps asg body hx
     rcases orig false x _ hx rfl with ⟨hne, hlt, hx⟩ | ⟨rfl, he⟩
     · obtain ⟨q, y, g1, g2, g3, g4, g5, g6, g7, g8⟩ := r.lp x _ _ _ _ _ _ _ hx
       exact ⟨q, y, hle _ _ g1, by rw [hoth q.blk (fun e1 => r.sep b0 x p q _ _ (Ne.symm hne) hb0 rfl hx rfl hp g1 e1.symm)]; exact g2, g3, g4, g5, g6, g7, g8.mono hle⟩
     · cases he
   · intro x y px py u v hxy hx hu hy hv hpx hpy
     rcases orig true x _ hx hu with ⟨hnx, hlx, hx⟩ | ⟨rfl, he⟩ <;> rcases orig false y _ hy hv with ⟨hny, hly, hy⟩ | ⟨rfl, he2⟩
     · exact r.sep x y px py _ _ hxy hx hu hy hv (old _ _ hlx hpx) (old _ _ hly hpy)
     · rw [new _ hpy]; exact r.sep x b0 px p _ _ hnx hx hu hb0 rfl (old _ _ hlx hpx) hp
     · rw [new _ hpx]; exact r.sep b0 y p py _ _ (Ne.symm hny) hb0 rfl hy hv hp (old _ _ hly hpy)
     · exact absurd rfl hxy
   · intro q x px y hx hy hpx
     rcases orig q x _ hx hy with ⟨hnx, hlx, hx⟩ | ⟨rfl, he⟩
     · exact .inr ⟨x, px, y, hx, hy, old _ _ hlx hpx, rfl⟩
     · rw [new _ hpx]; exact .inr ⟨b0, p, _, hb0, by cases q <;> rfl, hp, rfl⟩
  exact ⟨embAdd ι h.length p, (r.both key).1, key.2, by simp [embAdd]⟩

end Go.Am
