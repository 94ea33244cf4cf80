/- Appending. No condition. -/
import Derived.Test.YtpdkcpbhihaakaaDoorAmOps3
namespace Go.Am

theorem zeroOK_inv {P : Program} {e : TypeId} (h : zeroOK P e = true) : ∃ i z, P.info? e = some i ∧ i.zero = some z ∧ z.cells.size = i.size ∧ P.bytesOf e = i.bytes ∧ sizeT P e = some i.size := by
  unfold zeroOK at h
  split at h
  · rename_i i hi
    split at h
    · rename_i z hz
      exact ⟨i, z, hi, hz, by simpa using h, by simp [Program.bytesOf, hi], by simp [sizeT, hi]⟩
    · cases h
  · cases h

theorem grown_ge (w : World) (need old : Nat) (e : TypeId) : need ≤ grownCap w need old e := grownCap_ge w need old e

theorem append_sound {P : Program} {ι : Emb} {h : Heap} {w : World} (hr : Rep ι h w) {t ty : TypeId} {s x : AV} {k : AV → Heap → Fin} {r : Out × Heap} (he : evAppend P t s x h k = some r) {sv xv : Value} (hs : VR ι s sv) (hx : VR ι x xv) :
    ∃ v h' ι' w' u, k v h' = some r ∧ Ext ι h w ι' h' w' ∧ Rep ι' h' w' ∧ (Builtin.append_ #[t, t] ty #[sv, xv]).run P w = .ok u w' ∧ VR ι' v u := by
  unfold evAppend at he
  split at he
  case h_2 => cases he
  rename_i e ht
  split at he
  case isFalse => cases he
  rename_i hz0
  obtain ⟨i, z, hi, hz, hzs, hby, hsz⟩ := zeroOK_inv hz0
  split at he
  · -- nothing to nothing
    cases hs; cases hx
    refine ⟨_, _, ι, w, .slice none 0 0, he, .refl _ _ _, hr, ?_, .nilsl⟩
    simp [Builtin.append_, run_underlying ht, sizeOf, typeInfo, hi, Builtin.lenOf, Builtin.firstCells]
  · -- to nothing
    rename_i b o n
    cases hs
    obtain ⟨p, off', cap, hp, h1, h2, h3, rfl⟩ := hx.slc_inv
    split at he
    case h_2 => cases he
    rename_i ty' m cols rw' hb
    split at he
    case isFalse => cases he
    rename_i hc
    obtain ⟨hsc, hpos⟩ := hc
    obtain ⟨hd, he⟩ := bif_some he
    simp only [decide_eq_true_eq] at hd
    obtain ⟨d1, d2, d3, d4⟩ := hd
    rw [hsz] at hsc
    have hisz : i.size = cols.length := Option.some.inj hsc
    have hoff : off' = p.sh + o * p.wd := h3.elim id (fun hh => by omega)
    subst hoff
    obtain ⟨us, u1, u2, u3, u4⟩ := slice_row hr hb hp d2
    have hmb : maxBytes = 1099511627776 := rfl
    have hrun := run_append_nil (P := P) w t ty e i z ht hi hz ⟨p.blk, p.sh + o * p.wd, none⟩ n cap us (by rw [u1, hisz]) (fun j v hv => by rw [addr_add]; exact u2 j v hv) d1 (by omega) (by rw [← hby]; omega)
    have hcsz : (us.toArray ++ Builtin.zeroCells z.cells (grownCap w n 0 e - n)).size = grownCap w n 0 e * cols.length := by
      have := grown_ge w n 0 e
      simp only [Array.size_append, List.size_toArray, u1, size_zeroCells, hzs, hisz, ← Nat.add_mul]
      congr 1; omega
    have hget : ∀ q, q < n * cols.length → (us.toArray ++ Builtin.zeroCells z.cells (grownCap w n 0 e - n))[q]? = us[q]? := by
      intro q hq
      rw [Array.getElem?_append_left (by simpa [u1] using hq)]; simp
    obtain ⟨hR, hE⟩ := hr.drew.new e n (cols.map (Col.sub o n)) (us.toArray ++ Builtin.zeroCells z.cells (grownCap w n 0 e - n))
      (by rw [hcsz, List.length_map]; exact Nat.mul_le_mul_right _ (grown_ge w n 0 e))
      (by
        obtain ⟨_, _, _, _, _, _, _, _, _, _, hlen⟩ := hr.mem b ty' m cols rw' hb
        intro c hc
        obtain ⟨c0, hc0, rfl⟩ := List.mem_map.1 hc
        exact (sub_spec c0 o n (by rw [hlen c0 hc0]; exact d2)).1)
      (by
        obtain ⟨_, _, _, _, _, _, _, _, _, _, hlen⟩ := hr.mem b ty' m cols rw' hb
        intro q j c hq hj
        rw [List.length_map]
        rw [List.getElem?_map] at hj
        cases hcj : cols[j]? with
        | none => simp [hcj] at hj
        | some c0 =>
          simp [hcj] at hj; subst hj
          obtain ⟨u, g1, g2⟩ := u4 q j c0 hq hcj
          have hjl : j < cols.length := (List.getElem?_eq_some_iff.1 hcj).1
          have hin : q * cols.length + j < n * cols.length := by
            have : (q + 1) * cols.length ≤ n * cols.length := Nat.mul_le_mul_right _ hq
            rw [Nat.add_mul, Nat.one_mul] at this; omega
          refine ⟨u, by rw [hget _ hin]; exact g1, u3 u (List.mem_of_getElem? g1), ?_⟩
          rw [(sub_spec c0 o n (by rw [hlen c0 (List.mem_of_getElem? hcj)]; exact d2)).2 q hq]; exact g2)
    refine ⟨_, _, _, _, _, he, Ext.trans .drew hE, hR, hrun, ?_⟩
    exact .slc (Rep.new_emb ι h _) (grown_ge w n 0 e) (by simp only [List.length_map, hcsz]; simp) (.inl (by simp))
  · -- to a row
    rename_i b0 n0 b o n
    obtain ⟨p0, off0, cap0, hp0, h01, h02, h03, rfl⟩ := hs.slc_inv
    obtain ⟨p, off', cap, hp, h1, h2, h3, rfl⟩ := hx.slc_inv
    split at he
    case h_2 => cases he
    rename_i e0 m0 cols0 ty' m cols rw' hb0 hb
    split at he
    case isFalse => cases he
    rename_i hc
    obtain ⟨rfl, hne, hsc0, hsc, hpos⟩ := hc
    split at he
    case h_2 => cases he
    rename_i cs hcs
    obtain ⟨hd, he⟩ := bif_some he
    simp only [decide_eq_true_eq] at hd
    obtain ⟨d0, d1, d2, d3, d4⟩ := hd
    rw [hsz] at hsc hsc0
    have hisz : i.size = cols.length := Option.some.inj hsc
    have hisz0 : i.size = cols0.length := Option.some.inj hsc0
    have hoff : off' = p.sh + o * p.wd := h3.elim id (fun hh => by omega)
    subst hoff
    obtain ⟨q0, C0, fr0, g1, g2, g3, g4, g5, g6, g7, g8⟩ := hr.mem b0 e0 m0 cols0 true hb0
    rw [hp0] at g1; cases g1
    obtain ⟨hfr, hsh⟩ := g7 rfl
    subst hfr
    have hoff0 : off0 = 0 ∨ cap0 = 0 := h03.imp (fun hh => by rw [hh, hsh]; simp) id
    obtain ⟨us, u1, u2, u3, u4⟩ := slice_row hr hb hp d2
    obtain ⟨vs, v1, v2, v3, v4⟩ := slice_row hr hb0 hp0 (o := 0) (n := n0) (by omega)
    have hmb : maxBytes = 1099511627776 := rfl
    obtain ⟨cc1, cc2, cc3⟩ := catCols_spec hcs
    simp only [List.length_map] at cc1 cc2
    have hcl : cs.length = i.size := by omega
    obtain ⟨_, _, _, _, _, _, _, _, _, _, hlen⟩ := hr.mem b ty' m cols rw' hb
    have hcs_len : ∀ c ∈ cs, c.len = n0 + n := by
      intro c hc
      obtain ⟨j, hj⟩ := List.mem_iff_getElem?.1 hc
      obtain ⟨c1, c2, f1, f2, f3⟩ := cc3 j c hj
      rw [List.getElem?_map] at f1 f2
      cases hcj : cols0[j]? with
      | none => simp [hcj] at f1
      | some x0 =>
        cases hcj' : cols[j]? with
        | none => simp [hcj'] at f2
        | some y0 =>
          simp [hcj] at f1; simp [hcj'] at f2; subst f1; subst f2
          rw [(cat_spec f3).1, (sub_spec x0 0 n0 (by rw [g8 x0 (List.mem_of_getElem? hcj)]; omega)).1, (sub_spec y0 o n (by rw [hlen y0 (List.mem_of_getElem? hcj')]; exact d2)).1]
    have hcell : ∀ (D : Array Value), (∀ q, q < (n0 + n) * i.size → D[q]? = (vs ++ us)[q]?) → ∀ q j c, q < n0 + n → cs[j]? = some c → ∃ u, D[q * cs.length + j]? = some u ∧ u.oneCell' = true ∧ VR ι (c.at q) u := by
      intro D hD q j c hq hj
      obtain ⟨c1, c2, f1, f2, f3⟩ := cc3 j c hj
      rw [List.getElem?_map] at f1 f2
      cases hcj : cols0[j]? with
      | none => simp [hcj] at f1
      | some x0 =>
        cases hcj' : cols[j]? with
        | none => simp [hcj'] at f2
        | some y0 =>
          simp [hcj] at f1; simp [hcj'] at f2; subst f1; subst f2
          have hjl : j < cs.length := (List.getElem?_eq_some_iff.1 hj).1
          have hin : q * cs.length + j < (n0 + n) * i.size := by
            rw [← hcl]
            have : (q + 1) * cs.length ≤ (n0 + n) * cs.length := Nat.mul_le_mul_right _ hq
            rw [Nat.add_mul, Nat.one_mul] at this; omega
          have s0 := sub_spec x0 0 n0 (by rw [g8 x0 (List.mem_of_getElem? hcj)]; omega)
          have s1 := sub_spec y0 o n (by rw [hlen y0 (List.mem_of_getElem? hcj')]; exact d2)
          have hcat := cat_spec f3
          rw [s0.1] at hcat
          rw [hD _ hin]
          by_cases hq0 : q < n0
          · obtain ⟨u, a1, a2⟩ := v4 q j x0 hq0 hcj
            rw [show cols0.length = cs.length by omega] at a1
            refine ⟨u, ?_, v3 u (List.mem_of_getElem? a1), ?_⟩
            · rw [List.getElem?_append_left (List.getElem?_eq_some_iff.1 a1).1]; exact a1
            · rw [hcat.2.1 q hq0, s0.2 q hq0]; exact a2
          · obtain ⟨u, a1, a2⟩ := u4 (q - n0) j y0 (by omega) hcj'
            rw [show cols.length = cs.length by omega] at a1
            refine ⟨u, ?_, u3 u (List.mem_of_getElem? a1), ?_⟩
            · have e1 : q * cs.length = n0 * cs.length + (q - n0) * cs.length := by rw [← Nat.add_mul]; congr 1; omega
              rw [List.getElem?_append_right (by rw [v1, show cols0.length = cs.length by omega]; omega), v1, show cols0.length = cs.length by omega,
                show q * cs.length + j - n0 * cs.length = (q - n0) * cs.length + j by omega]
              exact a1
            · have := hcat.2.2 (q - n0)
              rw [show n0 + (q - n0) = q by omega] at this
              rw [this, s1.2 (q - n0) (by omega)]; exact a2
    by_cases hroom : n0 + n ≤ cap0
    · -- there is room
      have hoff0' : off0 = 0 := hoff0.elim id (fun hh => by omega)
      subst hoff0'
      have hcapw : (n0 + n) * p0.wd ≤ cap0 * p0.wd := Nat.mul_le_mul_right _ hroom
      have e0' : (n0 + n) * p0.wd = n0 * p0.wd + n * p0.wd := Nat.add_mul ..
      have hwd : p0.wd = i.size := by rw [g4, hisz0]
      rw [hsh] at h02
      have hul : us.length = n * i.size := by rw [u1, hisz]
      have hvl : vs.length = n0 * i.size := by rw [v1, hisz0]
      have hfit : n0 * i.size + us.length ≤ C0.size := by rw [hul, ← hwd, g3]; omega
      have hrun := run_append_room (P := P) w t ty e0 i ht hi p0.blk n0 cap0 C0 g2 ⟨p.blk, p.sh + o * p.wd, none⟩ n cap us hul (fun j v hv => by rw [addr_add]; exact u2 j v hv) u3 hroom hfit
      have hvs : vs = C0.toList.take (n0 * i.size) := by
        apply List.ext_getElem?
        intro q
        by_cases hq : q < n0 * i.size
        · have hq' : q < vs.length := by omega
          have := v2 q vs[q] (by simp [hq'])
          rw [cell_of_row w p0.blk _ C0 e0 (0, 0) g2, hsh] at this
          rw [List.getElem?_take, if_pos hq, List.getElem?_eq_getElem hq']
          simpa using this.symm
        · rw [List.getElem?_eq_none (by omega), List.getElem?_eq_none (by simp; omega)]
      generalize hDd : (C0.toList.take (n0 * i.size) ++ us ++ C0.toList.drop (n0 * i.size + us.length)).toArray = D at hrun
      have hDs : D.size = p0.cap := by
        rw [← hDd, ← g3]; simp; omega
      have hDq : ∀ q, q < (n0 + n) * i.size → D[q]? = (vs ++ us)[q]? := by
        intro q hq
        rw [← hDd, hvs]
        simp only [List.getElem?_toArray]
        rw [List.getElem?_append_left]
        rw [List.length_append, List.length_take]
        rw [Nat.add_mul] at hq
        simp; omega
      obtain ⟨ι', f1, f2, f3⟩ := hr.regrow hb0 hp0 (w' := w.setRow p0.blk D) (D := D) (n := n0 + n) (cs := cs) (setRow_heap w p0.blk C0 D e0 (0, 0) g2) hDs (fun k hk => setRow_other w p0.blk k D hk) (by simp [World.setRow]) rfl rfl rfl
        (by rw [hwd, hcl]) hsh (by rw [hcl, ← hwd]; omega) hcs_len (hcell D hDq)
      refine ⟨_, _, ι', _, _, he, f2, f1, hrun, ?_⟩
      exact .slc f3 hroom (by rw [hsh]; rw [Nat.zero_mul] at h02 ⊢; exact h02) (.inl (by rw [hsh]; simp))
    · -- a new row
      have hul : us.length = n * i.size := by rw [u1, hisz]
      have hvl : vs.length = n0 * i.size := by rw [v1, hisz0]
      have hrun := run_append_grow (P := P) w t ty e0 i z ht hi hz ⟨p0.blk, off0, none⟩ n0 cap0 vs hvl (fun j v hv => by
          rw [addr_add]
          have hj : j < vs.length := (List.getElem?_eq_some_iff.1 hv).1
          have hn00 : n0 ≠ 0 := fun e1 => by rw [hvl, e1] at hj; omega
          have hz00 : off0 = 0 := hoff0.elim id (fun hh => by omega)
          have := v2 j v hv
          rw [hsh] at this
          rw [hz00]; simpa using this) ⟨p.blk, p.sh + o * p.wd, none⟩ n cap us hul (fun j v hv => by rw [addr_add]; exact u2 j v hv) (by omega) (by omega)
        (growslice_fits (by omega) (by rw [← hby]; omega))
      have hge := grown_ge w (n0 + n) cap0 e0
      obtain ⟨hRf, hEf⟩ := hr.drew.forget b0
      obtain ⟨hR, hE⟩ := hRf.new e0 (n0 + n) cs (vs.toArray ++ us.toArray ++ Builtin.zeroCells z.cells (grownCap w (n0 + n) cap0 e0 - (n0 + n)))
        (by simp only [Array.size_append, List.size_toArray, hul, hvl, size_zeroCells, hzs, hcl, ← Nat.add_mul]; exact Nat.mul_le_mul_right _ (by omega)) hcs_len
        (hcell _ (fun q hq => by
          rw [Nat.add_mul] at hq
          rw [Array.getElem?_append_left (by simp [hul, hvl]; exact hq)]
          simp))
      have hsl : (h.set b0 Blk.dead).length = h.length := by simp
      rw [hsl] at hR hE
      refine ⟨_, _, _, _, _, he, Ext.trans (Ext.trans .drew hEf) hE, hR, hrun, ?_⟩
      exact .slc (Rep.new_emb ι h _) hge (by simp only [Array.size_append, List.size_toArray, hul, hvl, size_zeroCells, hzs, hcl, ← Nat.add_mul]; simp; exact Nat.mul_le_mul_right _ (by omega)) (.inl (by simp))
  · cases he

end Go.Am
