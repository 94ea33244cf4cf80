/- Each operation that is no call of a function, whole. No condition. -/
import Derived.Test.YtpdkcpbhihaakaaDoorAmOps4
import Derived.KernelRfl
import Derived.Laws.Externs
import Derived.Laws.MakeOwn
namespace Go.Am

theorem Run1.ofMake {P : Program} {o : Oper} {a : Act} {w w' : World} {ι ι' : Emb} {h h' : Heap} {k : AV → Heap → Fin} {r : Out × Heap} {v : AV} {u : Value} (hk : k v h' = some r) (hE : Ext ι h w ι' h' w') (hR : Rep ι' h' w')
    (hrun : (execOp a.eval o).run P w = .ok (.value u) w') (hv : VR ι' v u) : Run1 P o a w ι h k r := ⟨v, h', ι', w', hk, hE, hR, .inl ⟨u, hrun, hv⟩⟩

theorem zeroAV_cells {P : Program} {t : TypeId} {l : List AV} (h : (zeroAV P t).cells = some l) : ∃ i z, P.info? t = some i ∧ i.zero = some z ∧ zeroAV P t = ofVal z := by
  unfold zeroAV at h ⊢
  split at h
  · rename_i i hi
    split at h
    · rename_i z hz; exact ⟨i, z, hi, hz, rfl⟩
    · simp [AV.cells, AV.one] at h
  · simp [AV.cells, AV.one] at h

/-- A new block of one element. -/
theorem newMem_sound {ι : Emb} {h : Heap} {w : World} (r : Rep ι h w) (t : TypeId) {v : AV} {l : List AV} (hc : v.cells = some l) {u : Value} (hv : VR ι v u) :
    ∃ ι', Rep ι' (h ++ [newMem t l]) (w.alloc (.cells u.cells t)) ∧ Ext ι h w ι' (h ++ [newMem t l]) (w.alloc (.cells u.cells t)) ∧ VR ι' (.ptr h.length 0 0) (.pointer (some ⟨w.heap.size, 0, none⟩)) := by
  obtain ⟨h1, h2⟩ := cells_of hc hv
  have hl : u.cells.size = l.length := by simpa using h1.1.symm
  obtain ⟨hR, hE⟩ := r.new t 1 (l.map fun v => .avs [v]) u.cells (by simp [hl]) (by intro c hc; obtain ⟨x, _, rfl⟩ := List.mem_map.1 hc; rfl)
    (by
      intro i j c hi hj
      obtain rfl : i = 0 := by omega
      rw [List.getElem?_map] at hj
      cases hlj : l[j]? with
      | none => simp [hlj] at hj
      | some x =>
        simp [hlj] at hj; subst hj
        obtain ⟨y, g1, g2⟩ := h1.get hlj
        exact ⟨y, by simpa using g1, h2 y (List.mem_of_getElem? g1), g2⟩)
  refine ⟨_, hR, hE, ?_⟩
  have := VR.ptr (i := 0) (j := 0) (Rep.new_emb ι h ⟨w.heap.size, 0, (l.map fun v => Col.avs [v]).length, u.cells.size⟩)
  simpa using this

/-- A row of zeros. -/
theorem makeSlice_sound {P : Program} {ι : Emb} {h : Heap} {w : World} (r : Rep ι h w) {t e : TypeId} {l : List AV} {n : Int} (ht : P.underlying t = some (.slice e)) (hl : (zeroAV P e).cells = some l) (hs : sizeT P e = some l.length)
    (h0 : 0 ≤ n) (hb : n.toNat * P.bytesOf e ≤ maxBytes) (hn : n.toNat ≤ maxBytes) (kl kc : IntKind) :
    ∃ ι' w', (Instr.makeSlice t (.int kl n) (.int kc n)).run P w = .ok (.slice (some ⟨w.heap.size, 0, none⟩) n.toNat n.toNat) w' ∧ Rep ι' (h ++ [.mem e n.toNat (l.map fun v => colOf (List.replicate n.toNat v)) true]) w' ∧
      Ext ι h w ι' (h ++ [.mem e n.toNat (l.map fun v => colOf (List.replicate n.toNat v)) true]) w' ∧ VR ι' (.slc h.length 0 n.toNat) (.slice (some ⟨w.heap.size, 0, none⟩) n.toNat n.toNat) := by
  obtain ⟨i, z, hi, hz, hzz⟩ := zeroAV_cells hl
  rw [hzz] at hl
  obtain ⟨h1, h2⟩ := cells_of hl (ofVal_VR (ι := ι) z)
  have hzs : z.cells.size = l.length := by simpa using h1.1.symm
  have his : i.size = l.length := by unfold sizeT at hs; simpa [hi] using hs
  have hby : P.bytesOf e = i.bytes := by simp [Program.bytesOf, hi]
  have hmb : maxBytes = 1099511627776 := rfl
  have hcast : ((n.toNat : Nat) : Int) = n := Int.toNat_of_nonneg h0
  have hbI : (i.bytes : Int) * n ≤ 281474976710656 := by
    rw [← hcast, ← Int.natCast_mul, Nat.mul_comm, ← hby]; omega
  have hrun := run_make w t e i z ht hi hz kl kc n n h0 (Int.le_refl _) hbI (by omega)
  have hsz : (madeCells z.cells (n.toNat * i.size)).size = n.toNat * l.length := by rw [size_madeCells, his]
  have hget : ∀ q j, q < n.toNat → j < l.length → (madeCells z.cells (n.toNat * i.size))[q * l.length + j]? = z.cells[j]? := by
    intro q j hq hj
    have hin : q * l.length + j < n.toNat * l.length := by
      have : (q + 1) * l.length ≤ n.toNat * l.length := Nat.mul_le_mul_right _ hq
      rw [Nat.add_mul, Nat.one_mul] at this; omega
    have e1 : (q * l.length + j) % z.cells.size = j := by rw [hzs, Nat.mul_comm, Nat.mul_add_mod, Nat.mod_eq_of_lt hj]
    have hj' : j < z.cells.size := by rw [hzs]; exact hj
    rw [his]
    simp only [madeCells, Array.getElem?_map, Array.getElem?_range, hin, if_true, Option.map_some, e1]
    rw [getElem!_pos z.cells j hj', Array.getElem?_eq_getElem hj']
  obtain ⟨hR, hE⟩ := r.new e n.toNat (l.map fun v => colOf (List.replicate n.toNat v)) (madeCells z.cells (n.toNat * i.size)) (by rw [hsz, List.length_map]; exact Nat.le_refl _)
    (by intro c hc; obtain ⟨x, _, rfl⟩ := List.mem_map.1 hc; rw [(colOf_spec _).1]; simp)
    (by
      intro q j c hq hj
      rw [List.length_map]
      rw [List.getElem?_map] at hj
      cases hlj : l[j]? with
      | none => simp [hlj] at hj
      | some x =>
        simp [hlj] at hj; subst hj
        obtain ⟨y, g1, g2⟩ := h1.get hlj
        have hjl : j < l.length := (List.getElem?_eq_some_iff.1 hlj).1
        refine ⟨y, by rw [hget q j hq hjl]; simpa using g1, h2 y (List.mem_of_getElem? g1), ?_⟩
        rw [(colOf_spec _).2 q (by simpa using hq)]
        simpa [List.getD, hq] using g2)
  refine ⟨_, _, hrun, hR, hE, ?_⟩
  exact .slc (Rep.new_emb ι h _) (Nat.le_refl _) (by simp [hsz]) (.inl (by simp))

theorem agg_inv {ι : Emb} {l : List AV} {u : Value} (h : VR ι (.agg l) u) : ∃ vs, u = .agg ⟨vs⟩ ∧ VRs ι l vs := by
  cases h with
  | agg e h => exact ⟨_, rfl, e, h⟩
theorem tup_inv {ι : Emb} {l : List AV} {u : Value} (h : VR ι (.tup l) u) : ∃ vs, u = .tuple ⟨vs⟩ ∧ VRs ι l vs := by
  cases h with
  | tup e h => exact ⟨_, rfl, e, h⟩
theorem str_inv {ι : Emb} {l : List UInt8} {u : Value} (h : VR ι (.str l) u) : u = .string ⟨l.toArray⟩ := by cases h; rfl
theorem int_inv {ι : Emb} {k : IntKind} {n : Int} {u : Value} (h : VR ι (.int k n) u) : u = .int k n := by cases h; rfl
theorem bool_inv {ι : Emb} {b : Bool} {u : Value} (h : VR ι (.bool b) u) : u = .bool b := by cases h; rfl

theorem extract_str (s : List UInt8) (a b : Nat) : (⟨s.toArray⟩ : ByteArray).extract a b = ⟨((s.drop a).take (b - a)).toArray⟩ := by
  have := Lib.extract_data ⟨s.toArray⟩ a b
  generalize (⟨s.toArray⟩ : ByteArray).extract a b = x at this ⊢
  obtain ⟨d⟩ := x
  simp at this
  rw [← this]

theorem append_str (a b : List UInt8) : (⟨a.toArray⟩ : ByteArray) ++ ⟨b.toArray⟩ = ⟨(a ++ b).toArray⟩ := by
  have : ((⟨a.toArray⟩ : ByteArray) ++ ⟨b.toArray⟩).data = (a ++ b).toArray := by
    rw [ByteArray.data_append]; simp
  generalize (⟨a.toArray⟩ : ByteArray) ++ ⟨b.toArray⟩ = x at this ⊢
  obtain ⟨d⟩ := x
  simp at this ⊢
  exact this

theorem get_str (s : List UInt8) (i : Nat) : (⟨s.toArray⟩ : ByteArray)[i]? = s[i]? := by
  by_cases h : i < s.length
  · rw [List.getElem?_eq_getElem h, getElem?_pos (⟨s.toArray⟩ : ByteArray) i (by rw [str_size]; exact h)]; rfl
  · rw [List.getElem?_eq_none (by omega), getElem?_neg (⟨s.toArray⟩ : ByteArray) i (by rw [str_size]; exact h)]

theorem places_run {P : Program} : ∀ {fs : List Field} {pl : List (Nat × Nat)}, placesOf P fs = some pl → ∀ w, (fs.toArray.mapM fun f => do pure (f.offset, ← sizeOf f.type) : Sem (Array (Nat × Nat))).run P w = .ok pl.toArray w := by
  intro fs pl h w
  rw [Array.mapM_eq_mapM_toList]
  have key : ∀ {fs : List Field} {pl : List (Nat × Nat)}, placesOf P fs = some pl → (fs.mapM fun f => do pure (f.offset, ← sizeOf f.type) : Sem (List (Nat × Nat))).run P w = .ok pl w := by
    intro fs
    induction fs with
    | nil => intro pl h; simp [placesOf] at h; subst h; rfl
    | cons f fs ih =>
      intro pl h
      simp only [placesOf] at h
      split at h
      · rename_i s ps hs hps
        cases h
        rw [List.mapM_cons]
        simp only [Sem.run_bind, size_run hs w, Result.andThen_ok, ih hps, Sem.run_pure]
      · cases h
  simp only [Sem.run_map, key h, Result.andThen_ok]

set_option maxRecDepth 100000 in
theorem find_indexByteString {fn : Func} (hn : fn.name = "internal/bytealg.IndexByteString") (ho : fn.origin = "") : Extern.findNext fn = none ∧ Extern.find fn = some Extern.BytealgIndexByte.indexByte := by
  obtain ⟨name, origin, params, resultTypes, nfree, ntmps, results, body, norace, file⟩ := fn
  simp only at hn ho
  subst hn; subst ho
  exact ⟨by kernel_rfl, by kernel_rfl⟩

theorem externOf_sound {P : Program} {g : FuncId} {args : List AV} {v : AV} (h : externOf P g args = some v) {ι : Emb} {us : List Value} (ha : VRs ι args us) (w : World) : ∃ u, (callFunc g us.toArray).run P w = .ok (.value u) w ∧ VR ι v u := by
  unfold externOf at h
  split at h
  · rename_i fn hf
    split at h
    · rename_i hc
      unfold externAV at h
      split at h
      · rename_i s c
        split at h
        · rename_i hn
          cases h
          obtain ⟨u, us', rfl, hx, hus⟩ := ha.cons_inv
          obtain ⟨u2, us2, rfl, hy, hus2⟩ := hus.cons_inv
          have e := hus2.nil_inv
          subst e
          have hx := str_inv hx
          have hy := int_inv hy
          subst hx; subst hy
          obtain ⟨h1, h2⟩ := find_indexByteString hn hc.2
          refine ⟨_, ?_, .int _ _⟩
          rw [run_callFunc_extern hf (by rw [hn]; decide) hc.1 h1 h2]
          have := Lib.run_indexByteString (P := P) ⟨s.toArray⟩ c w
          simp only [] at this ⊢
          rw [this]
          rfl
        · cases h
      · cases h
    · cases h
  · cases h

theorem evOp_sound {P : Program} {o : Oper} {τ : List AV} {h : Heap} {k : AV → Heap → Fin} {r : Out × Heap} (he : evOp P o τ h k = some r) {ι : Emb} {w : World} {a : Act} (hr : Rep ι h w) (ht : VRs ι τ a.tmps.toList) : Run1 P o a w ι h k r := by
  obtain ⟨dst, op, ty, pos, after, guard⟩ := o
  have R := fun x => rd_VR ht x
  unfold evOp at he
  cases op <;> simp only at he <;> try (cases he; done)
  case move x => exact .pure hr he rfl (R x)
  case assign x => exact .pure hr he rfl (R x)
  case pick c x y =>
    split at he
    · rename_i b hb
      have hc := R c; rw [hb] at hc; have hc := bool_inv hc
      cases b
      · exact .pure hr he (by simp [execOp, hc, asBool]) (R y)
      · exact .pure hr he (by simp [execOp, hc, asBool]) (R x)
    · cases he
  case binOp op t x y yt =>
    split at he
    · rename_i s s' hx hy
      have h1 := R x; rw [hx] at h1; have h1 := str_inv h1
      have h2 := R y; rw [hy] at h2; have h2 := str_inv h2
      unfold cat at he
      obtain ⟨hd, he⟩ := bif_some he
      simp only [decide_eq_true_eq] at hd
      refine .pure hr he (u := .string ⟨(s ++ s').toArray⟩) ?_ (.str _)
      have hmax : IntKind.i64.max = 9223372036854775807 := by decide
      have : ¬ (IntKind.i64.max < (((⟨s.toArray⟩ : ByteArray).size + (⟨s'.toArray⟩ : ByteArray).size : Nat) : Int)) := by rw [str_size, str_size, hmax]; omega
      have hgd : (eqGuard .add t x y (.string ⟨s.toArray⟩) (.string ⟨s'.toArray⟩)).run P w = .ok () w := by simp [eqGuard]
      simp only [execOp, h1, h2, Sem.run_bind, hgd, Result.andThen_ok, binOp, Op.stringOp, this, GT.gt, if_false, append_str, Sem.run_pure]
    · rename_i l m hx hy
      obtain ⟨v, hv, he⟩ := kbind_some he
      have h1 := R x; rw [hx] at h1
      have h2 := R y; rw [hy] at h2
      obtain ⟨xs, e1, e2⟩ := agg_inv h1
      obtain ⟨ys, e3, e4⟩ := agg_inv h2
      obtain ⟨u, h1, h2⟩ := structEq_sound hv e2 e4 x y w
      exact .pure hr he (by simp only [execOp, e1, e3, Sem.run_bind] at h1 ⊢; rw [h1]; rfl) h2
    · rename_i op _ _ _ hx hy
      split at he
      case isFalse => cases he
      rename_i hcst
      obtain ⟨v, hv, he⟩ := kbind_some he
      have h1 := R x; rw [hx] at h1
      have h2 := R y; rw [hy] at h2
      generalize hxv : a.eval x = xv at h1
      generalize hyv : a.eval y = yv at h2
      cases h1; cases h2
      obtain ⟨d, hu, hk, hv⟩ := nilEq_inv hv
      have hgd : (eqGuard op t x y .nilIface .nilIface).run P w = .ok () w := by
        unfold eqGuard
        cases op <;> first
          | rfl
          | (cases x <;> first
              | rfl
              | (cases y <;> first
                  | rfl
                  | (simp [isConst] at hcst)))
      obtain ⟨u, h1, h2⟩ := binOp_eq (x := .nilIface) (y := .nilIface) (r := true) (ι := ι) (equalIn_lift fun n => by
          cases d <;> first
            | (rw [Op.equalIn, Sem.run_bind, run_under hu]; rfl)
            | cases hk) op x y v hv hgd (fun o ho => by rcases ho with rfl | rfl <;> rfl)
      exact .pure hr he (by simp only [execOp, hxv, hyv, Sem.run_bind] at h1 ⊢; rw [h1]; rfl) h2
    · rename_i _ _ hnot
      obtain ⟨v, hv, he⟩ := kbind_some he
      obtain ⟨u, h1, h2⟩ := bin_sound hv (R x) (R y) (fun s s' hh => hnot s s' hh.1 hh.2.1 hh.2.2) x y w
      exact .pure hr he (by simp only [execOp, Sem.run_bind] at h1 ⊢; rw [h1]; rfl) h2
  case unOp op t x =>
    obtain ⟨v, hv, he⟩ := kbind_some he
    obtain ⟨u, h1, h2⟩ := un_sound hv (R x) P w
    exact .pure hr he (by simp [execOp, h1]) h2
  case extract x i =>
    split at he
    · rename_i l hx
      obtain ⟨v, hv, he⟩ := kbind_some he
      have h1 := R x; rw [hx] at h1
      obtain ⟨vs, h2, h3⟩ := tup_inv h1
      obtain ⟨u, h4, h5⟩ := h3.get hv
      exact .pure hr he (by simp [execOp, h2, Instr.extract, h4]) h5
    · cases he
  case field t x f =>
    split at he
    · rename_i fs l hu hx
      split at he
      · rename_i fd hf
        obtain ⟨v, hv, he⟩ := kbind_some he
        have h1 := R x; rw [hx] at h1
        obtain ⟨vs, h2, h3⟩ := agg_inv h1
        obtain ⟨u, h4, h5⟩ := part_sound hv h3 w
        exact .pure hr he (by simp [execOp, Instr.field, Sem.run_bind, run_under hu, hf, h2, asAgg, h4]) h5
      · cases he
    · cases he
  case index t x ix =>
    split at he
    · rename_i s kk n hu hx hi
      obtain ⟨hd, he⟩ := bif_some he
      simp only [decide_eq_true_eq] at hd
      have h1 := R x; rw [hx] at h1; have h1 := str_inv h1
      have h2 := R ix; rw [hi] at h2; have h2 := int_inv h2
      have hlt : n.toNat < s.length := by omega
      refine .pure hr he (u := .int .u8 ((s.getD n.toNat 0).toNat : Int)) ?_ (.int _ _)
      have e1 : s.getD n.toNat 0 = s[n.toNat] := by simp [List.getD, hlt]
      simp [execOp, Instr.index, h1, h2, asIntOf, Sem.run_bind, run_under hu, hd.1, get_str, hlt]
    · cases he
  case convert s d x =>
    split at he
    · rename_i k1 kd k2 n hs hd hx
      have h1 := R x; rw [hx] at h1; have h1 := int_inv h1
      exact .pure hr he (by simp [execOp, h1, convert, Sem.run_bind, run_under hs, run_under hd, Conv.intToInt]) (.int _ _)
    · rename_i l hs hd hx
      have h1 := R x; rw [hx] at h1; have h1 := str_inv h1
      exact .pure hr he (by simp [execOp, h1, convert, Sem.run_bind, run_under hs, run_under hd]) (.str _)
    · cases he
  case typeAssert x xt t ok =>
    split at he
    · cases he
    · rename_i d t' v hni hu hx
      split at he
      · rename_i ht'
        subst ht'
        have h1 := R x; rw [hx] at h1
        generalize hxv : a.eval x = xv at h1
        cases h1
        rename_i u hu2
        cases ok
        · refine .pure hr he (u := u) ?_ hu2
          simp only [execOp, hxv, Instr.typeAssert, Sem.run_bind, run_under hu, Result.andThen_ok]
          cases d <;> first
            | (simp; done)
            | exact absurd rfl (hni _ _)
        · refine .pure hr he (u := .tuple #[u, .bool true]) ?_ (.tup (vs := [u, .bool true]) rfl (VRs.cons hu2 (.cons (.bool true) .nil)).2)
          simp only [execOp, hxv, Instr.typeAssert, Sem.run_bind, run_under hu, Result.andThen_ok]
          cases d <;> first
            | (simp; done)
            | exact absurd rfl (hni _ _)
      · cases he
    · cases he
  case makeInterface t x =>
    split at he
    · cases he
    · rename_i d hn hu
      refine .pure hr he (u := .iface t (a.eval x)) ?_ (.ifc _ (R x))
      simp only [execOp, Instr.makeInterface, Sem.run_bind, run_under hu, Result.andThen_ok]
      cases d <;> first | rfl | exact absurd rfl (hn _)
    · cases he
  case makeFunc f first cap =>
    refine .pure hr he (u := .func f ⟨first.toList.map a.eval⟩ ⟨cap.toList.map a.eval⟩) ?_ ?_
    · simp [execOp, Instr.makeFunc]
      constructor <;> (apply Array.ext'; simp)
    · have h1 := VRs.rdmap ht first.toList
      have h2 := VRs.rdmap ht cap.toList
      exact .fn f h1.1 h2.1 h1.2 h2.2
  case build t parts =>
    split at he
    · rename_i fs z hu hz
      split at he
      case h_2 => cases he
      rename_i pl hpl0
      split at he
      · rename_i l hl
        have hz' : ∃ i zv, P.info? t = some i ∧ i.zero = some zv ∧ zeroAV P t = ofVal zv := by
          unfold zeroAV at hz ⊢
          split at hz
          · rename_i i hi
            split at hz
            · rename_i zv hzv; exact ⟨i, zv, hi, hzv, rfl⟩
            · cases hz
          · cases hz
        obtain ⟨i, zv, hi, hzv, hz2⟩ := hz'
        have hzr : VR ι (.agg z) zv := by rw [← hz, hz2]; exact ofVal_VR zv
        obtain ⟨zs, rfl, hzs⟩ := agg_inv hzr
        obtain ⟨C, hC1, hC2⟩ := fill_sound _ _ (parts.toList.map fun p => (p.1, a.eval p.2)) _ _ ⟨zs⟩ hl hzs (by simp) (fun q x y hx hy => by
          rw [List.getElem?_map] at hx hy
          cases hq : parts.toList[q]? with
          | none => simp [hq] at hx
          | some p => simp [hq] at hx hy; subst hx; subst hy; exact ⟨rfl, R _⟩)
        refine .pure hr he (u := .agg C) ?_ (.agg (vs := C.toList) hC2.1 hC2.2)
        have hpl := places_run hpl0 w
        simp only [execOp, Instr.build, Sem.run_bind, zeroValue, typeInfo, program, Sem.run, Result.andThen_ok, hi, hzv, Sem.run_pure, run_under hu, hpl, Value.cells]
        have e1 : (fun x : Nat => (pl.toArray)[x]?) = fun x : Nat => pl[x]? := by funext x; simp
        have e2 : (parts.map fun x => (x.1, a.eval x.2)).toList = parts.toList.map fun p => (p.1, a.eval p.2) := by simp
        rw [e1, e2, hC1]
        rfl
      · cases he
    · cases he
  case buildSlice t len parts =>
    split at he
    · rename_i e hu
      split at he
      · rename_i rows hrows
        split at he
        · rename_i s hs
          split at he
          · rename_i hc
            obtain ⟨c1, c2, c3, c4, c5, c6⟩ := hc
            obtain ⟨i, z, hi, hz, _⟩ := zeroOK_inv c6
            obtain ⟨u, ι', w', h1, h2, h3, h4⟩ := buildSlice_sound hr (parts' := parts.toList.map fun p => (p.1, a.eval p.2)) hu hs hrows c1 (fun x hx => by have := List.all_eq_true.1 c2 x hx; simpa using this) c3 c4 c5 (by simp) (fun q x y hx hy => by
              rw [List.getElem?_map] at hx hy
              cases hq : parts.toList[q]? with
              | none => simp [hq] at hx
              | some p => simp [hq] at hx hy; subst hx; subst hy; exact ⟨rfl, R _⟩) ⟨i, z, hi, hz⟩
            have e2 : (parts.map fun x => (x.1, a.eval x.2)) = (parts.toList.map fun p => (p.1, a.eval p.2)).toArray := by apply Array.ext'; simp
            exact .ofMake he h3 h2 (by simp only [execOp, e2, Sem.run_bind, h1]; rfl) h4
          · cases he
        · cases he
      · cases he
    · cases he
  case makeSlice t n c =>
    split at he
    · rename_i e kl n1 kc c1 hu hn hc
      split at he
      · rename_i l hl
        split at he
        · rename_i hcond
          obtain ⟨hd, he⟩ := bif_some he
          simp only [decide_eq_true_eq] at hd
          obtain ⟨d1, d2, d3, d4⟩ := hd
          have h1 := R n; rw [hn] at h1; have h1 := int_inv h1
          have h2 := R c; rw [hc, ← d2] at h2; have h2 := int_inv h2
          obtain ⟨ι', w', g1, g2, g3, g4⟩ := makeSlice_sound hr hu hl hcond.1 d1 d3 d4 kl kc
          exact .ofMake he g3 g2 (by simp only [execOp, h1, h2, Sem.run_bind, g1]; rfl) g4
        · cases he
      · cases he
    · cases he
  case alloc t =>
    split at he
    · rename_i l hl
      obtain ⟨i, z, hi, hz, hzz⟩ := zeroAV_cells hl
      rw [hzz] at hl
      obtain ⟨ι', h1, h2, h3⟩ := newMem_sound hr t hl (ofVal_VR z)
      exact .ofMake he h2 h1 (by simp [execOp, Instr.alloc, Sem.run_bind, zeroValue, typeInfo, hi, hz, newVar, newRow]) h3
    · cases he
  case box t x =>
    split at he
    · rename_i l hl
      obtain ⟨ι', h1, h2, h3⟩ := newMem_sound hr t hl (R x)
      exact .ofMake he h2 h1 (by simp [execOp, Instr.box, newVar, newRow]) h3
    · cases he
  case nilCheck x =>
    have h1 := R x
    split at he
    · rename_i b i j hx
      rw [hx] at h1
      have h2 := h1
      obtain ⟨p, _, hu⟩ := h1.ptr_inv
      rw [hu] at h2
      exact .pure hr he (by simp [execOp, hu]) h2
    · rename_i g j hx
      rw [hx] at h1
      generalize hu : a.eval x = u at h1
      have h2 := h1
      cases h1
      exact .pure hr he (by simp [execOp, hu]) h2
    · rename_i t v hx
      rw [hx] at h1
      generalize hu : a.eval x = u at h1
      have h2 := h1
      cases h1
      exact .pure hr he (by simp [execOp, hu]) h2
    · rename_i f l1 l2 hx
      rw [hx] at h1
      generalize hu : a.eval x = u at h1
      have h2 := h1
      cases h1
      exact .pure hr he (by simp [execOp, hu]) h2
    · cases he
  case load t x =>
    have h1 := R x
    split at he
    · rename_i b i j hx
      rw [hx] at h1
      obtain ⟨p, hp, hu⟩ := h1.ptr_inv
      obtain ⟨v, hv, he⟩ := kbind_some he
      obtain ⟨u, h2, h3⟩ := load_sound hr hv hp
      exact .pure hr he (by simp only [execOp, hu, Instr.loadAt, Instr.sureAddr, Sem.run_bind, Sem.run_pure, Result.andThen_ok, h2]) h3
    · rename_i g j hx
      rw [hx] at h1
      generalize hu : a.eval x = pv at h1
      cases h1
      obtain ⟨v, hv, he⟩ := kbind_some he
      obtain ⟨u, h2, h3⟩ := loadG_sound hr hv
      exact .pure hr he (by simp only [execOp, hu, Instr.loadAt, Instr.sureAddr, Sem.run_bind, Sem.run_pure, Result.andThen_ok, h2]) h3
    · cases he
  case store t x v =>
    have h1 := R x
    split at he
    · rename_i b i j hx
      rw [hx] at h1
      obtain ⟨p, hp, hu⟩ := h1.ptr_inv
      split at he
      · rename_i h' hs
        obtain ⟨w', h2, h3, h4⟩ := store_sound hr hs hp (R v)
        refine ⟨.undef, h', ι, w', he, h4, h3, .inr ⟨?_, rfl⟩⟩
        simp only [execOp, hu, Instr.storeAt, Instr.sureAddr, Sem.run_bind, Sem.run_pure, Result.andThen_ok, h2]
      · cases he
    · cases he
  case fieldAddr t x f =>
    have h1 := R x
    split at he
    · rename_i fs b i j hu hx
      rw [hx] at h1
      obtain ⟨p, hp, hv⟩ := h1.ptr_inv
      split at he
      · rename_i fd hf
        split at he
        · rename_i n hn
          refine .pure hr he (u := .pointer (some ⟨p.blk, p.sh + i * p.wd + j + fd.offset, none⟩)) ?_ ?_
          · simp [execOp, Instr.fieldAt, Instr.sureAddr, Sem.run_bind, run_under hu, hf, hv, fieldPlace, size_run hn w, addr_add]
          · have := VR.ptr (i := i) (j := j + fd.offset) hp
            rwa [show p.sh + i * p.wd + (j + fd.offset) = p.sh + i * p.wd + j + fd.offset by omega] at this
        · cases he
      · cases he
    · cases he
  case indexAddr t x ix =>
    have h1 := R x
    have h2 := R ix
    split at he
    · rename_i e b o n kk i hu hx hi
      rw [hx] at h1; rw [hi] at h2
      have h2 := int_inv h2
      obtain ⟨p, off', cap, hp, g1, g2, g3, hv⟩ := h1.slc_inv
      split at he
      · rename_i ty' m cols rw' hb
        split at he
        · rename_i hsz
          obtain ⟨hd, he⟩ := bif_some he
          simp only [decide_eq_true_eq] at hd
          obtain ⟨q, C, fr, f1, f2, f3, f4, f5⟩ := hr.mem b ty' m cols rw' hb
          rw [hp] at f1; cases f1
          have hoff : off' = p.sh + o * p.wd := g3.elim id (fun hh => by omega)
          refine .pure hr he (u := .pointer (some ⟨p.blk, off' + i.toNat * cols.length, none⟩)) ?_ ?_
          · simp [execOp, Instr.indexAt, asIntOf, Sem.run_bind, run_under hu, hv, h2, hd.1, hd.2, size_run hsz w, addr_add]
          · have := VR.ptr (i := o + i.toNat) (j := 0) hp
            rw [hoff, ← f4]
            rwa [show p.sh + (o + i.toNat) * p.wd + 0 = p.sh + o * p.wd + i.toNat * p.wd by rw [Nat.add_mul]; omega] at this
        · cases he
      · cases he
    · rename_i len e g j kk i hu hx hi
      rw [hx] at h1; rw [hi] at h2
      have h2 := int_inv h2
      generalize hpv : a.eval x = pv at h1
      cases h1
      split at he
      · rename_i s hsz
        obtain ⟨hd, he⟩ := bif_some he
        simp only [decide_eq_true_eq] at hd
        refine .pure hr he (u := .pointer (some ⟨g, j + i.toNat * s, none⟩)) ?_ (.gp _ _)
        simp [execOp, Instr.indexAt, Instr.sureAddr, asIntOf, Sem.run_bind, run_under hu, hpv, h2, hd.1, hd.2, size_run hsz w, addr_add]
      · cases he
    · rename_i len e b i0 j kk i hu hx hi
      rw [hx] at h1; rw [hi] at h2
      have h2 := int_inv h2
      obtain ⟨p, hp, hv⟩ := h1.ptr_inv
      split at he
      · rename_i s hsz
        obtain ⟨hd, he⟩ := bif_some he
        simp only [decide_eq_true_eq] at hd
        refine .pure hr he (u := .pointer (some ⟨p.blk, p.sh + i0 * p.wd + j + i.toNat * s, none⟩)) ?_ ?_
        · simp [execOp, Instr.indexAt, Instr.sureAddr, asIntOf, Sem.run_bind, run_under hu, hv, h2, hd.1, hd.2, size_run hsz w, addr_add]
        · have := VR.ptr (i := i0) (j := j + i.toNat * s) hp
          rwa [show p.sh + i0 * p.wd + (j + i.toNat * s) = p.sh + i0 * p.wd + j + i.toNat * s by omega] at this
      · cases he
    · cases he
  case slice t x lo hi mx =>
    cases mx with
    | some m => cases he
    | none =>
      simp only at he
      have h1 := R x
      split at he
      · rename_i s hu hx
        rw [hx] at h1; have h1 := str_inv h1
        split at he
        · rename_i x1 y1 hlo hhi
          obtain ⟨hd, he⟩ := bif_some he
          simp only [decide_eq_true_eq] at hd
          refine .pure hr he (u := .string ⟨((s.drop x1.toNat).take (y1.toNat - x1.toNat)).toArray⟩) ?_ (.str _)
          have hb := sliceBounds_ok (P := P) (w := w) ht (cap := s.length) false hlo hhi hd.1 hd.2.1 hd.2.2 (Nat.le_refl _)
          simp [execOp, Instr.sliceAt, Instr.slice, Sem.run_bind, run_under hu, h1, str_size, hb, extract_str]
        · cases he
      · rename_i e b o n hu hx
        rw [hx] at h1
        obtain ⟨p, off', cap, hp, g1, g2, g3, hv⟩ := h1.slc_inv
        split at he
        · rename_i x1 y1 ty' m cols rw' hlo hhi hb
          split at he
          · rename_i hsz
            obtain ⟨hd, he⟩ := bif_some he
            simp only [decide_eq_true_eq] at hd
            obtain ⟨d1, d2, d3⟩ := hd
            obtain ⟨q, C, fr, f1, f2, f3, f4, f5⟩ := hr.mem b ty' m cols rw' hb
            rw [hp] at f1; cases f1
            have hbd := sliceBounds_ok (P := P) (w := w) ht (cap := cap) true hlo hhi d1 d2 d3 g1
            refine .pure hr he (u := .slice (some (if cap = x1.toNat then ⟨p.blk, off', none⟩ else ⟨p.blk, off' + x1.toNat * cols.length, none⟩)) (y1.toNat - x1.toNat) (cap - x1.toNat)) ?_ ?_
            · simp [execOp, Instr.sliceAt, Instr.slice, Sem.run_bind, run_under hu, hv, hbd, size_run hsz w, addr_add]
              split <;> rfl
            · have hxc : x1.toNat ≤ cap := by omega
              have e1 : (o + x1.toNat) * p.wd + (cap - x1.toNat) * p.wd = o * p.wd + cap * p.wd := by rw [← Nat.add_mul, ← Nat.add_mul]; congr 1; omega
              by_cases hc : cap = x1.toNat
              · rw [if_pos hc]
                exact .slc hp (by omega) (by omega) (.inr (by omega))
              · rw [if_neg hc]
                have hoff : off' = p.sh + o * p.wd := g3.elim id (fun hh => by omega)
                refine .slc hp (by omega) (by omega) (.inl ?_)
                rw [hoff, ← f4, Nat.add_mul]; omega
          · cases he
        · cases he
      · cases he
  case call c =>
    obtain ⟨cal, args, tys⟩ := c
    simp only at he
    have hargs := VRs.rdmap ht args.toList
    have hae : args.map a.eval = ⟨args.toList.map a.eval⟩ := by apply Array.ext'; simp
    generalize hcs : (args.map fun | .const _ => true | _ => false) = consts
    split at he
    · -- len
      rename_i x t hl htl
      rw [hl] at hargs
      obtain ⟨u, us, e1, hx, hus⟩ := hargs.cons_inv
      have e2 := hus.nil_inv
      subst e2
      have hty : tys = #[t] := by apply Array.ext'; simpa using htl
      split at he
      · rename_i s hu
        have hx := str_inv hx
        refine .pure hr he (u := .int .i64 s.length) ?_ (.int _ _)
        simp [execOp, resolve, invoke, builtin, hae, e1, hx, hty, Builtin.len_, Sem.run_bind, run_under hu, goInt, str_size]
      · rename_i e b o n hu
        obtain ⟨p, off', cap, _, _, _, _, hv⟩ := hx.slc_inv
        refine .pure hr he (u := .int .i64 n) ?_ (.int _ _)
        simp [execOp, resolve, invoke, builtin, hae, e1, hv, hty, Builtin.len_, Sem.run_bind, run_under hu, goInt]
      · rename_i e hu
        cases hx
        refine .pure hr he (u := .int .i64 0) ?_ (.int _ _)
        simp [execOp, resolve, invoke, builtin, hae, e1, hty, Builtin.len_, Sem.run_bind, run_under hu, goInt]
      · cases he
    · -- min
      rename_i ka n kb m hl
      rw [hl] at hargs
      obtain ⟨u, us, e1, hx, hus⟩ := hargs.cons_inv
      obtain ⟨u2, us2, e2, hy, hus2⟩ := hus.cons_inv
      have e3 := hus2.nil_inv
      subst e3; subst e2
      have hx := int_inv hx
      have hy := int_inv hy
      refine .pure hr he (u := .int ka (if m < n then m else n)) ?_ (.int _ _)
      simp [execOp, resolve, invoke, builtin, hae, e1, hx, hy, Builtin.min_, Builtin.min2]
    · -- max
      rename_i ka n kb m hl
      rw [hl] at hargs
      obtain ⟨u, us, e1, hx, hus⟩ := hargs.cons_inv
      obtain ⟨u2, us2, e2, hy, hus2⟩ := hus.cons_inv
      have e3 := hus2.nil_inv
      subst e3; subst e2
      have hx := int_inv hx
      have hy := int_inv hy
      refine .pure hr he (u := .int ka (if m > n then m else n)) ?_ (.int _ _)
      simp [execOp, resolve, invoke, builtin, hae, e1, hx, hy, Builtin.max_, Builtin.max2]
    · -- append
      rename_i s x t t' hl htl
      split at he
      case isFalse => cases he
      rename_i htt
      subst htt
      rw [hl] at hargs
      obtain ⟨u, us, e1, hx, hus⟩ := hargs.cons_inv
      obtain ⟨u2, us2, e2, hy, hus2⟩ := hus.cons_inv
      have e3 := hus2.nil_inv
      subst e3; subst e2
      have hty : tys = #[t, t] := by apply Array.ext'; simpa using htl
      obtain ⟨v, h', ι', w', uu, h1, h2, h3, h4, h5⟩ := append_sound (ty := ty) hr he hx hy
      refine .ofMake h1 h2 h3 ?_ h5
      simp [execOp, resolve, invoke, builtin, hae, e1, hty, h4]
    · -- a function without a body
      rename_i f
      split at he
      · rename_i g hrd
        obtain ⟨v, hv, he⟩ := kbind_some he
        have hfv := R f
        rw [hrd] at hfv
        generalize hfo : a.eval f = fv at hfv
        cases hfv
        rename_i v1 v2 e1 g1 e2 g2
        have hv1 : v1 = [] := List.eq_nil_of_length_eq_zero (by simpa using e1.symm)
        have hv2 : v2 = [] := List.eq_nil_of_length_eq_zero (by simpa using e2.symm)
        subst hv1; subst hv2
        obtain ⟨u, h1, h2⟩ := externOf_sound hv hargs w
        refine .pure hr he (u := u) ?_ h2
        have harr : (⟨[]⟩ : Array Value) ++ args.map a.eval ++ (⟨[]⟩ : Array Value) = (args.toList.map a.eval).toArray := by apply Array.ext'; simp
        simp only [execOp, resolve, hfo, Deferred.ofValue, Sem.run_bind, Sem.run_pure, Result.andThen_ok, invoke, harr, h1]
      · cases he
    · cases he

end Go.Am
