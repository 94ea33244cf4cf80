/- From a call's meaning over no memory to what a row asks. No condition. -/
import Derived.Test.YtpdkcpbhihaakaaDoorAmPure
import Derived.ChangeFn
namespace Go.Am

theorem keptBut_of_ext {ι ι' : Emb} {h' : Heap} {w w' : World} (E : Ext ι [] w ι' h' w') (may : MemPlace → Prop) : w.keptBut w' may := by
  refine ⟨E.os, E.output, fun i hi => ?_⟩
  have := E.keep i hi (fun b p x hb => by simp at hb)
  rw [this]
  have := (World.keptBut_refl w may).2.2 i hi
  exact this

/-- What a call from no memory that hands back a bool comes to, in a world that holds the tables. -/
theorem SemCall.calls {P : Program} {f : FuncId} {args : List AV} {b : Bool} {h' : Heap} (hs : SemCall P f args [] (.ret (.bool b)) h') {w : World} (hgl : ∀ g l, (g, l) ∈ gvT → ∃ ty fr, w.heap[g]? = some (.cells l.toArray ty fr)) {cargs : List Value} (ha : VRs (fun _ => none) args cargs) :
    Calls P f cargs.toArray w fun e w' => e = .returned (.bool b) ∧ ∀ may, w.keptBut w' may := by
  have hr : Rep (fun _ => none) [] w := ⟨⟨(fun b p h => nomatch h), (fun b ty n cols rw h => nomatch h), (fun b st pe kp τ ps asg body h => nomatch h), (fun a b p q x y _ h => nomatch h)⟩, fun g l hg => ⟨hgl g l hg, fun b p x h => nomatch h⟩⟩
  have := hs _ w cargs hr ha
  have hw : CallsIn Fence.wide 0 P f cargs.toArray w fun e w' => ∃ ι', Ext (fun _ => none) [] w ι' h' w' ∧ Rep ι' h' w' ∧ OutR ι' (.ret (.bool b)) e := this
  refine (callsIn_wide.1 (callsIn_mono hw ?_))
  rintro e w' ⟨ι', hE, _, hO⟩
  cases hO with
  | ret hv => cases hv; exact ⟨rfl, keptBut_of_ext hE⟩

theorem VR.string {ι : Emb} (s : ByteArray) : VR ι (.str s.data.toList) (.string s) := by
  have := VR.str (ι := ι) s.data.toList
  simpa using this

end Go.Am
