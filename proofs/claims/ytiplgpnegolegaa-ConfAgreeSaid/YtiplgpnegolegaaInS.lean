/- slices.Insert of one element into one or two, at any place. No conditions. -/
import Derived.Test.YtiplgpnegolegaaInT
import Derived.Test.YtiplgpnegolegaaEvD
set_option linter.unusedVariables false
set_option linter.unusedSimpArgs false
namespace Go.Ev
open Go Go.Proofs Go.Spec
attribute [local irreducible] ev evCall branch need again
theorem ovl_fn : OvlFn Try.prog 45 := ⟨Go.Proofs.Try.f45, 23, 4, 22, 1, by kernel_rfl, by kernel_rfl, by kernel_rfl, by kernel_rfl, by kernel_rfl, by kernel_rfl, by kernel_rfl⟩
theorem cxIn_ok : CxOk Try.prog cxIn := CxOk.withOvl (mkCx_ok (live := []) (wr := [(45, 1)]) (by kernel_rfl) (by kernel_rfl) (by simp)) fun g h => by
  have := Nat.eq_of_beq_eq_true h
  subst this
  exact ovl_fn
theorem sIns_lin (args : List SA) (st : St) : Lin (sIns args st) := by
  intro k h
  unfold sIns at h ⊢
  split at h
  · exact (Lin.need (Lin.ret _ _)) k h
  · exact h.elim
theorem ins10 (a x : Int) {K : SV → St → Prop} (hK : K (.sa (.one (.ref 2))) [none, some (.mem true .whole 22 1 (.lst [[.raw (.int .u32 x)]])), some (.own true .row 22 1 (.ints .u32 [x, a]))])
    {α : Al} {w : World} {vals : List Value} (hR : R α [some (.own true .row 22 1 (.ints .u32 [a])), some (.mem true .whole 22 1 (.lst [[.raw (.int .u32 x)]]))] w) (ha : RepsA α [.one (.ref 0), .one (.raw (.int .i64 0)), .one (.sl 1 0 1 none)] vals) :
    CallsIn Fence.wide 0 Try.prog 31 vals.toArray w (CallPost α [some (.own true .row 22 1 (.ints .u32 [a])), some (.mem true .whole 22 1 (.lst [[.raw (.int .u32 x)]]))] w K) := by
  refine insert_ok cxIn_ok (xs := [a]) (by simp) (by simp) (fun c v K hc h => ⟨60, ?_⟩) (fun K h => ⟨60, ?_⟩) hK hR ha
  · obtain ⟨m, rfl⟩ : ∃ m, c = m + 2 := ⟨c - 2, by simp at hc; omega⟩
    show evCall cxIn (ev cxIn 60) _ [.one (.sl 2 0 1 (some (m + 2))), _, _] _ K
    exact (t_inA10 a x v m K).symm ▸ (ndd (by omega) h)
  · exact (t_inB10 a x K).symm ▸ h
theorem ins11 (a x : Int) {K : SV → St → Prop} (hK : K (.sa (.one (.ref 2))) [none, some (.mem true .whole 22 1 (.lst [[.raw (.int .u32 x)]])), some (.own true .row 22 1 (.ints .u32 [a, x]))])
    {α : Al} {w : World} {vals : List Value} (hR : R α [some (.own true .row 22 1 (.ints .u32 [a])), some (.mem true .whole 22 1 (.lst [[.raw (.int .u32 x)]]))] w) (ha : RepsA α [.one (.ref 0), .one (.raw (.int .i64 1)), .one (.sl 1 0 1 none)] vals) :
    CallsIn Fence.wide 0 Try.prog 31 vals.toArray w (CallPost α [some (.own true .row 22 1 (.ints .u32 [a])), some (.mem true .whole 22 1 (.lst [[.raw (.int .u32 x)]]))] w K) := by
  refine insert_ok cxIn_ok (xs := [a]) (by simp) (by simp) (fun c v K hc h => ⟨60, ?_⟩) (fun K h => ⟨60, ?_⟩) hK hR ha
  · obtain ⟨m, rfl⟩ : ∃ m, c = m + 2 := ⟨c - 2, by simp at hc; omega⟩
    show evCall cxIn (ev cxIn 60) _ [.one (.sl 2 0 1 (some (m + 2))), _, _] _ K
    exact (t_inA11 a x v m K).symm ▸ (h)
  · exact (t_inB11 a x K).symm ▸ h
theorem ins20 (a b x : Int) {K : SV → St → Prop} (hK : K (.sa (.one (.ref 2))) [none, some (.mem true .whole 22 1 (.lst [[.raw (.int .u32 x)]])), some (.own true .row 22 1 (.ints .u32 [x, a, b]))])
    {α : Al} {w : World} {vals : List Value} (hR : R α [some (.own true .row 22 1 (.ints .u32 [a, b])), some (.mem true .whole 22 1 (.lst [[.raw (.int .u32 x)]]))] w) (ha : RepsA α [.one (.ref 0), .one (.raw (.int .i64 0)), .one (.sl 1 0 1 none)] vals) :
    CallsIn Fence.wide 0 Try.prog 31 vals.toArray w (CallPost α [some (.own true .row 22 1 (.ints .u32 [a, b])), some (.mem true .whole 22 1 (.lst [[.raw (.int .u32 x)]]))] w K) := by
  refine insert_ok cxIn_ok (xs := [a, b]) (by simp) (by simp) (fun c v K hc h => ⟨60, ?_⟩) (fun K h => ⟨60, ?_⟩) hK hR ha
  · obtain ⟨m, rfl⟩ : ∃ m, c = m + 3 := ⟨c - 3, by simp at hc; omega⟩
    show evCall cxIn (ev cxIn 60) _ [.one (.sl 2 0 2 (some (m + 3))), _, _] _ K
    exact (t_inA20 a b x v m K).symm ▸ (ndd (by omega) h)
  · exact (t_inB20 a b x K).symm ▸ h
theorem ins21 (a b x : Int) {K : SV → St → Prop} (hK : K (.sa (.one (.ref 2))) [none, some (.mem true .whole 22 1 (.lst [[.raw (.int .u32 x)]])), some (.own true .row 22 1 (.ints .u32 [a, x, b]))])
    {α : Al} {w : World} {vals : List Value} (hR : R α [some (.own true .row 22 1 (.ints .u32 [a, b])), some (.mem true .whole 22 1 (.lst [[.raw (.int .u32 x)]]))] w) (ha : RepsA α [.one (.ref 0), .one (.raw (.int .i64 1)), .one (.sl 1 0 1 none)] vals) :
    CallsIn Fence.wide 0 Try.prog 31 vals.toArray w (CallPost α [some (.own true .row 22 1 (.ints .u32 [a, b])), some (.mem true .whole 22 1 (.lst [[.raw (.int .u32 x)]]))] w K) := by
  refine insert_ok cxIn_ok (xs := [a, b]) (by simp) (by simp) (fun c v K hc h => ⟨60, ?_⟩) (fun K h => ⟨60, ?_⟩) hK hR ha
  · obtain ⟨m, rfl⟩ : ∃ m, c = m + 3 := ⟨c - 3, by simp at hc; omega⟩
    show evCall cxIn (ev cxIn 60) _ [.one (.sl 2 0 2 (some (m + 3))), _, _] _ K
    exact (t_inA21 a b x v m K).symm ▸ (ndd (by omega) h)
  · exact (t_inB21 a b x K).symm ▸ h
theorem ins22 (a b x : Int) {K : SV → St → Prop} (hK : K (.sa (.one (.ref 2))) [none, some (.mem true .whole 22 1 (.lst [[.raw (.int .u32 x)]])), some (.own true .row 22 1 (.ints .u32 [a, b, x]))])
    {α : Al} {w : World} {vals : List Value} (hR : R α [some (.own true .row 22 1 (.ints .u32 [a, b])), some (.mem true .whole 22 1 (.lst [[.raw (.int .u32 x)]]))] w) (ha : RepsA α [.one (.ref 0), .one (.raw (.int .i64 2)), .one (.sl 1 0 1 none)] vals) :
    CallsIn Fence.wide 0 Try.prog 31 vals.toArray w (CallPost α [some (.own true .row 22 1 (.ints .u32 [a, b])), some (.mem true .whole 22 1 (.lst [[.raw (.int .u32 x)]]))] w K) := by
  refine insert_ok cxIn_ok (xs := [a, b]) (by simp) (by simp) (fun c v K hc h => ⟨60, ?_⟩) (fun K h => ⟨60, ?_⟩) hK hR ha
  · obtain ⟨m, rfl⟩ : ∃ m, c = m + 3 := ⟨c - 3, by simp at hc; omega⟩
    show evCall cxIn (ev cxIn 60) _ [.one (.sl 2 0 2 (some (m + 3))), _, _] _ K
    exact (t_inA22 a b x v m K).symm ▸ (h)
  · exact (t_inB22 a b x K).symm ▸ h
theorem ins_sum : SumOk Try.prog 31 sIns := by
  refine fun args st => ⟨sIns_lin args st, fun k hk α w vals hR ha => ?_⟩
  unfold sIns at hk
  split at hk
  · rename_i i xs x
    obtain ⟨h1, hk⟩ := need_iff.1 hk
    have h1 := of_decide_eq_true h1
    match xs, h1 with
    | [a], h1 =>
      have : i = 0 ∨ i = 1 := by simp at h1; omega
      rcases this with rfl | rfl
      · exact ins10 a x hk hR ha
      · exact ins11 a x hk hR ha
    | [a, b], h1 =>
      have : i = 0 ∨ i = 1 ∨ i = 2 := by simp at h1; omega
      rcases this with rfl | rfl | rfl
      · exact ins20 a b x hk hR ha
      · exact ins21 a b x hk hR ha
      · exact ins22 a b x hk hR ha
    | [], h1 => simp at h1
    | _ :: _ :: _ :: _, h1 => simp at h1
  · exact hk.elim
end Go.Ev
