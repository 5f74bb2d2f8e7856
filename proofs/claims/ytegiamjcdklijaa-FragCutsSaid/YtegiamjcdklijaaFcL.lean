/- The law FragCuts, run: whatever the message and the size are. No conditions. -/
import Derived.Test.YtegiamjcdklijaaFcQ
import Derived.Test.YtegiamjcdklijaaFcT
import Derived.Test.YtegiamjcdklijaaFcT5
import Derived.Test.YtegiamjcdklijaaWkF
set_option linter.unusedVariables false
namespace Go.Ev
open Go Go.Proofs Go.Spec
attribute [local irreducible] ev evCall branch need again

theorem cxF_ok : CxOk Try.prog cxF := mkCx_ok namesC mixedC (by
  intro x h
  simp only [List.mem_cons, List.not_mem_nil, or_false] at h
  rcases h with rfl | rfl | rfl
  · exact known_sum
  · exact cut_sum
  · exact ref_sum)
theorem strEq_same (s : ByteArray) : strEq s s = true := by simp [strEq]
theorem law_loop (xs : List Int) (n : Nat) (ts fs ss ns ps : List Int) (ds : List (List Int)) (M c : Nat) (hn : n ≤ 1000000) (k : SV → St → Prop) (hT : ∀ st, k (.sa (.one (bv true))) st) :
    ∀ (rem i : Nat), i + rem = n → ev cxF (rem + c + 51) 1 3 (codeAt Try.prog 3 [1, 1, 1, 1, 1, 1, 0, 1, 0]) (frm 54 [(7, (.sa (.one (SC.ref 1)))), (39, (.sa (.one (SC.ref 2)))), (40, (.sa (.one (iv .i64 ((n : Nat) : Int))))), (41, (.sa (.one (iv .i64 (i : Int)))))]) [(some (SO.own false MK.ext 0 1 (Ct.ints .u8 xs))), (some (SO.own true MK.row 33 6 (Ct.tab n [(Col.ints .u32 ts), (Col.ints .u8 fs), (Col.ints .u16 ss), (Col.ints .u16 ns), (Col.ints .u32 ps), (Col.data .u8 ds)]))), (some (SO.own true MK.row 33 6 (Ct.tab n [(Col.ints .u32 ts), (Col.ints .u8 fs), (Col.ints .u16 ss), (Col.ints .u16 ns), (Col.ints .u32 ps), (Col.data .u8 ds)])))] (kBlock 0 (kSeq (ev cxF (M + 53) 1 3 (codeAt Try.prog 3 [1, 1, 1, 1, 1, 1, 1])) (kRet (Cx.P cxF) [(ResultVar.tmp 4)] 1 k))) := by
  intro rem
  induction rem with
  | zero =>
    intro i h
    rw [t_lawS]
    exact Again.mk (brf (by omega) (hT _))
  | succ rem ih =>
    intro i h
    rw [show rem + 1 + c + 51 = (rem + 1 + c) + 51 from rfl, t_lawS]
    refine Again.mk (brt (by omega) ?_)
    repeat' refine ndd (by omega) ?_
    refine bret rfl (bret rfl (bret rfl (bret rfl (bret rfl ?_))))
    repeat' refine ndd (by omega) ?_
    rw [strEq_same, add64 (by omega), show (i : Int) + 1 = ((i + 1 : Nat) : Int) by omega]
    exact br (fun h => by cases h) (fun _ => evFuel (ih (i + 1) (by omega)) (by omega))
theorem law_run (sid ppid size : Int) (uno : Bool) (xs : List Int) (hz : size ≤ 9223372036854775807) (k : SV → St → Prop) (hT : ∀ st, k (.sa (.one (bv true))) st) :
    ∃ N, evCall cxF (ev cxF N) 3 [.agg [iv .u16 sid, bv uno, iv .u32 ppid, .ref 0], .one (iv .i64 size)] [some (.own false .ext 0 1 (.ints .u8 xs))] k := by
  refine ⟨cutN (cutS size xs.length) xs.length + 60, ?_⟩
  rw [t_law]
  refine brd (fun _ => hT _) (fun h => ?_)
  refine ndd (by omega) (brd (fun h1 => ?_) (fun h1 => ?_))
  · refine ndd (by omega) (brt h1 ?_)
    rw [t_lawZ]
    exact Again.mk (hT _)
  · refine ndd (by omega) (brf h1 ?_)
    have hq := cutN_ge (s := cutS size xs.length) (len := xs.length) (by unfold cutS; omega) (by omega)
    have hq2 : cutN (cutS size xs.length) xs.length - 1 ≤ (cutN (cutS size xs.length) xs.length - 1) * cutS size xs.length := Nat.le_mul_of_pos_right _ (by unfold cutS; omega)
    rw [eqK_t.2 rfl]
    refine br (fun h => by cases h) (fun _ => ?_)
    exact law_loop xs _ _ _ _ _ _ _ _ 0 (by omega) k hT (cutN (cutS size xs.length) xs.length) 0 (by omega)
end Go.Ev
