/- The law RouteCalls: plain facts of paths. No conditions. -/
import Derived.Test.YtcdakjhcnamncaaFsS
import Derived.Test.YtcdakjhcnamncaaRkL
set_option linter.unusedVariables false
set_option linter.unusedSimpArgs false
set_option maxRecDepth 100000
namespace Go.Ev
open Go Go.Proofs Go.Spec
attribute [local irreducible] ev evCall branch need again
def endsP : List Pa → List (Int × Int)
 | [] => []
 | p :: r => (p.f, p.t) :: endsP r
theorem ends_tell (kd I : Int) : ∀ (ps : List Pa) (j : Nat), endsP (tellP kd I ps j) = endsP ps
 | [], _ => rfl
 | p :: r, j => by unfold tellP endsP; rw [ends_tell kd I r]
theorem mem_ends : ∀ {ps : List Pa} {p : Pa} {i : Nat}, ps[i]? = some p → (p.f, p.t) ∈ endsP ps
 | [], _, _, h => by simp at h
 | q :: r, p, 0, h => by
   simp at h; subst h
   exact List.mem_cons_self
 | q :: r, p, i + 1, h => List.mem_cons_of_mem _ (mem_ends (ps := r) (i := i) (by simpa using h))
theorem findA_at : ∀ {ps : List Pa} {p : Pa} {i : Nat} (j : Int), (endsP ps).Nodup → ps[i]? = some p → findA p.f p.t ps j = j + i
 | [], _, _, _, _, h => by simp at h
 | q :: r, p, 0, j, hd, h => by
   simp at h; subst h
   unfold findA
   rw [if_pos ⟨rfl, rfl⟩]; simp
 | q :: r, p, i + 1, j, hd, h => by
   obtain ⟨h1, h2⟩ := List.nodup_cons.1 hd
   have h' : r[i]? = some p := by simpa using h
   have hm := mem_ends h'
   unfold findA
   rw [if_neg (fun c => h1 (by rw [c.1, c.2]; exact hm)), findA_at (j + 1) h2 h']
   omega
theorem find_at {ps : List Pa} {p : Pa} {i : Nat} (hd : (endsP ps).Nodup) (h : ps[i]? = some p) : findS p.f p.t ps = (i : Int) := by
 rw [findS_eq, findA_at 0 hd h]; omega
theorem tellQ_in {kd I prim : Int} {n : Nat} (h : thereB prim n = true) : thereB (tellQ kd I n prim) n = true := by
 unfold tellQ thI
 split
 · split
   · assumption
   · exact h
 · exact h
def pNew (mtu ri rmin rmax pt a b : Int) : Pa := ⟨a, b, IntKind.wrap .i64 pt, 0, false, IntKind.wrap .u64 rmin, IntKind.wrap .u64 rmax, IntKind.wrap .u64 ri, 0, 0, false, mtu, mulK .i64 2 mtu, 65536, 0⟩
def rNew (mtu ri rmin rmax pt a b : Int) : Ra := ⟨a, b, IntKind.wrap .u64 rmin, IntKind.wrap .u64 rmax, IntKind.wrap .u64 ri, 0, 0, false, mtu, mulK .i64 2 mtu, 65536, 0, IntKind.wrap .i64 pt, 0, true, false, 0⟩
theorem rel_new {mtu ri rmin rmax pt : Int} (h : 0 ≤ pt ∧ pt ≤ 255) (a b : Int) : relB 0 (pNew mtu ri rmin rmax pt a b) (rNew mtu ri rmin rmax pt a b) = true := by
 have e : IntKind.wrap .i64 pt = pt := Go.IntWalk.i64_in _ (by omega)
 refine decide_eq_true ?_
 unfold pNew rNew gtB
 rw [e]
 refine ⟨rfl, rfl, rfl, rfl, rfl, ?_, Int.le_refl 0, Int.le_refl 0, h.1⟩
 exact (decide_eq_false (show ¬ (0 : Int) > pt by omega)).symm
theorem addr1 {a : Int} (h : addrB [a] = true) : True := trivial
theorem addr2 {a b : Int} (h : addrB [a, b] = true) : a ≠ b := by
 intro e; subst e
 simp [addrB, freshB, hasL] at h
theorem addr3 {a b c : Int} (h : addrB [a, b, c] = true) : a ≠ b ∧ a ≠ c ∧ b ≠ c := by
 refine ⟨fun e => ?_, fun e => ?_, fun e => ?_⟩ <;> subst e <;> simp [addrB, freshB, hasL] at h
theorem addr_len {xs : List Int} (h : addrB xs = true) : (∃ a, xs = [a]) ∨ (∃ a b, xs = [a, b]) ∨ (∃ a b c, xs = [a, b, c]) := by
 have h2 := (Bool.and_eq_true_iff.1 h).2
 obtain ⟨h3, h4⟩ := Bool.and_eq_true_iff.1 h2
 have h3 := of_decide_eq_true h3
 have h4 := of_decide_eq_true h4
 match xs, h3, h4 with
 | [a], _, _ => exact .inl ⟨a, rfl⟩
 | [a, b], _, _ => exact .inr (.inl ⟨a, b, rfl⟩)
 | [a, b, c], _, _ => exact .inr (.inr ⟨a, b, c, rfl⟩)
 | a :: b :: c :: d :: r, _, h => exact absurd h (by simp only [List.length_cons]; omega)
theorem cxRl_ok (N : Nat) (hw : SumOk Try.prog 7 sTrue) : CxOk Try.prog (cxRl N) := mkCx_ok namesRk mixedRk (by
 intro y h
 simp only [List.mem_cons, List.not_mem_nil, or_false] at h
 rcases h with rfl | rfl | rfl | rfl | rfl | rfl | rfl | rfl | rfl | rfl | rfl | rfl | rfl
 · exact hw
 · exact addr_sum
 · exact pn_sum
 · exact side_sum
 · exact may_sum
 · exact tell_sum
 · exact choose_sum
 · exact chooseR_sum
 · exact next_sum
 · exact nextR_sum
 · exact miss_sum
 · exact prim_sum
 · exact find_sum)
theorem beqN {x : Bool} {a b : Prop} (h : b) : branch (Bool.not (x == x)) a b := by
 rw [beq_self_eq_true]; exact br (fun e => by cases e) (fun _ => h)
theorem eqN {x : Int} {a b : Prop} (h : b) : branch (Bool.not (eqK x x)) a b := brN (fun _ => h) (fun c => absurd rfl (eqK_f.1 c))
end Go.Ev
