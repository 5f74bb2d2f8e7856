/- outq.Queue.Accept: what it does. No conditions. -/
import Derived.Test.YtipmphkcbhjinaaOqU
import Derived.Test.YtipmphkcbhjinaaOqT0
import Derived.Test.YtipmphkcbhjinaaOqT1
import Derived.Test.YtipmphkcbhjinaaFcP
set_option linter.unusedVariables false
set_option linter.unusedSimpArgs false
namespace Go.Ev
open Go Go.Proofs Go.Spec
attribute [local irreducible] ev evCall branch need again
theorem kSt {k : SV → St → Prop} {v v' : SV} {s s' : St} (h : k v s) (e1 : v = v') (e2 : s = s') : k v' s' := e1 ▸ e2 ▸ h
theorem tsnL_len (t : Int) (n : Nat) : (tsnL t n).length = n := by simp [tsnL]
theorem tsnL_succ (t : Int) (n : Nat) : tsnL t (n + 1) = tsnL t n ++ [tsnAdd t n] := by simp [tsnL, List.range_succ]
theorem tsnAdd_zero {t : Int} (h : 0 ≤ t ∧ t ≤ 4294967295) : tsnAdd t 0 = t := by unfold tsnAdd; rw [IntKind.wrap_u32]; omega
theorem tsnAdd_succ (t : Int) (n : Nat) : addK .u32 (tsnAdd t n) 1 = tsnAdd t (n + 1) := by unfold tsnAdd; rw [addK_eq, IntKind.wrap_u32, IntKind.wrap_u32, IntKind.wrap_u32]; omega
theorem bmp_f (j i : Nat) (s : Int) : bmp false (j : Int) i s = if j = i then addK .u16 s 1 else s := by
  unfold bmp
  by_cases h : j = i
  · rw [if_pos h, if_pos ⟨rfl, by omega⟩]
  · rw [if_neg h, if_neg (by omega)]
theorem bmp_t (j i : Nat) (s : Int) : bmp true (j : Int) i s = s := by unfold bmp; rw [if_neg (by simp)]
theorem take_snoc {α : Type} (l : List α) (i : Nat) (d : α) (h : i < l.length) : l.take i ++ [l.getD i d] = l.take (i + 1) := by
  rw [List.take_add_one, List.getD_eq_getElem?_getD, List.getElem?_eq_getElem h]; rfl
theorem getD_repl {α : Type} (x d : α) {n i : Nat} (h : i < n) : (List.replicate n x).getD i d = x := by
  rw [List.getD_eq_getElem?_getD, List.getElem?_eq_getElem (by rw [List.length_replicate]; exact h), List.getElem_replicate]; rfl
theorem cutF_len (uno : Bool) (n : Nat) : (cutF uno n).length = n := by simp [cutF]
theorem app_snoc {α : Type} (d x : α) {q : Nat} (a b c : List α) (h : (a ++ b).length = q) (e : b ++ [x] = c) : fitL d q (a ++ b) ++ [x] = a ++ c := by
  rw [fitL_same d q _ h, List.append_assoc, e]
theorem cutD_get_len {size : Int} {xs : List Int} (i : Nat) : ((cutD size xs).getD i []).length ≤ xs.length := by
  unfold cutD partsL
  rw [List.getD_eq_getElem?_getD, List.getElem?_map]
  cases h : (List.range (cutN (cutS size xs.length) xs.length))[i]? with
  | none => simp
  | some q => simp; omega

theorem acc_loop (j : Nat) (hj : j < 16) (ppid mtu st sr rr mm ri rmin rmax it pt al beat life tsn s0 s1 s2 s3 s4 s5 s6 s7 s8 s9 sa sb sc sd se sf by_ tk : Int) (uno : Bool) (xs : List Int) (n : Nat) (ts fs ss ns ps : List Int) (ds : List (List Int)) (N c M : Nat) (k : SV → St → Prop) (l1 : ts.length = n) (l2 : fs.length = n) (l3 : ss.length = n) (l4 : ns.length = n) (l5 : ps.length = n) (l6 : ds.length = n) (hN : (cutD (mtu - 28) xs).length = N) (hn : n + N ≤ 1000000) (hx : xs.length ≤ 1000000)
    (hT : k (.sa (.one (iv .i64 0))) [obj 66 33 (iv .i64 (mtu) :: iv .u16 (st) :: iv .i64 (sr) :: iv .i64 (rr) :: iv .i64 (mm) :: iv .u32 (ri) :: iv .u32 (rmin) :: iv .u32 (rmax) :: iv .u8 (it) :: iv .u8 (pt) :: iv .u8 (al) :: iv .u32 (beat) :: iv .u32 (life) :: iv .u32 (tsnAdd tsn N) :: iv .u16 (bmp uno (j : Int) 0 s0) :: iv .u16 (bmp uno (j : Int) 1 s1) :: iv .u16 (bmp uno (j : Int) 2 s2) :: iv .u16 (bmp uno (j : Int) 3 s3) :: iv .u16 (bmp uno (j : Int) 4 s4) :: iv .u16 (bmp uno (j : Int) 5 s5) :: iv .u16 (bmp uno (j : Int) 6 s6) :: iv .u16 (bmp uno (j : Int) 7 s7) :: iv .u16 (bmp uno (j : Int) 8 s8) :: iv .u16 (bmp uno (j : Int) 9 s9) :: iv .u16 (bmp uno (j : Int) 10 sa) :: iv .u16 (bmp uno (j : Int) 11 sb) :: iv .u16 (bmp uno (j : Int) 12 sc) :: iv .u16 (bmp uno (j : Int) 13 sd) :: iv .u16 (bmp uno (j : Int) 14 se) :: iv .u16 (bmp uno (j : Int) 15 sf) :: .ref 3 :: iv .i64 (addK .i64 by_ ((xs.length : Nat) : Int)) :: iv .i64 (tk) :: []), none, rdB xs, (piecesO (n + N) (ts ++ tsnL tsn N) (fs ++ (cutF uno N).take N) (ss ++ List.replicate N (j : Int)) (ns ++ List.replicate N (ssnOf uno (j : Int) [s0, s1, s2, s3, s4, s5, s6, s7, s8, s9, sa, sb, sc, sd, se, sf])) (ps ++ List.replicate N ppid) (ds ++ (cutD (mtu - 28) xs).take N))]) : ∀ (rem i : Nat), 1 ≤ i → i + rem = N →
    ev cxAc (rem + c + 52) 3 11 (codeAt Try.prog 11 [1, 1, 1, 1, 1, 0, 1, 0]) (frm 102 [(2, (.sa (.one (SC.ptr 3 0 0)))), (3, (.sa (.one (SC.ptr 4 0 0)))), (7, (.sa (.one (SC.ref 5)))), (59, (.sa (.one (SC.ref 6)))), (60, (.sa (.one (iv .i64 ((N : Nat) : Int))))), (61, (.sa (.one (iv .i64 ((i : Nat) : Int)))))]) [obj 66 33 (iv .i64 (mtu) :: iv .u16 (st) :: iv .i64 (sr) :: iv .i64 (rr) :: iv .i64 (mm) :: iv .u32 (ri) :: iv .u32 (rmin) :: iv .u32 (rmax) :: iv .u8 (it) :: iv .u8 (pt) :: iv .u8 (al) :: iv .u32 (beat) :: iv .u32 (life) :: iv .u32 (tsnAdd tsn i) :: iv .u16 (s0) :: iv .u16 (s1) :: iv .u16 (s2) :: iv .u16 (s3) :: iv .u16 (s4) :: iv .u16 (s5) :: iv .u16 (s6) :: iv .u16 (s7) :: iv .u16 (s8) :: iv .u16 (s9) :: iv .u16 (sa) :: iv .u16 (sb) :: iv .u16 (sc) :: iv .u16 (sd) :: iv .u16 (se) :: iv .u16 (sf) :: .ref 7 :: iv .i64 (by_) :: iv .i64 (tk) :: []), none, rdB xs, (obj 29 1 [(SC.ptr 0 0 0)]), (obj 35 4 [(iv .u16 ((j : Nat) : Int)), (bv uno), (iv .u32 ppid), (SC.ref 2)]), (some (SO.clo (Fn.func 33) [] [(.one (SC.ptr 3 0 0)), (.one (SC.ptr 4 0 0))])), (piecesO N (List.replicate N 0) (cutF uno N) (List.replicate N (j : Int)) (List.replicate N 0) (List.replicate N ppid) (cutD (mtu - 28) xs)), (piecesO (n + i) (ts ++ tsnL tsn i) (fs ++ (cutF uno N).take i) (ss ++ List.replicate i (j : Int)) (ns ++ List.replicate i (ssnOf uno (j : Int) [s0, s1, s2, s3, s4, s5, s6, s7, s8, s9, sa, sb, sc, sd, se, sf])) (ps ++ List.replicate i ppid) (ds ++ (cutD (mtu - 28) xs).take i))] (kBlock 1 (kSeq (ev cxAc (M + 54) 3 11 (codeAt Try.prog 11 [1, 1, 1, 1, 1, 1])) (kRet (Cx.P cxAc) [(ResultVar.tmp 4)] 3 k))) := by
  intro rem
  induction rem with
  | zero =>
    intro i h1 h2
    have e : i = N := by omega
    subst e
    unfold piecesO
    rw [u_accB j hj]
    refine Again.mk (brf (by omega) ?_)
    cases uno with
    | true =>
      refine br (fun h => by cases h) (fun _ => kSt hT rfl ?_)
      simp only [bmp_t, piecesO, rdB]
    | false =>
      refine br (fun _ => kSt hT rfl ?_) (fun h => by cases h)
      simp only [bmp_f, piecesO, rdB]
  | succ rem ih =>
    intro i h1 h2
    have hi : i < N := by omega
    unfold piecesO
    rw [show rem + 1 + c + 52 = (rem + 1 + c) + 52 from rfl, u_accB j hj]
    have e0 : 0 + ((i : Nat) : Int).toNat = i := by omega
    have e9 : addK .i64 ((i : Nat) : Int) 1 = ((i + 1 : Nat) : Int) := by rw [add64 (by omega)]; omega
    have hd : ((cutD (mtu - 28) xs).getD i []).length ≤ 1000000 := Nat.le_trans (cutD_get_len i) hx
    have r1 := app_snoc 0 (tsnAdd tsn i) ts (tsnL tsn i) (tsnL tsn (i + 1)) (q := n + i) (by rw [List.length_append, tsnL_len, l1]) (tsnL_succ tsn i).symm
    have r2 := app_snoc 0 ((cutF uno N).getD i 0) fs ((cutF uno N).take i) ((cutF uno N).take (i + 1)) (q := n + i) (by rw [List.length_append, List.length_take, cutF_len, l2]; omega) (take_snoc _ _ _ (by rw [cutF_len]; exact hi))
    have r3 := app_snoc 0 (j : Int) ss (List.replicate i (j : Int)) (List.replicate (i + 1) (j : Int)) (q := n + i) (by rw [List.length_append, List.length_replicate, l3]) List.replicate_succ'.symm
    have r4 := app_snoc 0 (ssnOf uno (j : Int) [s0, s1, s2, s3, s4, s5, s6, s7, s8, s9, sa, sb, sc, sd, se, sf]) ns (List.replicate i (ssnOf uno (j : Int) [s0, s1, s2, s3, s4, s5, s6, s7, s8, s9, sa, sb, sc, sd, se, sf])) (List.replicate (i + 1) (ssnOf uno (j : Int) [s0, s1, s2, s3, s4, s5, s6, s7, s8, s9, sa, sb, sc, sd, se, sf])) (q := n + i) (by rw [List.length_append, List.length_replicate, l4]) List.replicate_succ'.symm
    have r5 := app_snoc 0 ppid ps (List.replicate i ppid) (List.replicate (i + 1) ppid) (q := n + i) (by rw [List.length_append, List.length_replicate, l5]) List.replicate_succ'.symm
    have r6 := app_snoc [] ((cutD (mtu - 28) xs).getD i []) ds ((cutD (mtu - 28) xs).take i) ((cutD (mtu - 28) xs).take (i + 1)) (q := n + i) (by rw [List.length_append, List.length_take, hN, l6]; omega) (take_snoc _ _ _ (by rw [hN]; exact hi))
    have g := ih (i + 1) (by omega) (by omega)
    rw [e0, e9, List.take_of_length_le (Nat.le_refl ((cutD (mtu - 28) xs).getD i []).length), getD_repl _ _ hi, getD_repl _ _ hi, tsnAdd_succ]
    refine Again.mk (brt (by omega) (ndd (by omega) (ndd (by omega) (ndd (by omega) ?_))))
    cases uno with
    | true =>
      refine br (fun h => by cases h) (fun _ => ndd (by omega) (ndd (by omega) (evFuel (evFr g rfl ?_) (by omega))))
      rw [getD_repl _ _ hi]
      have z : ssnOf true (j : Int) [s0, s1, s2, s3, s4, s5, s6, s7, s8, s9, sa, sb, sc, sd, se, sf] = 0 := rfl
      rw [z] at r4
      simp only [piecesO, rdB, r1, r2, r3, r4, r5, r6, z, Nat.add_assoc]
    | false =>
      refine br (fun _ => ndd (by omega) (ndd (by omega) (evFuel (evFr g rfl ?_) (by omega)))) (fun h => by cases h)
      have z : ssnOf false (j : Int) [s0, s1, s2, s3, s4, s5, s6, s7, s8, s9, sa, sb, sc, sd, se, sf] = List.getD [s0, s1, s2, s3, s4, s5, s6, s7, s8, s9, sa, sb, sc, sd, se, sf] j 0 := by unfold ssnOf; rw [if_neg (by decide), Int.toNat_natCast]
      rw [z] at r4
      simp only [piecesO, rdB, r1, r2, r3, r4, r5, r6, z, Nat.add_assoc]
end Go.Ev
