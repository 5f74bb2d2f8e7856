/- slices.Clone of pieces, the document's bytes and Accept: what they do. No conditions. -/
import Derived.Test.YtipmphkcbhjinaaOcT1
import Derived.Test.YtipmphkcbhjinaaOcT2
import Derived.Test.YtipmphkcbhjinaaOcK
import Derived.Test.YtipmphkcbhjinaaFcQ
import Derived.Test.YtipmphkcbhjinaaOrS
set_option linter.unusedVariables false
set_option linter.unusedSimpArgs false
namespace Go.Ev
open Go Go.Proofs Go.Spec
attribute [local irreducible] ev evCall branch need again
theorem cxCp_ok : CxOk Try.prog cxCp := mkCx_ok namesC mixedC (by simp)
theorem sClP_lin (args : List SA) (st : St) : Lin (sClP args st) := by
  intro k h
  unfold sClP at h ⊢
  split at h
  · exact (Lin.need (Lin.ret _ _)) k h
  · exact h.elim
theorem nil_of {α : Type} {l : List α} (h : l.length = 0) : l = [] := List.length_eq_zero_iff.1 h
theorem clP_sum : SumOk Try.prog 35 sClP := by
  refine sumOk_own cxCp_ok 53 sClP_lin fun args st k h => ?_
  unfold sClP at h
  split at h
  · rename_i n ts fs ss ns ps ds
    obtain ⟨h1, h⟩ := need_iff.1 h
    obtain ⟨l1, l2, l3, l4, l5, l6, l7⟩ := pieOk_iff.1 h1
    refine ⟨_, _, _, rfl, rfl, fun hz => ⟨40, ?_⟩, fun hz a c => ⟨40, ?_⟩⟩
    · have hz : n ≠ 0 := hz
      rw [t_clp]
      exact ndd (by omega) (ndd (by omega) (brf (by omega) (ndd (by omega) h)))
    · have hz : n = 0 := hz
      subst hz
      rw [nil_of l1, nil_of l2, nil_of l3, nil_of l4, nil_of l5, nil_of l6] at h ⊢
      cases a with
      | none => rw [t_clpn]; exact h
      | some a => rw [t_clpe]; exact h
  · exact h.elim

/-! bytes -/
theorem lensL_part (ds : List (List Int)) {a i : Nat} (h1 : a ≤ i) (h2 : i < ds.length) : lensL ((ds.take (i + 1)).drop a) = lensL ((ds.take i).drop a) + (ds.getD i []).length := by
  rw [← take_snoc ds i [] h2, List.drop_append_of_le_length (by rw [List.length_take]; omega), lensL_app, lensL_cons, lensL_nil]; omega
theorem lensL_sub (ds : List (List Int)) (a b : Nat) : lensL ((ds.take b).drop a) ≤ lensL ds := by
  have h1 : lensL (ds.take b) + lensL (ds.drop b) = lensL ds := by rw [← lensL_app, List.take_append_drop]
  have h2 : lensL ((ds.take b).take a) + lensL ((ds.take b).drop a) = lensL (ds.take b) := by rw [← lensL_app, List.take_append_drop]
  omega
theorem lensL_two (ds : List (List Int)) (a : Nat) : lensL (ds.take a) + lensL (ds.drop a) = lensL ds := by rw [← lensL_app, List.take_append_drop]
theorem cxBy_ok : CxOk Try.prog cxBy := mkCx_ok namesC mixedC (by simp)
theorem sBytes_lin (args : List SA) (st : St) : Lin (sBytes args st) := by
  intro k h
  unfold sBytes at h ⊢
  split at h
  · unfold q13 at h ⊢
    split at h
    · unfold q5 at h ⊢
      split at h
      · exact (Lin.need (Lin.ret _ _)) k h
      · exact h.elim
    · exact h.elim
  · exact h.elim
theorem by_loop (mtu st sr rr mm ri rmin rmax it pt al beat life tsn tk fr : Int) (s : Nat) (w1 w2 w3 : Bool) (sn : List Int) (n : Nat) (ts fs ss ns ps : List Int) (ds : List (List Int)) (M c a b : Nat) (k : SV → St → Prop) (hb : b ≤ n) (l6 : ds.length = n) (hn : n ≤ 1000000) (hd : lensL ds ≤ 1000000000)
    (hT : k (.sa (.one (iv .i64 ((lensL ((ds.take b).drop a) : Nat) : Int)))) [some (.mem w1 .whole 55 18 (.lst [[iv .i64 mtu, iv .u16 st, iv .i64 sr, iv .i64 rr, iv .i64 mm, iv .u32 ri, iv .u32 rmin, iv .u32 rmax, iv .u8 it, iv .u8 pt, iv .u8 al, iv .u32 beat, iv .u32 life, iv .u32 (tsn), .sl 1 0 s none, .ref 2, iv .i64 (tk), iv .i64 (fr)]])), some (.mem w2 .whole 22 1 (.ints .u16 sn)), some (.own w3 .row 41 6 (.tab n [.ints .u32 ts, .ints .u8 fs, .ints .u16 ss, .ints .u16 ns, .ints .u32 ps, .data .u8 ds]))]) :
    ∀ (rem i : Nat), a ≤ i → i + rem = b → ev cxBy (rem + c + 55) 3 38 (codeAt Try.prog 38 [1, 1, 0, 1, 0]) (frm 27 [(0, (.sa (.one (SC.ptr 0 0 0)))), (2, (.sa (.one (iv .i64 ((b : Nat) : Int))))), (7, (.sa (.one (iv .i64 ((lensL ((ds.take i).drop a) : Nat) : Int))))), (8, (.sa (.one (iv .i64 ((i : Nat) : Int)))))]) [some (.mem w1 .whole 55 18 (.lst [[iv .i64 mtu, iv .u16 st, iv .i64 sr, iv .i64 rr, iv .i64 mm, iv .u32 ri, iv .u32 rmin, iv .u32 rmax, iv .u8 it, iv .u8 pt, iv .u8 al, iv .u32 beat, iv .u32 life, iv .u32 (tsn), .sl 1 0 s none, .ref 2, iv .i64 (tk), iv .i64 (fr)]])), some (.mem w2 .whole 22 1 (.ints .u16 sn)), some (.own w3 .row 41 6 (.tab n [.ints .u32 ts, .ints .u8 fs, .ints .u16 ss, .ints .u16 ns, .ints .u32 ps, .data .u8 ds]))] (kBlock 0 (kSeq (ev cxBy (M + 57) 3 38 (codeAt Try.prog 38 [1, 1, 1])) (kRet (Cx.P cxBy) [(ResultVar.tmp 6)] 3 k))) := by
  intro rem
  induction rem with
  | zero =>
    intro i h1 h2
    have e : i = b := by omega
    subst e
    rw [show 0 + c + 55 = (0 + c) + 55 from rfl, t_byS]
    exact Again.mk (brf (by omega) hT)
  | succ rem ih =>
    intro i h1 h2
    have h := ih (i + 1) (by omega) (by omega)
    have e0 : 0 + ((i : Nat) : Int).toNat = i := by omega
    have e9 : addK .i64 ((i : Nat) : Int) 1 = ((i + 1 : Nat) : Int) := by rw [add64 (by omega)]; omega
    have h3 := lensL_part ds (a := a) (i := i) h1 (by omega)
    have h4 := lensL_sub ds a (i + 1)
    have ez : addK .i64 ((lensL ((ds.take i).drop a) : Nat) : Int) (((ds.getD i []).length : Nat) : Int) = ((lensL ((ds.take (i + 1)).drop a) : Nat) : Int) := by rw [add64 (by omega)]; omega
    rw [show rem + 1 + c + 55 = (rem + 1 + c) + 55 from rfl, t_byS, e0, e9, ez]
    refine Again.mk (brt (by omega) (ndd (by omega) (ndd (by omega) (ndd (by omega) (evFuel h (by omega))))))
theorem by_sum : SumOk Try.prog 38 sBytes := by
  refine sumOk_of cxBy_ok sBytes_lin fun args st k h => ?_
  unfold sBytes at h
  split at h
  · rename_i a b w1 row w2 sn w3 n ts fs ss ns ps ds
    unfold q13 at h
    split at h
    case h_2 => exact h.elim
    rename_i mtu st sr rr mm ri rmin rmax it pt al beat life rest
    unfold q5 at h
    split at h
    case h_2 => exact h.elim
    rename_i tsn s r tk fr
    obtain ⟨h0, hk⟩ := need_iff.1 h
    obtain ⟨hr, h3⟩ := Bool.and_eq_true_iff.1 h0
    obtain rfl := Nat.eq_of_beq_eq_true hr
    obtain ⟨h1, h2⟩ := Bool.and_eq_true_iff.1 h3
    obtain ⟨l1, l2, l3, l4, l5, l6, l7⟩ := pieOk_iff.1 h1
    have h2 := of_decide_eq_true h2
    have hz : ((lensL ((ds.take a.toNat).drop a.toNat) : Nat) : Int) = 0 := by
      rw [List.drop_eq_nil_of_le (by rw [List.length_take]; omega)]; rfl
    refine ⟨b.toNat + 60, ?_⟩
    have hd := by_loop mtu st sr rr mm ri rmin rmax it pt al beat life tsn tk fr s w1 w2 w3 sn n ts fs ss ns ps ds b.toNat a.toNat a.toNat b.toNat k (by omega) l6 l7 h2.2.2.2 hk (b.toNat - a.toNat) a.toNat (Nat.le_refl _) (by omega)
    rw [hz, show ((a.toNat : Nat) : Int) = a by omega, show ((b.toNat : Nat) : Int) = b by omega, show b.toNat - a.toNat + a.toNat + 55 = b.toNat + 55 by omega] at hd
    have ht := t_by0 a b w1 w2 w3 sn mtu st sr rr mm ri rmin rmax it pt al beat life tsn tk fr s n ts fs ss ns ps ds b.toNat k
    unfold iv at ht
    rw [ht]
    exact hd
  · exact h.elim

/-! the document's Accept -/
theorem cxRA_ok : CxOk Try.prog cxRA := mkCx_ok namesC mixedC (by
  intro x h
  simp only [List.mem_cons, List.not_mem_nil, or_false] at h
  rcases h with rfl | rfl
  · exact ref_sum
  · exact by_sum)
theorem tsn_at (t : Int) (i : Nat) : addK .u32 t (IntKind.wrap .u32 ((i : Nat) : Int)) = tsnAdd t i := by unfold tsnAdd; rw [addK_eq, IntKind.wrap_u32, IntKind.wrap_u32, IntKind.wrap_u32]; omega
theorem sRAcc_lin (args : List SA) (st : St) : Lin (sRAcc args st) := by
  intro k h
  unfold sRAcc at h ⊢
  split at h
  · unfold q13 at h ⊢
    split at h
    · unfold q5 at h ⊢
      split at h
      · exact (Lin.need (Lin.branch (Lin.ret _ _) (Lin.branch (Lin.ret _ _) (Lin.branch (Lin.ret _ _) (Lin.branch (Lin.ret _ _) (Lin.ret _ _)))))) k h
      · exact h.elim
    · exact h.elim
  · exact h.elim
theorem ra_loop (sid ppid mtu st sr rr mm ri rmin rmax it pt al beat life tsn tk fr z : Int) (uno : Bool) (xs sn : List Int) (s n N : Nat) (ts fs ss ns ps : List Int) (ds : List (List Int)) (c M : Nat) (k : SV → St → Prop) (l1 : ts.length = n) (l2 : fs.length = n) (l3 : ss.length = n) (l4 : ns.length = n) (l5 : ps.length = n) (l6 : ds.length = n) (hN : (cutD z xs).length = N) (hn : n + N ≤ 1000000) (hx : xs.length ≤ 1000000) (hs : 0 ≤ sid ∧ sid < (s : Int)) (hsl : sn.length = s)
    (hT : k (.sa (.one (iv .i64 0))) [obj 55 18 [iv .i64 mtu, iv .u16 st, iv .i64 sr, iv .i64 rr, iv .i64 mm, iv .u32 ri, iv .u32 rmin, iv .u32 rmax, iv .u8 it, iv .u8 pt, iv .u8 al, iv .u32 beat, iv .u32 life, iv .u32 (tsnAdd tsn N), .sl 1 0 s none, .ref 4, iv .i64 (tk), iv .i64 (fr)], snO (snR uno sid sn), none, rdB xs, pieAdd n N tsn sid (ssnR uno sid sn) ppid z uno ts fs ss ns ps ds xs]) :
    ∀ (rem i : Nat), 1 ≤ i → i + rem = N → ev cxRA (rem + c + 51) 4 20 (codeAt Try.prog 20 [1, 1, 1, 1, 1, 1, 0, 1, 0]) (frm 113 [(0, (.sa (.one (SC.ptr 0 0 0)))), (3, (.sa (.one (SC.ptr 4 0 0)))), (5, (.sa (.one (SC.ref 5)))), (7, (.sa (.one (iv .i64 ((i : Nat) : Int)))))]) [obj 55 18 [iv .i64 mtu, iv .u16 st, iv .i64 sr, iv .i64 rr, iv .i64 mm, iv .u32 ri, iv .u32 rmin, iv .u32 rmax, iv .u8 it, iv .u8 pt, iv .u8 al, iv .u32 beat, iv .u32 life, iv .u32 (tsn), .sl 1 0 s none, .ref 6, iv .i64 (tk), iv .i64 (fr)], some (.mem true .whole 22 1 (.ints .u16 sn)), none, rdB xs, obj 35 4 [iv .u16 sid, bv uno, iv .u32 ppid, .ref 3], piecesO N (List.replicate N 0) (cutF uno N) (List.replicate N sid) (List.replicate N 0) (List.replicate N ppid) (cutD z xs), piecesO (n + i) (ts ++ tsnL tsn i) (fs ++ (cutF uno N).take i) (ss ++ List.replicate i sid) (ns ++ List.replicate i (ssnR uno sid sn)) (ps ++ List.replicate i ppid) (ds ++ (cutD z xs).take i)] (kBlock 0 (kSeq (ev cxRA (M + 53) 4 20 (codeAt Try.prog 20 [1, 1, 1, 1, 1, 1, 1])) (kRet (Cx.P cxRA) [(ResultVar.tmp 4)] 4 k))) := by
  intro rem
  induction rem with
  | zero =>
    intro i h1 h2
    have e : i = N := by omega
    subst e
    have t6 : (cutD z xs).take i = cutD z xs := List.take_of_length_le (by omega)
    have t2 : (cutF uno i).take i = cutF uno i := List.take_of_length_le (by rw [cutF_len]; omega)
    have es : 0 + sid.toNat = sid.toNat := Nat.zero_add _
    rw [show 0 + c + 51 = (0 + c) + 51 from rfl]
    unfold piecesO
    rw [t_raB, tsn_at, es, t6, t2]
    refine Again.mk (brf (by omega) ?_)
    unfold snO pieAdd piecesO at hT
    cases uno with
    | true => exact br (fun h => by cases h) (fun _ => hT)
    | false =>
      refine br (fun _ => ?_) (fun h => by cases h)
      exact ndd (by omega) (ndd (by omega) (ndd (by omega) (ndd (by omega) (ndd (by omega) (ndd (by omega) hT)))))
  | succ rem ih =>
    intro i h1 h2
    have hi : i < N := by omega
    have g := ih (i + 1) (by omega) (by omega)
    unfold piecesO
    rw [show rem + 1 + c + 51 = (rem + 1 + c) + 51 from rfl, t_raB]
    have e0 : 0 + ((i : Nat) : Int).toNat = i := by omega
    have e9 : addK .i64 ((i : Nat) : Int) 1 = ((i + 1 : Nat) : Int) := by rw [add64 (by omega)]; omega
    have es : 0 + sid.toNat = sid.toNat := Nat.zero_add _
    have r1 := app_snoc 0 (tsnAdd tsn i) ts (tsnL tsn i) (tsnL tsn (i + 1)) (q := n + i) (by rw [List.length_append, tsnL_len, l1]) (tsnL_succ tsn i).symm
    have r2 := app_snoc 0 ((cutF uno N).getD i 0) fs ((cutF uno N).take i) ((cutF uno N).take (i + 1)) (q := n + i) (by rw [List.length_append, List.length_take, cutF_len, l2]; omega) (take_snoc _ _ _ (by rw [cutF_len]; exact hi))
    have r3 := app_snoc 0 sid ss (List.replicate i sid) (List.replicate (i + 1) sid) (q := n + i) (by rw [List.length_append, List.length_replicate, l3]) List.replicate_succ'.symm
    have r4 := app_snoc 0 (ssnR uno sid sn) ns (List.replicate i (ssnR uno sid sn)) (List.replicate (i + 1) (ssnR uno sid sn)) (q := n + i) (by rw [List.length_append, List.length_replicate, l4]) List.replicate_succ'.symm
    have r5 := app_snoc 0 ppid ps (List.replicate i ppid) (List.replicate (i + 1) ppid) (q := n + i) (by rw [List.length_append, List.length_replicate, l5]) List.replicate_succ'.symm
    have r6 := app_snoc [] ((cutD z xs).getD i []) ds ((cutD z xs).take i) ((cutD z xs).take (i + 1)) (q := n + i) (by rw [List.length_append, List.length_take, hN, l6]; omega) (take_snoc _ _ _ (by rw [hN]; exact hi))
    have hd : ((cutD z xs).getD i []).length ≤ 1000000 := Nat.le_trans (cutD_get_len i) hx
    rw [e0, e9, es, List.take_of_length_le (Nat.le_refl ((cutD z xs).getD i []).length), getD_repl _ _ hi, getD_repl _ _ hi, tsn_at]
    refine Again.mk (brt (by omega) (ndd (by omega) (ndd (by omega) (ndd (by omega) ?_))))
    cases uno with
    | true =>
      refine br (fun h => by cases h) (fun _ => ndd (by omega) (ndd (by omega) (evFuel (evFr g rfl ?_) (by omega))))
      rw [getD_repl _ _ hi]
      have z0 : ssnR true sid sn = 0 := rfl
      rw [z0] at r4
      simp only [piecesO, rdB, snO, r1, r2, r3, r4, r5, r6, z0, Nat.add_assoc]
    | false =>
      refine br (fun _ => ndd (by omega) (ndd (by omega) (ndd (by omega) (ndd (by omega) (ndd (by omega) (evFuel (evFr g rfl ?_) (by omega))))))) (fun h => by cases h)
      have z0 : ssnR false sid sn = sn.getD sid.toNat 0 := rfl
      rw [z0] at r4
      simp only [piecesO, rdB, snO, r1, r2, r3, r4, r5, r6, z0, Nat.add_assoc]
theorem ra_first (sid ppid mtu st sr rr mm ri rmin rmax it pt al beat life tsn tk fr z : Int) (uno : Bool) (xs sn : List Int) (s n N : Nat) (ts fs ss ns ps : List Int) (ds : List (List Int)) (c M : Nat) (k : SV → St → Prop) (l1 : ts.length = n) (l2 : fs.length = n) (l3 : ss.length = n) (l4 : ns.length = n) (l5 : ps.length = n) (l6 : ds.length = n) (hN : (cutD z xs).length = N) (h1N : 1 ≤ N) (hn : n + N ≤ 1000000) (hx : xs.length ≤ 1000000) (hs : 0 ≤ sid ∧ sid < (s : Int)) (hsl : sn.length = s)
    (hT : k (.sa (.one (iv .i64 0))) [obj 55 18 [iv .i64 mtu, iv .u16 st, iv .i64 sr, iv .i64 rr, iv .i64 mm, iv .u32 ri, iv .u32 rmin, iv .u32 rmax, iv .u8 it, iv .u8 pt, iv .u8 al, iv .u32 beat, iv .u32 life, iv .u32 (tsnAdd tsn N), .sl 1 0 s none, .ref 4, iv .i64 (tk), iv .i64 (fr)], snO (snR uno sid sn), none, rdB xs, pieAdd n N tsn sid (ssnR uno sid sn) ppid z uno ts fs ss ns ps ds xs]) : ev cxRA (N + c + 51) 4 20 (codeAt Try.prog 20 [1, 1, 1, 1, 1, 1, 0, 1, 0]) (frm 113 [(0, (.sa (.one (SC.ptr 0 0 0)))), (3, (.sa (.one (SC.ptr 4 0 0)))), (5, (.sa (.one (SC.ref 5)))), (7, (.sa (.one (iv .i64 0))))]) [obj 55 18 [iv .i64 mtu, iv .u16 st, iv .i64 sr, iv .i64 rr, iv .i64 mm, iv .u32 ri, iv .u32 rmin, iv .u32 rmax, iv .u8 it, iv .u8 pt, iv .u8 al, iv .u32 beat, iv .u32 life, iv .u32 (tsn), .sl 1 0 s none, .ref 2, iv .i64 (tk), iv .i64 (fr)], some (.mem true .whole 22 1 (.ints .u16 sn)), piecesO n ts fs ss ns ps ds, rdB xs, obj 35 4 [iv .u16 sid, bv uno, iv .u32 ppid, .ref 3], piecesO N (List.replicate N 0) (cutF uno N) (List.replicate N sid) (List.replicate N 0) (List.replicate N ppid) (cutD z xs)] (kBlock 0 (kSeq (ev cxRA (M + 53) 4 20 (codeAt Try.prog 20 [1, 1, 1, 1, 1, 1, 1])) (kRet (Cx.P cxRA) [(ResultVar.tmp 4)] 4 k))) := by
  have g := ra_loop sid ppid mtu st sr rr mm ri rmin rmax it pt al beat life tsn tk fr z uno xs sn s n N ts fs ss ns ps ds c M k l1 l2 l3 l4 l5 l6 hN hn hx hs hsl hT (N - 1) 1 (Nat.le_refl _) (by omega)
  have hi : 0 < N := by omega
  unfold piecesO
  rw [t_raA]
  have e0 : 0 + (0 : Int).toNat = 0 := rfl
  have e9 : addK .i64 0 1 = ((1 : Nat) : Int) := by rw [add64 (by omega)]; rfl
  have es : 0 + sid.toNat = sid.toNat := Nat.zero_add _
  have et : addK .u32 tsn (IntKind.wrap .u32 0) = tsnAdd tsn 0 := tsn_at tsn 0
  have r1 : fitL 0 n ts ++ [tsnAdd tsn 0] = ts ++ tsnL tsn 1 := by rw [fitL_same _ _ _ l1]; rfl
  have r2 : fitL 0 n fs ++ [(cutF uno N).getD 0 0] = fs ++ (cutF uno N).take 1 := by rw [fitL_same _ _ _ l2, ← take_snoc (cutF uno N) 0 0 (by rw [cutF_len]; exact hi)]; rfl
  have r3 : fitL 0 n ss ++ [sid] = ss ++ List.replicate 1 sid := by rw [fitL_same _ _ _ l3]; rfl
  have r4 : fitL 0 n ns ++ [ssnR uno sid sn] = ns ++ List.replicate 1 (ssnR uno sid sn) := by rw [fitL_same _ _ _ l4]; rfl
  have r5 : fitL 0 n ps ++ [ppid] = ps ++ List.replicate 1 ppid := by rw [fitL_same _ _ _ l5]; rfl
  have r6 : fitL [] n ds ++ [(cutD z xs).getD 0 []] = ds ++ (cutD z xs).take 1 := by rw [fitL_same _ _ _ l6, ← take_snoc (cutD z xs) 0 [] (by rw [hN]; exact hi)]; rfl
  rw [e0, e9, es, List.take_of_length_le (Nat.le_refl ((cutD z xs).getD 0 []).length), getD_repl _ _ hi, getD_repl _ _ hi, et]
  refine Again.mk (brt (by omega) (ndd (by omega) (ndd (by omega) (ndd (by omega) ?_))))
  cases uno with
  | true =>
    refine br (fun h => by cases h) (fun _ => ndd (by omega) (ndd (by omega) (evFuel (evFr g rfl ?_) (by omega))))
    rw [getD_repl _ _ hi]
    have z0 : ssnR true sid sn = 0 := rfl
    rw [z0] at r4
    simp only [piecesO, rdB, snO, r1, r2, r3, r4, r5, r6, z0]
  | false =>
    refine br (fun _ => ndd (by omega) (ndd (by omega) (ndd (by omega) (ndd (by omega) (ndd (by omega) (evFuel (evFr g rfl ?_) (by omega))))))) (fun h => by cases h)
    have z0 : ssnR false sid sn = sn.getD sid.toNat 0 := rfl
    rw [z0] at r4
    simp only [piecesO, rdB, snO, r1, r2, r3, r4, r5, r6, z0]
theorem racc_sum : SumOk Try.prog 20 sRAcc := by
  refine sumOk_of cxRA_ok sRAcc_lin fun args st k h => ?_
  unfold sRAcc at h
  split at h
  · rename_i sid uno ppid row sn n ts fs ss ns ps ds xs
    unfold q13 at h
    split at h
    case h_2 => exact h.elim
    rename_i mtu st sr rr mm ri rmin rmax it pt al beat life rest
    unfold q5 at h
    split at h
    case h_2 => exact h.elim
    rename_i tsn s r tk fr
    obtain ⟨h0, hk⟩ := need_iff.1 h
    clear h
    obtain ⟨hr, h3⟩ := Bool.and_eq_true_iff.1 h0
    clear h0
    obtain rfl := Nat.eq_of_beq_eq_true hr
    clear hr
    obtain ⟨h1, h2⟩ := Bool.and_eq_true_iff.1 h3
    clear h3
    obtain ⟨l1, l2, l3, l4, l5, l6, l7⟩ := pieOk_iff.1 h1
    obtain ⟨b1, b2, b3, b4, b5, b6, b7, b8, b9, b10, b11⟩ := of_decide_eq_true h2
    have hok : decide (ts.length = n ∧ fs.length = n ∧ ss.length = n ∧ ns.length = n ∧ ps.length = n ∧ ds.length = n ∧ n ≤ 1000000) = true := decide_eq_true ⟨l1, l2, l3, l4, l5, l6, l7⟩
    have w1 : IntKind.wrap .i64 sid = sid := Go.IntWalk.i64_in _ (by omega)
    have w2 : IntKind.wrap .i64 st = st := Go.IntWalk.i64_in _ (by omega)
    have em : subK .i64 mtu 28 = mtu - 28 := sub64 (by omega)
    have etk : bytesN ds 0 ((n : Nat) : Int) = lensL ds := by
      unfold bytesN
      rw [List.take_of_length_le (by omega)]; rfl
    refine ⟨cutN (cutS (mtu - 28) xs.length) xs.length + 60, ?_⟩
    have ht := t_ra0 sid ppid uno xs sn mtu st sr rr mm ri rmin rmax it pt al beat life tsn tk fr s n ts fs ss ns ps ds (cutN (cutS (mtu - 28) xs.length) xs.length) k
    unfold obj iv bv rdB at ht
    unfold iv rR at hk
    rw [ht, w1, w2, em, etk]
    rcases branch_or hk with ⟨e1, hk⟩ | ⟨e1, hk⟩
    · exact bret (by have := of_decide_eq_true e1; omega) hk
    refine bref (by have := of_decide_eq_false e1; omega) ?_
    rcases branch_or hk with ⟨e2, hk⟩ | ⟨e2, hk⟩
    · exact brt (of_decide_eq_true e2) hk
    refine brf (of_decide_eq_false e2) ?_
    rcases branch_or hk with ⟨e3, hk⟩ | ⟨e3, hk⟩
    · exact brt (of_decide_eq_true e3) hk
    refine brf (of_decide_eq_false e3) ?_
    refine nd (by rw [hok, show byOk n ds 0 ((n : Nat) : Int) = true from decide_eq_true ⟨by omega, by omega, by omega, b11⟩]; rfl) ?_
    rcases branch_or hk with ⟨e4, hk⟩ | ⟨e4, hk⟩
    · exact brt (of_decide_eq_true e4) hk
    refine brf (of_decide_eq_false e4) ?_
    have e1 := of_decide_eq_false e1
    have e2 := of_decide_eq_false e2
    have hNb := cutN_le (size := mtu - 28) (n := xs.length) (by omega) (by omega)
    refine ndd ⟨by omega, by omega⟩ (brf (by omega) ?_)
    have hd := ra_first sid ppid mtu st sr rr mm ri rmin rmax it pt al beat life tsn tk fr (mtu - 28) uno xs sn s n (cutN (cutS (mtu - 28) xs.length) xs.length) ts fs ss ns ps ds 0 (cutN (cutS (mtu - 28) xs.length) xs.length) k l1 l2 l3 l4 l5 l6 (cutD_len _ _) hNb.1 (by omega) b1 (by omega) (by omega) hk
    exact hd
  · exact h.elim
end Go.Ev
