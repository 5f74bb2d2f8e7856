/- Table: texts PlS, PlM, one behind the other. No conditions. -/
import Derived.Test.YtnfajlpjpalhcaaTmE
set_option linter.unusedVariables false
set_option linter.unusedSimpArgs false
section
namespace Go.Spec
open Go Go.Ev
def kE (l : Es) : List Kx := l.map (·.1)
theorem kE_append {a b : Es} : kE (a ++ b) = kE a ++ kE b := by simp [kE]
theorem shardE_len {D : TbD} {q : Int} : (shardE D q).length = (keysT D q).length := by simp [shardE]
theorem shardE_get {D : TbD} {q : Int} {j : Nat} {x : Kx} (h : (keysT D q)[j]? = some x) : (shardE D q)[j]? = some (x, valT D q x.1 x.2.1 x.2.2) := by simp [shardE, h]
theorem take_snoc {α : Type} {l : List α} {j : Nat} {x : α} (h : l[j]? = some x) : l.take (j + 1) = l.take j ++ [x] := by
  rw [List.take_add_one, h]; rfl
theorem kE_getD {l : Es} {i : Nat} {e : Kx × Int} (h : l[i]? = some e) : (colP (kE l)).getD i 0 = e.1.1 ∧ (colF (kE l)).getD i 0 = e.1.2.1 ∧ (colG (kE l)).getD i 0 = e.1.2.2 :=
  getD_colP (ks := kE l) (x := e.1) (by simp [kE, h])
theorem eV_snoc {l : Es} {e : Kx × Int} : eV (l ++ [e]) = eV l ++ [e.2] := by simp [eV]
theorem kE_snoc {l : Es} {e : Kx × Int} : kE (l ++ [e]) = kE l ++ [(e.1.1, e.1.2.1, e.1.2.2)] := by simp [kE]
theorem kE_len {l : Es} : lenK (kE l) = l.length := by simp [kE, lenK]
end Go.Spec
namespace Go.Ev
open Go Go.Proofs Go.Spec
set_option maxRecDepth 8000
set_option maxHeartbeats 2000000
attribute [local irreducible] ev evCall branch need again shR aheadE shI valT keysT getB getI setT dropE putE findE foundE
theorem pl_inner {s i p f g v : Int} {m : Nat} {kds c0 c1 c2 vs : List Int} {n : Int} {D : TbD} {es ws : Es} {M q F : Nat} {k : Exit → Fr → St → Prop} (h : RelT s D es) (hq : q < s.toNat) (hm : es.length ≤ 1000)
    (hk : ev cxPl (M + 60) 14 23 (codeAt Try.prog 23 [1, 1, 1, 0, 1, 0]) (frm 59 [(1, (.sa (.one (SC.ptr 12 0 0)))), (2, (.sa (.one (SC.ptr 14 0 0)))), (3, (.sa (.one (SC.ref 15)))), (4, (.sa (.one (SC.ptr 16 0 0)))), (11, .sa (kint n)), (12, .sa (kint ((q + 1 : Nat) : Int)))]) [rowD m kds c0 c1 c2 vs, obj 4 1 [bv false], tbox 3, some (.abs true 0 D), obj 28 1 [.ptr 5 0 0], rT s 6, rowE es, obj 38 5 [iv .i64 3, iv .u32 p, iv .u16 f, iv .u16 g, iv .i64 v], obj 29 1 [.ref 9], rowE ws, obj 3 1 [iv .i64 0], some (.clo (.func 23) [] [.one (.ptr 12 0 0)]), tbox 3, some (.lp true 3 (frm 221 [(0, .sa (kint s)), (4, (.sa (.one (SC.ptr 1 0 0)))), (5, (.sa (.one (SC.ptr 2 0 0)))), (7, (.sa (.one (SC.ptr 4 0 0)))), (9, (.sa (.one (SC.ptr 7 0 0)))), (13, (.sa (.one (SC.ptr 8 0 0)))), (14, (.sa (.one (SC.ptr 10 0 0)))), (51, (.sa (.one (SC.ref 0)))), (52, .sa (kint (m : Int))), (53, .sa (kint i)), (131, (.sa (.one (SC.ref 3)))), (132, (.sa (.one (SC.ref 11))))]) [133, 134] plA plB 0 none), obj 64 1 [.ref 13], rowX (kE (uptoE D (q + 1))), obj 65 1 [.ref 17], some (.own true .row 3 1 (.ints .i64 (eV (uptoE D (q + 1)))))] k) :
    ∀ (rem j : Nat), j + rem = (keysT D (q : Int)).length → ev cxPl (rem + F + 53) 14 23 (codeAt Try.prog 23 [1, 1, 1, 0, 1, 0, 0, 1, 1, 0, 0, 1, 1, 0]) (frm 59 [(1, (.sa (.one (SC.ptr 12 0 0)))), (2, (.sa (.one (SC.ptr 14 0 0)))), (3, (.sa (.one (SC.ref 15)))), (4, (.sa (.one (SC.ptr 16 0 0)))), (5, .sa (kint (q : Int))), (11, .sa (kint n)), (12, .sa (kint (q : Int))), (23, .sa (.one (.ref 18))), (24, .sa (kint ((lenK (keysT D (q : Int)) : Nat) : Int))), (25, .sa (kint (j : Int)))]) [rowD m kds c0 c1 c2 vs, obj 4 1 [bv false], tbox 3, some (.abs true 0 D), obj 28 1 [.ptr 5 0 0], rT s 6, rowE es, obj 38 5 [iv .i64 3, iv .u32 p, iv .u16 f, iv .u16 g, iv .i64 v], obj 29 1 [.ref 9], rowE ws, obj 3 1 [iv .i64 0], some (.clo (.func 23) [] [.one (.ptr 12 0 0)]), tbox 3, some (.lp true 3 (frm 221 [(0, .sa (kint s)), (4, (.sa (.one (SC.ptr 1 0 0)))), (5, (.sa (.one (SC.ptr 2 0 0)))), (7, (.sa (.one (SC.ptr 4 0 0)))), (9, (.sa (.one (SC.ptr 7 0 0)))), (13, (.sa (.one (SC.ptr 8 0 0)))), (14, (.sa (.one (SC.ptr 10 0 0)))), (51, (.sa (.one (SC.ref 0)))), (52, .sa (kint (m : Int))), (53, .sa (kint i)), (131, (.sa (.one (SC.ref 3)))), (132, (.sa (.one (SC.ref 11))))]) [133, 134] plA plB 0 none), obj 64 1 [.ref 13], rowX (kE (uptoE D q ++ (shardE D (q : Int)).take j)), obj 65 1 [.ref 17], some (.own true .row 3 1 (.ints .i64 (eV (uptoE D q ++ (shardE D (q : Int)).take j)))), rowX (keysT D (q : Int))] (kBlock 2 (kBlock 1 (kSeq (ev cxPl (M + 57) 14 23 (codeAt Try.prog 23 [1, 1, 1, 0, 1, 0, 0, 1, 1, 1])) (kSeq (ev cxPl (M + 60) 14 23 (codeAt Try.prog 23 [1, 1, 1, 0, 1, 0])) k)))) := by
  have hul := uptoE_len h (q + 1) (by omega)
  have hul2 : (uptoE D q).length + (keysT D (q : Int)).length ≤ 1000 := by
    have : (uptoE D (q + 1)).length = (uptoE D q).length + (shardE D (q : Int)).length := by show (uptoE D q ++ shardE D (q : Int)).length = _; simp
    rw [shardE_len] at this; omega
  have hsh : shT D = s := by unfold shT; rw [h.len]; have := h.lo; omega
  intro rem
  induction rem with
  | zero =>
    intro j hj
    rw [t_plE2 (L := 0 + F) (M := M)]
    refine ⟨brf (by show ¬ ((j : Int) < ((keysT D (q : Int)).length : Int)); omega) ?_⟩
    rw [show addK .i64 (q : Int) 1 = ((q + 1 : Nat) : Int) from by rw [add64 (by have := h.hi; omega)]; rfl]
    rw [show (shardE D (q : Int)).take j = shardE D (q : Int) from List.take_of_length_le (by rw [shardE_len]; omega)]
    exact hk
  | succ rem ih =>
    intro j hj
    have hjl : j < (keysT D (q : Int)).length := by omega
    obtain ⟨x, hx⟩ : ∃ x, (keysT D (q : Int))[j]? = some x := ⟨_, List.getElem?_eq_getElem hjl⟩
    obtain ⟨x0, x1, x2⟩ := getD_colP hx
    have hl : (uptoE D q ++ (shardE D (q : Int)).take j).length = (uptoE D q).length + j := by
      rw [List.length_append, List.length_take, shardE_len]; omega
    have hvl : (eV (uptoE D q ++ (shardE D (q : Int)).take j)).length = (uptoE D q).length + j := by rw [eP_len.2.2.2, hl]
    have hkl : lenK (kE (uptoE D q ++ (shardE D (q : Int)).take j)) = (uptoE D q).length + j := by rw [kE_len, hl]
    have hn := ih (j + 1) (by omega)
    rw [take_snoc (shardE_get hx), ← List.append_assoc] at hn
    rw [t_plE2 (L := rem + 1 + F) (M := M)]
    have hlk : lenK (keysT D (q : Int)) = (keysT D (q : Int)).length := rfl
    refine ⟨brt (by omega) (ndd (by omega) (ndd (by omega) (ndd (by omega) (hereI (ndd (by omega) (ndd (by omega) (ndd (by omega) (ndd (by omega) ?_))))))))⟩
    simp only [Int.toNat_natCast, Nat.zero_add]
    rw [x0, x1, x2, rowX_snoc]
    rw [eV_snoc, kE_snoc] at hn
    rw [show addK .i64 (j : Int) 1 = ((j + 1 : Nat) : Int) from by rw [add64 (by omega)]; rfl]
    rw [show rem + 1 + F + 52 = rem + F + 53 from by omega]
    exact hn
theorem pl_outer {s i p f g v : Int} {m : Nat} {kds c0 c1 c2 vs : List Int} {D : TbD} {es ws : Es} {M F : Nat} {k : Exit → Fr → St → Prop} (h : RelT s D es) (hm : es.length ≤ 1000)
    (hk : ev cxPl (M + 62) 14 23 (codeAt Try.prog 23 [1, 1, 1, 1, 0]) (frm 59 [(2, (.sa (.one (SC.ptr 14 0 0)))), (3, (.sa (.one (SC.ref 15)))), (4, (.sa (.one (SC.ptr 16 0 0))))]) [rowD m kds c0 c1 c2 vs, obj 4 1 [bv false], tbox 3, some (.abs true 0 D), obj 28 1 [.ptr 5 0 0], rT s 6, rowE es, obj 38 5 [iv .i64 3, iv .u32 p, iv .u16 f, iv .u16 g, iv .i64 v], obj 29 1 [.ref 9], rowE ws, obj 3 1 [iv .i64 0], some (.clo (.func 23) [] [.one (.ptr 12 0 0)]), tbox 3, some (.lp true 3 (frm 221 [(0, .sa (kint s)), (4, (.sa (.one (SC.ptr 1 0 0)))), (5, (.sa (.one (SC.ptr 2 0 0)))), (7, (.sa (.one (SC.ptr 4 0 0)))), (9, (.sa (.one (SC.ptr 7 0 0)))), (13, (.sa (.one (SC.ptr 8 0 0)))), (14, (.sa (.one (SC.ptr 10 0 0)))), (51, (.sa (.one (SC.ref 0)))), (52, .sa (kint (m : Int))), (53, .sa (kint i)), (131, (.sa (.one (SC.ref 3)))), (132, (.sa (.one (SC.ref 11))))]) [133, 134] plA plB 0 none), obj 64 1 [.ref 13], rowX (kE (eachE s es)), obj 65 1 [.ref 17], some (.own true .row 3 1 (.ints .i64 (eV (eachE s es))))] (kSeq (ev cxPl (M + 62) 14 23 (codeAt Try.prog 23 [1, 1, 1, 1, 1])) k)) :
    ∀ (rem q : Nat), q + rem = s.toNat → ev cxPl (rem + F + 2000 + 61) 14 23 (codeAt Try.prog 23 [1, 1, 1, 0, 1, 0]) (frm 59 [(1, (.sa (.one (SC.ptr 12 0 0)))), (2, (.sa (.one (SC.ptr 14 0 0)))), (3, (.sa (.one (SC.ref 15)))), (4, (.sa (.one (SC.ptr 16 0 0)))), (11, .sa (kint ((List.length D.sh : Nat) : Int))), (12, .sa (kint (q : Int)))]) [rowD m kds c0 c1 c2 vs, obj 4 1 [bv false], tbox 3, some (.abs true 0 D), obj 28 1 [.ptr 5 0 0], rT s 6, rowE es, obj 38 5 [iv .i64 3, iv .u32 p, iv .u16 f, iv .u16 g, iv .i64 v], obj 29 1 [.ref 9], rowE ws, obj 3 1 [iv .i64 0], some (.clo (.func 23) [] [.one (.ptr 12 0 0)]), tbox 3, some (.lp true 3 (frm 221 [(0, .sa (kint s)), (4, (.sa (.one (SC.ptr 1 0 0)))), (5, (.sa (.one (SC.ptr 2 0 0)))), (7, (.sa (.one (SC.ptr 4 0 0)))), (9, (.sa (.one (SC.ptr 7 0 0)))), (13, (.sa (.one (SC.ptr 8 0 0)))), (14, (.sa (.one (SC.ptr 10 0 0)))), (51, (.sa (.one (SC.ref 0)))), (52, .sa (kint (m : Int))), (53, .sa (kint i)), (131, (.sa (.one (SC.ref 3)))), (132, (.sa (.one (SC.ref 11))))]) [133, 134] plA plB 0 none), obj 64 1 [.ref 13], rowX (kE (uptoE D q)), obj 65 1 [.ref 17], some (.own true .row 3 1 (.ints .i64 (eV (uptoE D q))))] (kBlock 0 (kSeq (ev cxPl (M + 63) 14 23 (codeAt Try.prog 23 [1, 1, 1, 1])) k)) := by
  have hsh : shT D = s := by unfold shT; rw [h.len]; have := h.lo; omega
  have hhi := h.hi
  have hlen := h.len
  intro rem
  induction rem with
  | zero =>
    intro q hq
    rw [t_plE1 (L := 0 + F + 2000) (M := M)]
    refine ⟨brf (by omega) ?_⟩
    rw [show q = s.toNat from by omega, upto_each h]
    exact hk
  | succ rem ih =>
    intro q hq
    have hul := uptoE_len h (q + 1) (by omega)
    have hul2 : (uptoE D q).length + (keysT D (q : Int)).length ≤ 1000 := by
      have : (uptoE D (q + 1)).length = (uptoE D q).length + (shardE D (q : Int)).length := by show (uptoE D q ++ shardE D (q : Int)).length = _; simp
      rw [shardE_len] at this; omega
    have hlk : lenK (keysT D (q : Int)) = (keysT D (q : Int)).length := rfl
    rw [t_plE1 (L := rem + 1 + F + 2000) (M := M)]
    refine ⟨brt (by omega) (hereI (ndd (by omega) (ndd (by omega) (ndd (by omega) ?_))))⟩
    have hin := pl_inner (i := i) (p := p) (f := f) (g := g) (v := v) (m := m) (kds := kds) (c0 := c0) (c1 := c1) (c2 := c2) (vs := vs) (ws := ws) (n := ((List.length D.sh : Nat) : Int)) (M := rem + 1 + F + 2000) (F := rem + 1 + F + 2000 - (keysT D (q : Int)).length) (k := kBlock 0 (kSeq (ev cxPl (M + 63) 14 23 (codeAt Try.prog 23 [1, 1, 1, 1])) k)) h (q := q) (by omega) hm (by rw [show rem + 1 + F + 2000 + 60 = rem + F + 2000 + 61 from by omega]; exact ih (q + 1) (by omega)) (keysT D (q : Int)).length 0 (by omega)
    rw [List.take_zero, List.append_nil, show (keysT D (q : Int)).length + (rem + 1 + F + 2000 - (keysT D (q : Int)).length) + 53 = rem + 1 + F + 2000 + 53 from by omega] at hin
    exact hin
theorem pl_yieldB {s i p f g v : Int} {m : Nat} {kds c0 c1 c2 vs : List Int} {ws : Es} {M B F : Nat} {k : Exit → Fr → St → Prop} (hnd : (ws.map (·.1)).Nodup) (hwl : ws.length ≤ 1000) {N : Nat} (hN : N ≤ 1000)
    (hk : ∀ (D : TbD) (es : Es), RelT s D es → es.length ≤ N → ev cxPl (B + 82) 1 3 (codeAt Try.prog 3 [1, 1, 1, 1, 1, 1, 1, 0, 1, 0, 0, 1, 1, 0, 0, 1, 1, 0]) (frm 221 [(0, .sa (kint s)), (4, (.sa (.one (SC.ptr 1 0 0)))), (5, (.sa (.one (SC.ptr 2 0 0)))), (7, (.sa (.one (SC.ptr 4 0 0)))), (9, (.sa (.one (SC.ptr 7 0 0)))), (51, (.sa (.one (SC.ref 0)))), (52, .sa (kint (m : Int))), (53, .sa (kint i))]) [rowD m kds c0 c1 c2 vs, obj 4 1 [bv false], tbox 3, some (.abs true 0 D), obj 28 1 [.ptr 5 0 0], rT s 6, rowE es, obj 38 5 [iv .i64 3, iv .u32 p, iv .u16 f, iv .u16 g, iv .i64 v]] (kSeq (ev cxPl (B + 82) 1 3 (codeAt Try.prog 3 [1, 1, 1, 1, 1, 1, 1, 0, 1, 0, 0, 1, 1, 0, 0, 1, 1, 1])) k)) :
    ∀ (rem j : Nat) (D : TbD) (es gs : Es), j + rem = ws.length → RelT s D es → es.length ≤ N → (∀ e ∈ ws.drop j, e ∈ es) → (j = 0 ∨ (j : Int) < v) → ev cxPl (rem + F + 58) 21 34 (codeAt Try.prog 34 [1, 0]) (frm 18 [(0, (.sa (.one (SC.ref 20)))), (5, (.sa (.one (SC.ref 15)))), (6, .sa (kint ((lenK (kE ws) : Nat) : Int))), (7, .sa (kint (j : Int)))]) [rowD m kds c0 c1 c2 vs, obj 4 1 [bv false], tbox 3, some (.abs true 0 D), obj 28 1 [.ptr 5 0 0], rT s 21, rowE gs, obj 38 5 [iv .i64 3, iv .u32 p, iv .u16 f, iv .u16 g, iv .i64 v], obj 29 1 [.ref 9], rowE ws, obj 3 1 [iv .i64 (j : Int)], some (.clo (.func 23) [] [.one (.ptr 12 0 0)]), tbox 3, some (.lp true 3 (frm 221 [(0, .sa (kint s)), (4, (.sa (.one (SC.ptr 1 0 0)))), (5, (.sa (.one (SC.ptr 2 0 0)))), (7, (.sa (.one (SC.ptr 4 0 0)))), (9, (.sa (.one (SC.ptr 7 0 0)))), (13, (.sa (.one (SC.ptr 8 0 0)))), (14, (.sa (.one (SC.ptr 10 0 0)))), (51, (.sa (.one (SC.ref 0)))), (52, .sa (kint (m : Int))), (53, .sa (kint i)), (131, (.sa (.one (SC.ref 3)))), (132, (.sa (.one (SC.ref 11))))]) [133, 134] plA plB 0 none), obj 64 1 [.ref 13], rowX (kE ws), obj 65 1 [.ref 17], some (.own true .row 3 1 (.ints .i64 (eV ws))), some (.clo (.func 34) [] [.one (.ptr 19 0 0)]), obj 57 1 [.ref 15], some (.lp true 23 (frm 59 [(2, (.sa (.one (SC.ptr 14 0 0)))), (3, (.sa (.one (SC.ref 15)))), (4, (.sa (.one (SC.ptr 16 0 0)))), (47, (.sa (.one (SC.ref 15)))), (48, (.sa (.one (SC.ref 18))))]) [49, 50] (codeAt Try.prog 23 [1, 1, 1, 1, 1, 0, 0]) (codeAt Try.prog 23 [1, 1, 1, 1, 1, 0, 1]) 0 none), rowE es] (kBlock 0 (kRet (Cx.P cxPl) [] 21 (kRange (ev cxPl (M + 60)) 14 23 20 (frm 59 [(2, (.sa (.one (SC.ptr 14 0 0)))), (3, (.sa (.one (SC.ref 15)))), (4, (.sa (.one (SC.ptr 16 0 0)))), (47, (.sa (.one (SC.ref 15)))), (48, (.sa (.one (SC.ref 18))))]) (kBlock 4 (kRet (Cx.P cxPl) [] 14 (kRange (ev cxPl (B + 67)) 1 3 13 (frm 221 [(0, .sa (kint s)), (4, (.sa (.one (SC.ptr 1 0 0)))), (5, (.sa (.one (SC.ptr 2 0 0)))), (7, (.sa (.one (SC.ptr 4 0 0)))), (9, (.sa (.one (SC.ptr 7 0 0)))), (13, (.sa (.one (SC.ptr 8 0 0)))), (14, (.sa (.one (SC.ptr 10 0 0)))), (51, (.sa (.one (SC.ref 0)))), (52, .sa (kint (m : Int))), (53, .sa (kint i)), (131, (.sa (.one (SC.ref 3)))), (132, (.sa (.one (SC.ref 11))))]) (kBlock 3 (kSeq (ev cxPl (B + 70) 1 3 (codeAt Try.prog 3 [1, 1, 1, 1, 1, 1, 1, 0, 1, 0, 0, 1, 1, 0, 0, 1, 0, 1, 0, 1, 1, 1, 1, 1, 1, 1, 0, 1, 1, 1])) (kBlock 2 (kSeq (ev cxPl (B + 83) 1 3 (codeAt Try.prog 3 [1, 1, 1, 1, 1, 1, 1, 0, 1, 0, 0, 1, 1, 0, 0, 1, 1])) k)))))))))) := by
  intro rem
  induction rem with
  | zero =>
    intro j D es gs hj h hm hin hv
    have hlk : lenK (kE ws) = ws.length := kE_len
    have hlw : lenE ws = ws.length := rfl
    rw [t_plE4B (L := 0 + F) (M := M)]
    refine ⟨brf (by omega) ?_⟩
    refine Eq.mpr (t_plE6B (L := B) (j := 0) (gs := gs) (es := es) (D := D) (ws := ws) (ks := kE ws) (us := eV ws) ..) ?_
    refine brn (fun e => absurd ?_ e) fun _ => hk D es h hm
    repeat' split
    all_goals omega
  | succ rem ih =>
    intro j D es gs hj h hm hin hv
    have hjl : j < ws.length := by omega
    obtain ⟨e, he⟩ : ∃ e, ws[j]? = some e := ⟨_, List.getElem?_eq_getElem hjl⟩
    obtain ⟨q0, q1, q2, q3⟩ := eP_getD he
    obtain ⟨r0, r1, r2⟩ := kE_getD he
    have hed : e ∈ ws.drop j := List.mem_of_getElem? (i := 0) (by rw [List.getElem?_drop]; simpa using he)
    have hes : e ∈ es := hin e hed
    have hlk : lenK (kE ws) = ws.length := kE_len
    have hlw : lenE ws = ws.length := rfl
    have hle : lenE es = es.length := rfl
    have hvl : (eV ws).length = ws.length := eP_len.2.2.2
    have hf : foundE es e.1.1 e.1.2.1 e.1.2.2 = true := found_iff.2 ⟨e, hes, rfl⟩
    have hr' := h.drop (p := e.1.1) (f := e.1.2.1) (g := e.1.2.2) (h.wf e hes)
    have hl' := dropE_len (es := es) (p := e.1.1) (f := e.1.2.1) (g := e.1.2.2)
    have hin' : ∀ y ∈ ws.drop (j + 1), y ∈ dropE es e.1.1 e.1.2.1 e.1.2.2 := fun y hy => by
      have hdj : ws.drop j = e :: ws.drop (j + 1) := by
        obtain ⟨hj', hje⟩ := List.getElem?_eq_some_iff.1 he
        rw [List.drop_eq_getElem_cons hj', hje]
      have hyn : y.1 ≠ e.1 := fun ee => by
        have hnd' : ((ws.drop j).map (·.1)).Nodup := hnd.sublist ((List.drop_sublist j ws).map _)
        rw [hdj, List.map_cons, List.nodup_cons] at hnd'
        exact hnd'.1 (ee ▸ List.mem_map.2 ⟨y, hy, rfl⟩)
      unfold dropE
      rw [show (fun e_1 : Kx × Int => decide (e_1.1 = (e.1.1, e.1.2.1, e.1.2.2))) = (fun x => decide (x.1 = e.1)) from rfl, erase_filter h.nd]
      exact List.mem_filter.2 ⟨hin y (by rw [hdj]; exact List.mem_cons_of_mem _ hy), by simpa using hyn⟩
    rw [t_plE4B (L := rem + 1 + F) (M := M)]
    refine ⟨brt (by omega) (ndd (by omega) (ndd (by omega) (ndd (by omega) (ndd (by omega) (ndd (by omega) (ndd (by omega) (brf (by omega) (ndd (by omega) (ndd (by omega) (ndd (by omega) ?_))))))))))⟩
    simp only [Int.toNat_natCast, Nat.zero_add]
    rw [r0, r1, r2, q0, q1, q2, q3, toE_same, hf]
    rw [eqK_t.2 (rfl : e.1.1 = e.1.1), eqK_t.2 (rfl : e.1.2.1 = e.1.2.1), eqK_t.2 (rfl : e.1.2.2 = e.1.2.2), eqK_t.2 (rfl : e.2 = e.2)]
    refine br (fun x => by cases x) fun _ => ?_
    refine ndd (by omega) (ndd (by omega) (ndd (by omega) (br (fun x => by cases x) fun _ => need_iff.2 ⟨colsOk_es, ndd (by omega) (br (fun _ => ?_) (fun x => by cases x))⟩)))
    rw [show addK .i64 (j : Int) 1 = ((j + 1 : Nat) : Int) from by rw [add64 (by omega)]; rfl]
    refine brd (fun hb => ?_) (fun hb => ?_)
    · refine Eq.mpr (t_plE6C (L := B) (j := 0) (gs := gs) (ws := ws) (ks := kE ws) (us := eV ws) (nb := ((j + 1 : Nat) : Int)) (es := dropE es e.1.1 e.1.2.1 e.1.2.2) (D := setT D (e.1.1, (e.1.2.1, e.1.2.2)) none) ..) ?_
      refine brn (fun e => absurd ?_ e) fun _ => hk _ _ hr' (by omega)
      repeat' split
      all_goals omega
    · rw [show rem + 1 + F + 57 = rem + F + 58 from by omega]
      exact ih (j + 1) (setT D (e.1.1, (e.1.2.1, e.1.2.2)) none) (dropE es e.1.1 e.1.2.1 e.1.2.2) gs (by omega) hr' (by omega) hin' (by omega)
theorem pl_yieldA {s i p f g v : Int} {m : Nat} {kds c0 c1 c2 vs : List Int} {ws : Es} {M B F : Nat} {k : Exit → Fr → St → Prop} (hnd : (ws.map (·.1)).Nodup) (hwl : ws.length ≤ 1000) {N : Nat} (hN : N ≤ 1000)
    (hk : ∀ (D : TbD) (es : Es), RelT s D es → es.length ≤ N → ev cxPl (B + 82) 1 3 (codeAt Try.prog 3 [1, 1, 1, 1, 1, 1, 1, 0, 1, 0, 0, 1, 1, 0, 0, 1, 1, 0]) (frm 221 [(0, .sa (kint s)), (4, (.sa (.one (SC.ptr 1 0 0)))), (5, (.sa (.one (SC.ptr 2 0 0)))), (7, (.sa (.one (SC.ptr 4 0 0)))), (9, (.sa (.one (SC.ptr 7 0 0)))), (51, (.sa (.one (SC.ref 0)))), (52, .sa (kint (m : Int))), (53, .sa (kint i))]) [rowD m kds c0 c1 c2 vs, obj 4 1 [bv false], tbox 3, some (.abs true 0 D), obj 28 1 [.ptr 5 0 0], rT s 6, rowE es, obj 38 5 [iv .i64 3, iv .u32 p, iv .u16 f, iv .u16 g, iv .i64 v]] (kSeq (ev cxPl (B + 82) 1 3 (codeAt Try.prog 3 [1, 1, 1, 1, 1, 1, 1, 0, 1, 0, 0, 1, 1, 0, 0, 1, 1, 1])) k)) :
    ∀ (D : TbD) (es : Es), RelT s D es → es.length ≤ N → (∀ e ∈ ws, e ∈ es) → ev cxPl (F + 2000 + 58) 21 34 (codeAt Try.prog 34 [1, 0]) (frm 18 [(0, (.sa (.one (SC.ref 20)))), (5, (.sa (.one (SC.ref 15)))), (6, .sa (kint ((lenK (kE ws) : Nat) : Int))), (7, .sa (kint ((0 : Nat) : Int)))]) [rowD m kds c0 c1 c2 vs, obj 4 1 [bv false], tbox 3, some (.abs true 0 D), obj 28 1 [.ptr 5 0 0], rT s 6, rowE es, obj 38 5 [iv .i64 3, iv .u32 p, iv .u16 f, iv .u16 g, iv .i64 v], obj 29 1 [.ref 9], rowE ws, obj 3 1 [iv .i64 ((0 : Nat) : Int)], some (.clo (.func 23) [] [.one (.ptr 12 0 0)]), tbox 3, some (.lp true 3 (frm 221 [(0, .sa (kint s)), (4, (.sa (.one (SC.ptr 1 0 0)))), (5, (.sa (.one (SC.ptr 2 0 0)))), (7, (.sa (.one (SC.ptr 4 0 0)))), (9, (.sa (.one (SC.ptr 7 0 0)))), (13, (.sa (.one (SC.ptr 8 0 0)))), (14, (.sa (.one (SC.ptr 10 0 0)))), (51, (.sa (.one (SC.ref 0)))), (52, .sa (kint (m : Int))), (53, .sa (kint i)), (131, (.sa (.one (SC.ref 3)))), (132, (.sa (.one (SC.ref 11))))]) [133, 134] plA plB 0 none), obj 64 1 [.ref 13], rowX (kE ws), obj 65 1 [.ref 17], some (.own true .row 3 1 (.ints .i64 (eV ws))), some (.clo (.func 34) [] [.one (.ptr 19 0 0)]), obj 57 1 [.ref 15], some (.lp true 23 (frm 59 [(2, (.sa (.one (SC.ptr 14 0 0)))), (3, (.sa (.one (SC.ref 15)))), (4, (.sa (.one (SC.ptr 16 0 0)))), (47, (.sa (.one (SC.ref 15)))), (48, (.sa (.one (SC.ref 18))))]) [49, 50] (codeAt Try.prog 23 [1, 1, 1, 1, 1, 0, 0]) (codeAt Try.prog 23 [1, 1, 1, 1, 1, 0, 1]) 0 none)] (kBlock 0 (kRet (Cx.P cxPl) [] 21 (kRange (ev cxPl (M + 60)) 14 23 20 (frm 59 [(2, (.sa (.one (SC.ptr 14 0 0)))), (3, (.sa (.one (SC.ref 15)))), (4, (.sa (.one (SC.ptr 16 0 0)))), (47, (.sa (.one (SC.ref 15)))), (48, (.sa (.one (SC.ref 18))))]) (kBlock 4 (kRet (Cx.P cxPl) [] 14 (kRange (ev cxPl (B + 67)) 1 3 13 (frm 221 [(0, .sa (kint s)), (4, (.sa (.one (SC.ptr 1 0 0)))), (5, (.sa (.one (SC.ptr 2 0 0)))), (7, (.sa (.one (SC.ptr 4 0 0)))), (9, (.sa (.one (SC.ptr 7 0 0)))), (13, (.sa (.one (SC.ptr 8 0 0)))), (14, (.sa (.one (SC.ptr 10 0 0)))), (51, (.sa (.one (SC.ref 0)))), (52, .sa (kint (m : Int))), (53, .sa (kint i)), (131, (.sa (.one (SC.ref 3)))), (132, (.sa (.one (SC.ref 11))))]) (kBlock 3 (kSeq (ev cxPl (B + 70) 1 3 (codeAt Try.prog 3 [1, 1, 1, 1, 1, 1, 1, 0, 1, 0, 0, 1, 1, 0, 0, 1, 0, 1, 0, 1, 1, 1, 1, 1, 1, 1, 0, 1, 1, 1])) (kBlock 2 (kSeq (ev cxPl (B + 83) 1 3 (codeAt Try.prog 3 [1, 1, 1, 1, 1, 1, 1, 0, 1, 0, 0, 1, 1, 0, 0, 1, 1])) k)))))))))) := by
  intro D es h hm hin0
  rcases Nat.eq_zero_or_pos ws.length with hz | hz
  · have hlk : lenK (kE ws) = ws.length := kE_len
    have hlw : lenE ws = ws.length := rfl
    rw [t_plE4 (L := F + 2000) (M := M)]
    refine ⟨brf (by omega) ?_⟩
    refine Eq.mpr (t_plE6A (L := B) (j := 0) (es := es) (D := D) (ws := ws) (ks := kE ws) (us := eV ws) (gs := []) ..) ?_
    refine brn (fun e => absurd ?_ e) fun _ => hk D es h hm
    repeat' split
    all_goals omega
  · have hjl : 0 < ws.length := hz
    have hv : True := trivial
    obtain ⟨j, hj0⟩ : ∃ j : Nat, j = 0 := ⟨0, rfl⟩
    rw [show ((0 : Nat) : Int) = (j : Int) from by rw [hj0]]
    have hjl : j < ws.length := by omega
    have hin : ∀ e ∈ ws.drop j, e ∈ es := fun e he => hin0 e (List.mem_of_mem_drop he)
    obtain ⟨e, he⟩ : ∃ e, ws[j]? = some e := ⟨_, List.getElem?_eq_getElem hjl⟩
    obtain ⟨q0, q1, q2, q3⟩ := eP_getD he
    obtain ⟨r0, r1, r2⟩ := kE_getD he
    have hed : e ∈ ws.drop j := List.mem_of_getElem? (i := 0) (by rw [List.getElem?_drop]; simpa using he)
    have hes : e ∈ es := hin e hed
    have hlk : lenK (kE ws) = ws.length := kE_len
    have hlw : lenE ws = ws.length := rfl
    have hle : lenE es = es.length := rfl
    have hvl : (eV ws).length = ws.length := eP_len.2.2.2
    have hf : foundE es e.1.1 e.1.2.1 e.1.2.2 = true := found_iff.2 ⟨e, hes, rfl⟩
    have hr' := h.drop (p := e.1.1) (f := e.1.2.1) (g := e.1.2.2) (h.wf e hes)
    have hl' := dropE_len (es := es) (p := e.1.1) (f := e.1.2.1) (g := e.1.2.2)
    have hin' : ∀ y ∈ ws.drop (j + 1), y ∈ dropE es e.1.1 e.1.2.1 e.1.2.2 := fun y hy => by
      have hdj : ws.drop j = e :: ws.drop (j + 1) := by
        obtain ⟨hj', hje⟩ := List.getElem?_eq_some_iff.1 he
        rw [List.drop_eq_getElem_cons hj', hje]
      have hyn : y.1 ≠ e.1 := fun ee => by
        have hnd' : ((ws.drop j).map (·.1)).Nodup := hnd.sublist ((List.drop_sublist j ws).map _)
        rw [hdj, List.map_cons, List.nodup_cons] at hnd'
        exact hnd'.1 (ee ▸ List.mem_map.2 ⟨y, hy, rfl⟩)
      unfold dropE
      rw [show (fun e_1 : Kx × Int => decide (e_1.1 = (e.1.1, e.1.2.1, e.1.2.2))) = (fun x => decide (x.1 = e.1)) from rfl, erase_filter h.nd]
      exact List.mem_filter.2 ⟨hin y (by rw [hdj]; exact List.mem_cons_of_mem _ hy), by simpa using hyn⟩
    rw [t_plE4 (L := F + 2000) (M := M)]
    refine ⟨brt (by omega) (ndd (by omega) (ndd (by omega) (ndd (by omega) (ndd (by omega) (ndd (by omega) (ndd (by omega) (brf (by omega) (ndd (by omega) (ndd (by omega) (ndd (by omega) ?_))))))))))⟩
    simp only [Int.toNat_natCast, Nat.zero_add]
    rw [r0, r1, r2, q0, q1, q2, q3, toE_same, hf]
    rw [eqK_t.2 (rfl : e.1.1 = e.1.1), eqK_t.2 (rfl : e.1.2.1 = e.1.2.1), eqK_t.2 (rfl : e.1.2.2 = e.1.2.2), eqK_t.2 (rfl : e.2 = e.2)]
    refine br (fun x => by cases x) fun _ => ?_
    refine ndd (by omega) (ndd (by omega) (ndd (by omega) (br (fun x => by cases x) fun _ => need_iff.2 ⟨colsOk_es, ndd (by omega) (br (fun _ => ?_) (fun x => by cases x))⟩)))
    rw [show addK .i64 (j : Int) 1 = ((j + 1 : Nat) : Int) from by rw [add64 (by omega)]; rfl]
    refine brd (fun hb => ?_) (fun hb => ?_)
    · refine Eq.mpr (t_plE6C (L := B) (j := 0) (gs := es) (ws := ws) (ks := kE ws) (us := eV ws) (nb := ((j + 1 : Nat) : Int)) (es := dropE es e.1.1 e.1.2.1 e.1.2.2) (D := setT D (e.1.1, (e.1.2.1, e.1.2.2)) none) ..) ?_
      refine brn (fun e => absurd ?_ e) fun _ => hk _ _ hr' (by omega)
      repeat' split
      all_goals omega
    · rw [show F + 2000 + 57 = (ws.length - (j + 1)) + (F + 1999 - (ws.length - (j + 1))) + 58 from by omega]
      exact pl_yieldB (F := F + 1999 - (ws.length - (j + 1))) hnd hwl hN hk (ws.length - (j + 1)) (j + 1) (setT D (e.1.1, (e.1.2.1, e.1.2.2)) none) (dropE es e.1.1 e.1.2.1 e.1.2.2) es (by omega) hr' (by omega) hin' (by omega)
end Go.Ev
end
section
namespace Go.Ev
open Go Go.Proofs Go.Spec
set_option maxRecDepth 8000
set_option maxHeartbeats 2000000
attribute [local irreducible] ev evCall branch need again shR aheadE shI valT keysT getB getI setT dropE putE findE foundE
theorem pl_step {s i p f g v : Int} {m : Nat} {kds c0 c1 c2 vs : List Int} {kd : Int} {D : TbD} {es : Es} {L : Nat} {k : Exit → Fr → St → Prop} (h : RelT s D es) (hm : es.length ≤ 999) (hw : wfK (p, f, g)) (hL : 4100 ≤ L)
    (hk : ∀ (D' : TbD) (es' : Es), RelT s D' es' → es'.length ≤ es.length + 1 → ev cxPl (L + 82) 1 3 (codeAt Try.prog 3 [1, 1, 1, 1, 1, 1, 1, 0, 1, 0, 0, 1, 1, 0, 0, 1, 1, 0]) (frm 221 [(0, .sa (kint s)), (4, (.sa (.one (SC.ptr 1 0 0)))), (5, (.sa (.one (SC.ptr 2 0 0)))), (7, (.sa (.one (SC.ptr 4 0 0)))), (9, (.sa (.one (SC.ptr 7 0 0)))), (51, (.sa (.one (SC.ref 0)))), (52, .sa (kint (m : Int))), (53, .sa (kint i))]) [rowD m kds c0 c1 c2 vs, obj 4 1 [bv false], tbox 3, some (.abs true 0 D'), obj 28 1 [.ptr 5 0 0], rT s 6, rowE es', obj 38 5 [iv .i64 kd, iv .u32 p, iv .u16 f, iv .u16 g, iv .i64 v]] (kSeq (ev cxPl (L + 82) 1 3 (codeAt Try.prog 3 [1, 1, 1, 1, 1, 1, 1, 0, 1, 0, 0, 1, 1, 0, 0, 1, 1, 1])) k)) :
    ev cxPl (L + 80) 1 3 (codeAt Try.prog 3 [1, 1, 1, 1, 1, 1, 1, 0, 1, 0, 0, 1, 1, 0, 0, 1, 0, 1, 0, 0]) (frm 221 [(0, .sa (kint s)), (4, (.sa (.one (SC.ptr 1 0 0)))), (5, (.sa (.one (SC.ptr 2 0 0)))), (7, (.sa (.one (SC.ptr 4 0 0)))), (9, (.sa (.one (SC.ptr 7 0 0)))), (51, (.sa (.one (SC.ref 0)))), (52, .sa (kint (m : Int))), (53, .sa (kint i)), (58, .sa (kint kd))]) [rowD m kds c0 c1 c2 vs, obj 4 1 [bv false], tbox 3, some (.abs true 0 D), obj 28 1 [.ptr 5 0 0], rT s 6, rowE es, obj 38 5 [iv .i64 kd, iv .u32 p, iv .u16 f, iv .u16 g, iv .i64 v]] (kSeq (ev cxPl (L + 80) 1 3 (codeAt Try.prog 3 [1, 1, 1, 1, 1, 1, 1, 0, 1, 0, 0, 1, 1, 0, 0, 1, 0, 1, 0, 1])) (kBlock 2 (kSeq (ev cxPl (L + 83) 1 3 (codeAt Try.prog 3 [1, 1, 1, 1, 1, 1, 1, 0, 1, 0, 0, 1, 1, 0, 0, 1, 1])) k))) := by
  have hle : lenE es = es.length := rfl
  have hkd : kd = 0 ∨ kd = 1 ∨ kd = 2 ∨ kd = 3 ∨ (∃ n : Nat, kd = Int.ofNat (n + 4)) ∨ ∃ n : Nat, kd = Int.negSucc n := by
    rcases kd with n | n
    · rcases n with _ | _ | _ | _ | n
      · exact .inl rfl
      · exact .inr (.inl rfl)
      · exact .inr (.inr (.inl rfl))
      · exact .inr (.inr (.inr (.inl rfl)))
      · exact .inr (.inr (.inr (.inr (.inl ⟨n, rfl⟩))))
    · exact .inr (.inr (.inr (.inr (.inr ⟨n, rfl⟩))))
  have hdl := dropE_len (es := es) (p := p) (f := f) (g := g)
  rcases hkd with rfl | rfl | rfl | rfl | ⟨n, rfl⟩ | ⟨n, rfl⟩
  · have h' := h.put (v := v) hw
    have hl' := putE_len (es := es) (p := p) (f := f) (g := g) (v := v)
    rw [t_plK0]
    refine ⟨need_iff.2 ⟨colsOk_es, ndd (by omega) ?_⟩⟩
    rw [toE_same]
    exact br (fun _ => hk _ _ h' hl') fun _ => hk _ _ h' hl'
  · rw [t_plK1]
    refine ⟨ndd (by omega) ?_⟩
    rw [toE_same, h.getB hw]
    have hsame := hk D es h (by omega)
    have hgi := h.getI hw
    rcases find_spec (es := es) (p := p) (f := f) (g := g) with ⟨g1, g2, g3⟩ | ⟨j, g1, g2, g3, _, g5, _⟩
    · rw [g1, g2]
      rw [decide_eq_false (by omega)]
      refine br (fun e => by cases e) fun _ => br (fun e => by cases e) fun _ => br (fun _ => ?_) fun e => by cases e
      exact brn (fun e => absurd (hgi.1 g1) e) fun _ => hsame
    · rw [g1, g2]
      rw [decide_eq_true (by omega)]
      refine br (fun e => by cases e) fun _ => br (fun _ => ?_) fun e => by cases e
      refine need_iff.2 ⟨rfl, ndd (by omega) (ndd (by omega) ?_)⟩
      simp only [Int.toNat_natCast, Nat.zero_add]
      exact brn (fun e => absurd (hgi.2 j g5) e) fun _ => br (fun e => by cases e) fun _ => hsame
  · rw [t_plK2]
    refine ⟨need_iff.2 ⟨colsOk_es, ndd (by omega) ?_⟩⟩
    rw [toE_same, h.getB hw]
    have h' := h.drop hw
    rcases find_spec (es := es) (p := p) (f := f) (g := g) with ⟨g1, g2, g3⟩ | ⟨j, g1, g2, g3, _, g5, _⟩
    · rw [g1]
      rw [g3] at h'
      exact br (fun e => by cases e) fun _ => br (fun e => by cases e) fun _ => hk _ _ h' (by omega)
    · rw [g1]
      exact br (fun _ => br (fun e => by cases e) fun _ => hk _ _ h' (by omega)) fun e => by cases e
  · rw [t_plK3]
    have hhi := h.hi
    have hlo := h.lo
    refine ⟨need_iff.2 ⟨colsOk_es, need_iff.2 ⟨byN_iff.2 ⟨h.lo, h.hi⟩, ndd (by omega) ?_⟩⟩⟩
    rw [toE_same]
    refine Eq.mpr (t_plE0 (L := L) (ws := eachE s es) (nb := 0) (es := es) (D := D) ..) ⟨?_⟩
    have ho := pl_outer (i := i) (p := p) (f := f) (g := g) (v := v) (m := m) (kds := kds) (c0 := c0) (c1 := c1) (c2 := c2) (vs := vs) (ws := eachE s es) (M := L) (F := L - 2000 - s.toNat) (k := kRet (Cx.P cxPl) [] 14 (kRange (ev cxPl (L + 67)) 1 3 13 (frm 221 [(0, .sa (kint s)), (4, (.sa (.one (SC.ptr 1 0 0)))), (5, (.sa (.one (SC.ptr 2 0 0)))), (7, (.sa (.one (SC.ptr 4 0 0)))), (9, (.sa (.one (SC.ptr 7 0 0)))), (13, (.sa (.one (SC.ptr 8 0 0)))), (14, (.sa (.one (SC.ptr 10 0 0)))), (51, (.sa (.one (SC.ref 0)))), (52, .sa (kint (m : Int))), (53, .sa (kint i)), (131, (.sa (.one (SC.ref 3)))), (132, (.sa (.one (SC.ref 11))))]) (kBlock 3 (kSeq (ev cxPl (L + 70) 1 3 (codeAt Try.prog 3 [1, 1, 1, 1, 1, 1, 1, 0, 1, 0, 0, 1, 1, 0, 0, 1, 0, 1, 0, 1, 1, 1, 1, 1, 1, 1, 0, 1, 1, 1])) (kBlock 2 (kSeq (ev cxPl (L + 83) 1 3 (codeAt Try.prog 3 [1, 1, 1, 1, 1, 1, 1, 0, 1, 0, 0, 1, 1, 0, 0, 1, 1])) k)))))) h (by omega) ?_ s.toNat 0 (by omega)
    · rw [show s.toNat + (L - 2000 - s.toNat) + 2000 + 61 = L + 61 from by omega] at ho
      exact ho
    · refine Eq.mpr (t_plE3 (L := L) (ws := eachE s es) (nb := 0) (es := es) (D := D) (ks := kE (eachE s es)) (us := eV (eachE s es)) ..) ⟨?_⟩
      have hy := pl_yieldA (i := i) (p := p) (f := f) (g := g) (v := v) (m := m) (kds := kds) (c0 := c0) (c1 := c1) (c2 := c2) (vs := vs) (ws := eachE s es) (M := L) (B := L) (F := L - 2000) (k := k) (eachE_nd h) (by rw [eachE_len]; omega) (N := es.length) (by omega) (fun D' es' h' hl' => hk D' es' h' (by omega)) D es h (by omega) (fun e he => ((eachE_facts h.nd).1 e).1 he)
      rw [show L - 2000 + 2000 + 58 = L + 58 from by omega] at hy
      exact hy
  · rw [t_plK4]
    exact ⟨hk D es h (by omega)⟩
  · rw [t_plK5]
    exact ⟨hk D es h (by omega)⟩
theorem pl_loop {s : Int} {m M : Nat} {kds c0 c1 c2 vs : List Int} {k : SV → St → Prop} (hm : m ≤ 300) (hw : ∀ j : Nat, wfK (c0.getD j 0, c1.getD j 0, c2.getD j 0)) (hk : k (.sa (.one (bv true))) [rowD m kds c0 c1 c2 vs]) :
    ∀ (rem j : Nat) (D : TbD) (es : Es), j + rem = m → RelT s D es → es.length ≤ j → ev cxPl (rem + 5000 + 90) 1 3 (codeAt Try.prog 3 [1, 1, 1, 1, 1, 1, 1, 0, 1, 0]) (frm 221 [(0, .sa (kint s)), (4, (.sa (.one (SC.ptr 1 0 0)))), (5, (.sa (.one (SC.ptr 2 0 0)))), (7, (.sa (.one (SC.ptr 4 0 0)))), (51, (.sa (.one (SC.ref 0)))), (52, .sa (kint (m : Int))), (53, .sa (kint (j : Int)))]) [rowD m kds c0 c1 c2 vs, obj 4 1 [bv false], tbox 3, some (.abs true 0 D), obj 28 1 [.ptr 5 0 0], rT s 6, rowE es] (kBlock 0 (kSeq (ev cxPl (M + 92) 1 3 (codeAt Try.prog 3 [1, 1, 1, 1, 1, 1, 1, 1])) (kRet (Cx.P cxPl) [(ResultVar.cell 4 4)] 1 k))) := by
  intro rem
  induction rem with
  | zero =>
    intro j D es hj h hl
    rw [t_plA (L := 0 + 5000)]
    refine ⟨brf (by omega) (kBexit ?_)⟩
    exact Eq.mpr (t_plX (L := M) (es := es) (D := D) ..) hk
  | succ rem ih =>
    intro j D es hj h hl
    rw [t_plA (L := rem + 1 + 5000)]
    refine ⟨brt (by omega) (ndd (by omega) (ndd (by omega) (ndd (by omega) ?_)))⟩
    simp only [Int.toNat_natCast, Nat.zero_add]
    refine pl_step (L := rem + 1 + 5000) h (by omega) (hw j) (by omega) fun D' es' h' hl' => ?_
    have hle : lenE es' = es'.length := rfl
    rw [t_plZ (L := rem + 1 + 5000)]
    have hsh := shE_in (hw j) h'.lo h'.hi
    have hsI : shI (List.length D'.sh) (c0.getD j 0) (c1.getD j 0) (c2.getD j 0) = shR s (c0.getD j 0) (c1.getD j 0) (c2.getD j 0) := by rw [h'.len]; exact shI_eq (hw j) h'.lo h'.hi
    have hby : byN s = true := byN_iff.2 ⟨h'.lo, h'.hi⟩
    have hct : cntT D' (shR s (c0.getD j 0) (c1.getD j 0) (c2.getD j 0)) = cntE es' s (shR s (c0.getD j 0) (c1.getD j 0) (c2.getD j 0)) := h'.cntT hsh.1 hsh.2
    rw [toE_same, hsI, h'.lenT (by omega), h'.cntN, hct]
    refine ⟨ndd (by show D'.sh.length ≤ 64; rw [h'.len]; have := h'.hi; omega) (brnn (need_iff.2 ⟨hby, brnn (need_iff.2 ⟨hby, ndd (by omega) (brnn (brnn ?_))⟩)⟩))⟩
    rw [show addK .i64 (j : Int) 1 = ((j + 1 : Nat) : Int) from by rw [add64 (by omega)]; rfl]
    rw [show rem + 1 + 5000 + 89 = rem + 5000 + 90 from by omega]
    exact ih (j + 1) D' es' (by omega) h' (by omega)
theorem pl_ex (s : Int) (m : Nat) (kds c0 c1 c2 vs : List Int) (hw : ∀ j : Nat, wfK (c0.getD j 0, c1.getD j 0, c2.getD j 0)) (k : SV → St → Prop) (hT : ∀ st, k (.sa (.one (bv true))) st) :
    ∃ N, evCall cxPl (ev cxPl N) 3 [.one (.raw (.int .i64 s)), .one (.ref 0)] [some (.own false .ext 0 5 (.tab m [.ints .i64 kds, .ints .u32 c0, .ints .u16 c1, .ints .u16 c2, .ints .i64 vs]))] k := by
  refine ⟨m + 5000 + 100, Eq.mpr (t_pl (L := m + 5000) (s := s) (m := m) (kd := kds) (c0 := c0) (c1 := c1) (c2 := c2) (vs := vs) ..) ?_⟩
  refine brd (fun _ => hT _) fun hm => ?_
  refine brd (fun h1 => brt h1 (hT _)) fun h1 => ?_
  refine brd (fun h2 => brf h1 (brt h2 (hT _))) fun h2 => ?_
  refine brf h1 (brf h2 ?_)
  have hr := RelT.empty (s := s) (by omega) (by omega)
  have hlen := hr.len
  refine brn (fun e => absurd ?_ e) fun _ => ?_
  · rw [hlen]; omega
  · exact pl_loop (M := m + 5000) (by omega) hw (hT _) m 0 (emptyT s) [] (by omega) hr (by simp)
theorem getD_in {l : List Int} {n : Int} (h0 : 0 ≤ n) (h : ∀ x ∈ l, 0 ≤ x ∧ x ≤ n) (j : Nat) : 0 ≤ l.getD j 0 ∧ l.getD j 0 ≤ n := by
  rw [List.getD_eq_getElem?_getD]
  cases e : l[j]? with
  | none => exact ⟨by simp, by simpa using h0⟩
  | some x => exact h x (List.mem_of_getElem? e)
theorem pl_go (s : Int) (m : Nat) (kds c0 c1 c2 vs : List Int) (h0 : ∀ x ∈ c0, 0 ≤ x ∧ x ≤ 4294967295) (h1 : ∀ x ∈ c1, 0 ≤ x ∧ x ≤ 65535) (h2 : ∀ x ∈ c2, 0 ≤ x ∧ x ≤ 65535) (k : SV → St → Prop) (hT : ∀ st, k (.sa (.one (bv true))) st) :
    ∃ N, evCall cxPl (ev cxPl N) 3 [.one (.raw (.int .i64 s)), .one (.ref 0)] [some (.own false .ext 0 5 (.tab m [.ints .i64 kds, .ints .u32 c0, .ints .u16 c1, .ints .u16 c2, .ints .i64 vs]))] k :=
  pl_ex s m kds c0 c1 c2 vs (fun j => by
    have a := getD_in (by decide) h0 j
    have b := getD_in (by decide) h1 j
    have c := getD_in (by decide) h2 j
    exact ⟨⟨a.1, by show c0.getD j 0 < _; omega⟩, ⟨b.1, by show c1.getD j 0 < _; omega⟩, ⟨c.1, by show c2.getD j 0 < _; omega⟩⟩) k hT
theorem cxPl_ok : CxOk Try.prog cxPl := (mkCx_ok namesT mixedT (by
  intro y h
  rcases List.mem_append.1 h with h | h
  · exact sumsT_ok y h
  · simp only [List.mem_cons, List.not_mem_nil, or_false] at h
    subst h
    exact known_sum)).withHand handsT_ok
end Go.Ev
end
