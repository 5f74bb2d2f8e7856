/- Table: texts ShS, ShM, one behind the other. No conditions. -/
import Derived.Test.YtnfajlpjpalhcaaTsE
set_option linter.unusedVariables false
set_option linter.unusedSimpArgs false
section
namespace Go.Spec
open Go Go.Ev
def kE (l : Es) : List Kx := l.map (·.1)
theorem kE_append {a b : Es} : kE (a ++ b) = kE a ++ kE b := by simp [kE]
theorem shardE_len {D : TbD} {q : Int} : (shardE D q).length = (keysT D q).length := by simp [shardE]
theorem shardE_get {D : TbD} {q : Int} {j : Nat} {x : Kx} (h : (keysT D q)[j]? = some x) : (shardE D q)[j]? = some (x, valT D q x.1 x.2.1 x.2.2) := by simp [shardE, h]
theorem take_snoc {α : Type} {l : List α} {j : Nat} {x : α} (h : l[j]? = some x) : l.take (j + 1) = l.take j ++ [x] := by
  rw [List.take_add_one, h]; rfl
theorem kE_getD {l : Es} {i : Nat} {e : Kx × Int} (h : l[i]? = some e) : (colP (kE l)).getD i 0 = e.1.1 ∧ (colF (kE l)).getD i 0 = e.1.2.1 ∧ (colG (kE l)).getD i 0 = e.1.2.2 :=
  getD_colP (ks := kE l) (x := e.1) (by simp [kE, h])
theorem eV_snoc {l : Es} {e : Kx × Int} : eV (l ++ [e]) = eV l ++ [e.2] := by simp [eV]
theorem kE_snoc {l : Es} {e : Kx × Int} : kE (l ++ [e]) = kE l ++ [(e.1.1, e.1.2.1, e.1.2.2)] := by simp [kE]
theorem kE_len {l : Es} : lenK (kE l) = l.length := by simp [kE, lenK]
theorem keys_addM {rs : List MapEntry} {p f g v : Int} {b : Nat} : keysR (addM rs p f g v b) = (p, f, g) :: keysR rs := rfl
theorem RelT.getV {s : Int} {D : TbD} {es : Es} (h : RelT s D es) {e : Kx × Int} (he : e ∈ es) : Go.Spec.getI D e.1.1 e.1.2.1 e.1.2.2 = e.2 := by
  unfold Go.Spec.getI
  rw [show ((e.1.1, e.1.2.1, e.1.2.2) : Kx) = e.1 from rfl, (h.get (h.wf e he)).1 e.2 he]; rfl
end Go.Spec
namespace Go.Ev
open Go Go.Proofs Go.Spec
set_option maxRecDepth 8000
set_option maxHeartbeats 2000000
attribute [local irreducible] ev evCall branch need again shR aheadE shI valT keysT getB getI setT dropE putE findE foundE freshM
theorem sh_inner {a la : Int} {m n : Nat} {c0 c1 c2 d0 d1 d2 : List Int} {nn : Int} {D D2 : TbD} {es : Es} {M q F : Nat} {k : Exit → Fr → St → Prop} (h : RelT a D es) (hq : q < a.toNat) (hm : es.length ≤ 1000)
    (hk : ev cxSh (M + 60) 13 23 (codeAt Try.prog 23 [1, 1, 1, 0, 1, 0]) (frm 59 [(1, (.sa (.one (SC.ptr 11 0 0)))), (2, (.sa (.one (SC.ptr 13 0 0)))), (3, (.sa (.one (SC.ref 14)))), (4, (.sa (.one (SC.ptr 15 0 0)))), (11, .sa (kint nn)), (12, .sa (kint ((q + 1 : Nat) : Int)))]) [rowKs m c0 c1 c2, rowKs n d0 d1 d2, obj 4 1 [bv false], tbox 4, some (.abs true 0 D), tbox 6, some (.abs true 0 D2), obj 58 1 [.ref 8], some (.mp true [] 0), obj 3 1 [iv .i64 la], some (.clo (.func 23) [] [.one (.ptr 11 0 0)]), tbox 4, some (.lp true 4 (frm 147 [(0, .sa (kint a)), (8, (.sa (.one (.ptr 2 0 0)))), (9, (.sa (.one (.ptr 3 0 0)))), (11, (.sa (.one (.ptr 5 0 0)))), (17, (.sa (.one (.ptr 7 0 0)))), (18, (.sa (.one (.ptr 9 0 0)))), (87, (.sa (.one (.ref 4)))), (88, (.sa (.one (.ref 10))))]) [89, 90] (codeAt Try.prog 4 [1, 1, 1, 1, 1, 1, 1, 1, 1, 1, 1, 0, 1, 0, 0]) (codeAt Try.prog 4 [1, 1, 1, 1, 1, 1, 1, 1, 1, 1, 1, 0, 1, 0, 1]) 0 none), obj 64 1 [.ref 12], rowX (kE (uptoE D (q + 1))), obj 65 1 [.ref 16], some (.own true .row 3 1 (.ints .i64 (eV (uptoE D (q + 1)))))] k) :
    ∀ (rem j : Nat), j + rem = (keysT D (q : Int)).length → ev cxSh (rem + F + 53) 13 23 (codeAt Try.prog 23 [1, 1, 1, 0, 1, 0, 0, 1, 1, 0, 0, 1, 1, 0]) (frm 59 [(1, (.sa (.one (SC.ptr 11 0 0)))), (2, (.sa (.one (SC.ptr 13 0 0)))), (3, (.sa (.one (SC.ref 14)))), (4, (.sa (.one (SC.ptr 15 0 0)))), (5, .sa (kint (q : Int))), (11, .sa (kint nn)), (12, .sa (kint (q : Int))), (23, .sa (.one (.ref 17))), (24, .sa (kint ((lenK (keysT D (q : Int)) : Nat) : Int))), (25, .sa (kint (j : Int)))]) [rowKs m c0 c1 c2, rowKs n d0 d1 d2, obj 4 1 [bv false], tbox 4, some (.abs true 0 D), tbox 6, some (.abs true 0 D2), obj 58 1 [.ref 8], some (.mp true [] 0), obj 3 1 [iv .i64 la], some (.clo (.func 23) [] [.one (.ptr 11 0 0)]), tbox 4, some (.lp true 4 (frm 147 [(0, .sa (kint a)), (8, (.sa (.one (.ptr 2 0 0)))), (9, (.sa (.one (.ptr 3 0 0)))), (11, (.sa (.one (.ptr 5 0 0)))), (17, (.sa (.one (.ptr 7 0 0)))), (18, (.sa (.one (.ptr 9 0 0)))), (87, (.sa (.one (.ref 4)))), (88, (.sa (.one (.ref 10))))]) [89, 90] (codeAt Try.prog 4 [1, 1, 1, 1, 1, 1, 1, 1, 1, 1, 1, 0, 1, 0, 0]) (codeAt Try.prog 4 [1, 1, 1, 1, 1, 1, 1, 1, 1, 1, 1, 0, 1, 0, 1]) 0 none), obj 64 1 [.ref 12], rowX (kE (uptoE D q ++ (shardE D (q : Int)).take j)), obj 65 1 [.ref 16], some (.own true .row 3 1 (.ints .i64 (eV (uptoE D q ++ (shardE D (q : Int)).take j)))), rowX (keysT D (q : Int))] (kBlock 2 (kBlock 1 (kSeq (ev cxSh (M + 57) 13 23 (codeAt Try.prog 23 [1, 1, 1, 0, 1, 0, 0, 1, 1, 1])) (kSeq (ev cxSh (M + 60) 13 23 (codeAt Try.prog 23 [1, 1, 1, 0, 1, 0])) k)))) := by
  have hul := uptoE_len h (q + 1) (by omega)
  have hul2 : (uptoE D q).length + (keysT D (q : Int)).length ≤ 1000 := by
    have : (uptoE D (q + 1)).length = (uptoE D q).length + (shardE D (q : Int)).length := by show (uptoE D q ++ shardE D (q : Int)).length = _; simp
    rw [shardE_len] at this; omega
  have hsh : shT D = a := by unfold shT; rw [h.len]; have := h.lo; omega
  intro rem
  induction rem with
  | zero =>
    intro j hj
    rw [t_shE2 (L := 0 + F) (M := M)]
    refine ⟨brf (by show ¬ ((j : Int) < ((keysT D (q : Int)).length : Int)); omega) ?_⟩
    rw [show addK .i64 (q : Int) 1 = ((q + 1 : Nat) : Int) from by rw [add64 (by have := h.hi; omega)]; rfl]
    rw [show (shardE D (q : Int)).take j = shardE D (q : Int) from List.take_of_length_le (by rw [shardE_len]; omega)]
    exact hk
  | succ rem ih =>
    intro j hj
    have hjl : j < (keysT D (q : Int)).length := by omega
    obtain ⟨x, hx⟩ : ∃ x, (keysT D (q : Int))[j]? = some x := ⟨_, List.getElem?_eq_getElem hjl⟩
    obtain ⟨x0, x1, x2⟩ := getD_colP hx
    have hl : (uptoE D q ++ (shardE D (q : Int)).take j).length = (uptoE D q).length + j := by
      rw [List.length_append, List.length_take, shardE_len]; omega
    have hvl : (eV (uptoE D q ++ (shardE D (q : Int)).take j)).length = (uptoE D q).length + j := by rw [eP_len.2.2.2, hl]
    have hkl : lenK (kE (uptoE D q ++ (shardE D (q : Int)).take j)) = (uptoE D q).length + j := by rw [kE_len, hl]
    have hn := ih (j + 1) (by omega)
    rw [take_snoc (shardE_get hx), ← List.append_assoc] at hn
    rw [t_shE2 (L := rem + 1 + F) (M := M)]
    have hlk : lenK (keysT D (q : Int)) = (keysT D (q : Int)).length := rfl
    refine ⟨brt (by omega) (ndd (by omega) (ndd (by omega) (ndd (by omega) (hereI (ndd (by omega) (ndd (by omega) (ndd (by omega) (ndd (by omega) ?_))))))))⟩
    simp only [Int.toNat_natCast, Nat.zero_add]
    rw [x0, x1, x2, rowX_snoc]
    rw [eV_snoc, kE_snoc] at hn
    rw [show addK .i64 (j : Int) 1 = ((j + 1 : Nat) : Int) from by rw [add64 (by omega)]; rfl]
    rw [show rem + 1 + F + 52 = rem + F + 53 from by omega]
    exact hn
theorem sh_outer {a la : Int} {m n : Nat} {c0 c1 c2 d0 d1 d2 : List Int} {D D2 : TbD} {es : Es} {M F : Nat} {k : Exit → Fr → St → Prop} (h : RelT a D es) (hm : es.length ≤ 1000)
    (hk : ev cxSh (M + 62) 13 23 (codeAt Try.prog 23 [1, 1, 1, 1, 0]) (frm 59 [(2, (.sa (.one (SC.ptr 13 0 0)))), (3, (.sa (.one (SC.ref 14)))), (4, (.sa (.one (SC.ptr 15 0 0))))]) [rowKs m c0 c1 c2, rowKs n d0 d1 d2, obj 4 1 [bv false], tbox 4, some (.abs true 0 D), tbox 6, some (.abs true 0 D2), obj 58 1 [.ref 8], some (.mp true [] 0), obj 3 1 [iv .i64 la], some (.clo (.func 23) [] [.one (.ptr 11 0 0)]), tbox 4, some (.lp true 4 (frm 147 [(0, .sa (kint a)), (8, (.sa (.one (.ptr 2 0 0)))), (9, (.sa (.one (.ptr 3 0 0)))), (11, (.sa (.one (.ptr 5 0 0)))), (17, (.sa (.one (.ptr 7 0 0)))), (18, (.sa (.one (.ptr 9 0 0)))), (87, (.sa (.one (.ref 4)))), (88, (.sa (.one (.ref 10))))]) [89, 90] (codeAt Try.prog 4 [1, 1, 1, 1, 1, 1, 1, 1, 1, 1, 1, 0, 1, 0, 0]) (codeAt Try.prog 4 [1, 1, 1, 1, 1, 1, 1, 1, 1, 1, 1, 0, 1, 0, 1]) 0 none), obj 64 1 [.ref 12], rowX (kE (eachE a es)), obj 65 1 [.ref 16], some (.own true .row 3 1 (.ints .i64 (eV (eachE a es))))] (kSeq (ev cxSh (M + 62) 13 23 (codeAt Try.prog 23 [1, 1, 1, 1, 1])) k)) :
    ∀ (rem q : Nat), q + rem = a.toNat → ev cxSh (rem + F + 2000 + 61) 13 23 (codeAt Try.prog 23 [1, 1, 1, 0, 1, 0]) (frm 59 [(1, (.sa (.one (SC.ptr 11 0 0)))), (2, (.sa (.one (SC.ptr 13 0 0)))), (3, (.sa (.one (SC.ref 14)))), (4, (.sa (.one (SC.ptr 15 0 0)))), (11, .sa (kint ((List.length D.sh : Nat) : Int))), (12, .sa (kint (q : Int)))]) [rowKs m c0 c1 c2, rowKs n d0 d1 d2, obj 4 1 [bv false], tbox 4, some (.abs true 0 D), tbox 6, some (.abs true 0 D2), obj 58 1 [.ref 8], some (.mp true [] 0), obj 3 1 [iv .i64 la], some (.clo (.func 23) [] [.one (.ptr 11 0 0)]), tbox 4, some (.lp true 4 (frm 147 [(0, .sa (kint a)), (8, (.sa (.one (.ptr 2 0 0)))), (9, (.sa (.one (.ptr 3 0 0)))), (11, (.sa (.one (.ptr 5 0 0)))), (17, (.sa (.one (.ptr 7 0 0)))), (18, (.sa (.one (.ptr 9 0 0)))), (87, (.sa (.one (.ref 4)))), (88, (.sa (.one (.ref 10))))]) [89, 90] (codeAt Try.prog 4 [1, 1, 1, 1, 1, 1, 1, 1, 1, 1, 1, 0, 1, 0, 0]) (codeAt Try.prog 4 [1, 1, 1, 1, 1, 1, 1, 1, 1, 1, 1, 0, 1, 0, 1]) 0 none), obj 64 1 [.ref 12], rowX (kE (uptoE D q)), obj 65 1 [.ref 16], some (.own true .row 3 1 (.ints .i64 (eV (uptoE D q))))] (kBlock 0 (kSeq (ev cxSh (M + 63) 13 23 (codeAt Try.prog 23 [1, 1, 1, 1])) k)) := by
  have hsh : shT D = a := by unfold shT; rw [h.len]; have := h.lo; omega
  have hhi := h.hi
  have hlen := h.len
  intro rem
  induction rem with
  | zero =>
    intro q hq
    rw [t_shE1 (L := 0 + F + 2000) (M := M)]
    refine ⟨brf (by omega) ?_⟩
    rw [show q = a.toNat from by omega, upto_each h]
    exact hk
  | succ rem ih =>
    intro q hq
    have hul := uptoE_len h (q + 1) (by omega)
    have hul2 : (uptoE D q).length + (keysT D (q : Int)).length ≤ 1000 := by
      have : (uptoE D (q + 1)).length = (uptoE D q).length + (shardE D (q : Int)).length := by show (uptoE D q ++ shardE D (q : Int)).length = _; simp
      rw [shardE_len] at this; omega
    have hlk : lenK (keysT D (q : Int)) = (keysT D (q : Int)).length := rfl
    rw [t_shE1 (L := rem + 1 + F + 2000) (M := M)]
    refine ⟨brt (by omega) (hereI (ndd (by omega) (ndd (by omega) (ndd (by omega) ?_))))⟩
    have hin := sh_inner (a := a) (la := la) (m := m) (n := n) (c0 := c0) (c1 := c1) (c2 := c2) (d0 := d0) (d1 := d1) (d2 := d2) (D2 := D2) (nn := ((List.length D.sh : Nat) : Int)) (M := rem + 1 + F + 2000) (F := rem + 1 + F + 2000 - (keysT D (q : Int)).length) (k := kBlock 0 (kSeq (ev cxSh (M + 63) 13 23 (codeAt Try.prog 23 [1, 1, 1, 1])) k)) h (q := q) (by omega) hm (by rw [show rem + 1 + F + 2000 + 60 = rem + F + 2000 + 61 from by omega]; exact ih (q + 1) (by omega)) (keysT D (q : Int)).length 0 (by omega)
    rw [List.take_zero, List.append_nil, show (keysT D (q : Int)).length + (rem + 1 + F + 2000 - (keysT D (q : Int)).length) + 53 = rem + 1 + F + 2000 + 53 from by omega] at hin
    exact hin
theorem sh_sumA {a : Int} {m n : Nat} {c0 c1 c2 d0 d1 d2 : List Int} {D : TbD} {es : Es} {M F : Nat} {k : SV → St → Prop} (h : RelT a D es) (hm : es.length ≤ 1000) (hc : (0 : Nat) = es.length) (hT : ∀ st, k (.sa (.one (bv true))) st) :
    ∀ (rem i : Nat), i + rem = a.toNat → ev cxSh (rem + F + 84) 2 4 (codeAt Try.prog 4 [1, 1, 1, 1, 1, 1, 1, 1, 1, 1, 1, 1, 1, 0, 1, 0]) (frm 147 [(8, (.sa (.one (.ptr 2 0 0)))), (9, (.sa (.one (.ptr 3 0 0)))), (17, (.sa (.one (.ptr 5 0 0)))), (23, .sa (kint (lenF D i))), (126, .sa (kint a)), (127, .sa (kint (i : Int)))]) [rowKs m c0 c1 c2, rowKs n d0 d1 d2, obj 4 1 [bv false], tbox 4, some (.abs true 0 D), obj 58 1 [.ref 6], some (.mp true [] 0)] (kBlock 6 (kSeq (ev cxSh (M + 86) 2 4 (codeAt Try.prog 4 [1, 1, 1, 1, 1, 1, 1, 1, 1, 1, 1, 1, 1, 1])) (kRet (Cx.P cxSh) [(ResultVar.cell 8 4)] 2 k))) := by
  have hhi := h.hi
  have hlen := h.len
  have hlT := h.lenT hm
  intro rem
  induction rem with
  | zero =>
    intro i hi
    rw [t_shFA (L := 0 + F)]
    refine ⟨brf (by omega) (kBexit ?_)⟩
    refine Eq.mpr (t_shGA (L := M) ..) ?_
    have hsum : lenF D i = lenT D := by unfold lenT; rw [hlen, show i = a.toNat from by omega]
    have hn : nsh D ≤ 64 := by show D.sh.length ≤ 64; omega
    have hle : lenE es = es.length := rfl
    rw [hsum]
    refine ndd hn ?_
    rw [hlT, hle]
    rw [eqK_t.2 (by omega), eqK_t.2 rfl]
    exact br (fun _ => ndd hn (hT _)) (fun e => by cases e)
  | succ rem ih =>
    intro i hi
    rw [t_shFA (L := rem + 1 + F)]
    refine ⟨brt (by omega) ?_⟩
    have hcv : cntT D (i : Int) = cntV D (i : Int) := by unfold cntT cntV; rw [if_pos (by omega)]
    rw [hcv, show addK .i64 (i : Int) 1 = ((i + 1 : Nat) : Int) from by rw [add64 (by omega)]; rfl]
    rw [show rem + 1 + F + 83 = rem + F + 84 from by omega]
    exact ih (i + 1) (by omega)
theorem sh_sumB {a : Int} {p0 f0 g0 : Int} {b0 cl : Nat} {rs : List MapEntry} {m n : Nat} {c0 c1 c2 d0 d1 d2 : List Int} {D : TbD} {es : Es} {M F : Nat} {k : SV → St → Prop} (h : RelT a D es) (hm : es.length ≤ 1000) (hc : (1 + rs.length : Nat) = es.length) (hT : ∀ st, k (.sa (.one (bv true))) st) :
    ∀ (rem i : Nat), i + rem = a.toNat → ev cxSh (rem + F + 84) 2 4 (codeAt Try.prog 4 [1, 1, 1, 1, 1, 1, 1, 1, 1, 1, 1, 1, 1, 0, 1, 0]) (frm 147 [(8, (.sa (.one (.ptr 2 0 0)))), (9, (.sa (.one (.ptr 3 0 0)))), (17, (.sa (.one (.ptr 5 0 0)))), (23, .sa (kint (lenF D i))), (126, .sa (kint a)), (127, .sa (kint (i : Int)))]) [rowKs m c0 c1 c2, rowKs n d0 d1 d2, obj 4 1 [bv false], tbox 4, some (.abs true 0 D), obj 58 1 [.ref 6], some (.mv true [.u32, .u16, .u16] [⟨[p0, f0, g0], some (.one (iv .i64 1)), b0⟩] rs cl 0)] (kBlock 6 (kSeq (ev cxSh (M + 86) 2 4 (codeAt Try.prog 4 [1, 1, 1, 1, 1, 1, 1, 1, 1, 1, 1, 1, 1, 1])) (kRet (Cx.P cxSh) [(ResultVar.cell 8 4)] 2 k))) := by
  have hhi := h.hi
  have hlen := h.len
  have hlT := h.lenT hm
  intro rem
  induction rem with
  | zero =>
    intro i hi
    rw [t_shFB (L := 0 + F)]
    refine ⟨brf (by omega) (kBexit ?_)⟩
    refine Eq.mpr (t_shGB (L := M) ..) ?_
    have hsum : lenF D i = lenT D := by unfold lenT; rw [hlen, show i = a.toNat from by omega]
    have hn : nsh D ≤ 64 := by show D.sh.length ≤ 64; omega
    have hle : lenE es = es.length := rfl
    rw [hsum]
    refine ndd hn ?_
    rw [hlT, hle]
    rw [eqK_t.2 (by omega), eqK_t.2 rfl]
    exact br (fun _ => ndd hn (hT _)) (fun e => by cases e)
  | succ rem ih =>
    intro i hi
    rw [t_shFB (L := rem + 1 + F)]
    refine ⟨brt (by omega) ?_⟩
    have hcv : cntT D (i : Int) = cntV D (i : Int) := by unfold cntT cntV; rw [if_pos (by omega)]
    rw [hcv, show addK .i64 (i : Int) 1 = ((i + 1 : Nat) : Int) from by rw [add64 (by omega)]; rfl]
    rw [show rem + 1 + F + 83 = rem + F + 84 from by omega]
    exact ih (i + 1) (by omega)
theorem sh_yieldB {a : Int} {m n : Nat} {c0 c1 c2 d0 d1 d2 : List Int} {b : Int} {D D2 : TbD} {es ws : Es} {M B F : Nat} {k : SV → St → Prop} (hT : ∀ st, k (.sa (.one (bv true))) st) (hBB : 64 ≤ B) (h : RelT a D es) (h2 : RelT b D2 es) (hm : es.length ≤ 1000) (hwl : ws.length = es.length) (hws : ∀ e ∈ ws, e ∈ es) (hnd : (ws.map (·.1)).Nodup) (hso : ws.Pairwise (aheadP a)) :
    ∀ (rem j : Nat) (la p0 f0 g0 : Int) (rs : List MapEntry) (b0 cl : Nat), j + rem = ws.length → 1 + rs.length = j → (∀ x ∈ keysR (addM rs p0 f0 g0 1 b0), ∃ y ∈ ws.take j, y.1 = x) → (∀ e ∈ ws.drop j, la ≤ shE a e.1) → ev cxSh (rem + F + 58) 20 34 (codeAt Try.prog 34 [1, 0]) (frm 18 [(0, (.sa (.one (SC.ref 19)))), (5, (.sa (.one (SC.ref 14)))), (6, .sa (kint ((lenK (kE ws) : Nat) : Int))), (7, .sa (kint (j : Int)))]) [rowKs m c0 c1 c2, rowKs n d0 d1 d2, obj 4 1 [bv false], tbox 4, some (.abs true 0 D), tbox 6, some (.abs true 0 D2), obj 58 1 [.ref 8], some (.mv true [.u32, .u16, .u16] [⟨[p0, f0, g0], some (.one (iv .i64 1)), b0⟩] rs cl 0), obj 3 1 [iv .i64 la], some (.clo (.func 23) [] [.one (.ptr 11 0 0)]), tbox 4, some (.lp true 4 (frm 147 [(0, .sa (kint a)), (8, (.sa (.one (.ptr 2 0 0)))), (9, (.sa (.one (.ptr 3 0 0)))), (11, (.sa (.one (.ptr 5 0 0)))), (17, (.sa (.one (.ptr 7 0 0)))), (18, (.sa (.one (.ptr 9 0 0)))), (87, (.sa (.one (.ref 4)))), (88, (.sa (.one (.ref 10))))]) [89, 90] (codeAt Try.prog 4 [1, 1, 1, 1, 1, 1, 1, 1, 1, 1, 1, 0, 1, 0, 0]) (codeAt Try.prog 4 [1, 1, 1, 1, 1, 1, 1, 1, 1, 1, 1, 0, 1, 0, 1]) 0 none), obj 64 1 [.ref 12], rowX (kE ws), obj 65 1 [.ref 16], some (.own true .row 3 1 (.ints .i64 (eV ws))), some (.clo (.func 34) [] [.one (.ptr 18 0 0)]), obj 57 1 [.ref 14], some (.lp true 23 (frm 59 [(2, (.sa (.one (SC.ptr 13 0 0)))), (3, (.sa (.one (SC.ref 14)))), (4, (.sa (.one (SC.ptr 15 0 0)))), (47, (.sa (.one (SC.ref 14)))), (48, (.sa (.one (SC.ref 17))))]) [49, 50] (codeAt Try.prog 23 [1, 1, 1, 1, 1, 0, 0]) (codeAt Try.prog 23 [1, 1, 1, 1, 1, 0, 1]) 0 none)] (kBlock 0 (kRet (Cx.P cxSh) [] 20 (kRange (ev cxSh (M + 60)) 13 23 19 (frm 59 [(2, (.sa (.one (SC.ptr 13 0 0)))), (3, (.sa (.one (SC.ref 14)))), (4, (.sa (.one (SC.ptr 15 0 0)))), (47, (.sa (.one (SC.ref 14)))), (48, (.sa (.one (SC.ref 17))))]) (kBlock 4 (kRet (Cx.P cxSh) [] 13 (kRange (ev cxSh (B + 85)) 2 4 12 (frm 147 [(0, .sa (kint a)), (8, (.sa (.one (.ptr 2 0 0)))), (9, (.sa (.one (.ptr 3 0 0)))), (11, (.sa (.one (.ptr 5 0 0)))), (17, (.sa (.one (.ptr 7 0 0)))), (18, (.sa (.one (.ptr 9 0 0)))), (87, (.sa (.one (.ref 4)))), (88, (.sa (.one (.ref 10))))]) (kBlock 4 (kSeq (ev cxSh (B + 88) 2 4 (codeAt Try.prog 4 [1, 1, 1, 1, 1, 1, 1, 1, 1, 1, 1, 1])) (kRet (Cx.P cxSh) [(ResultVar.cell 8 4)] 2 k))))))))) := by
  intro rem
  induction rem with
  | zero =>
    intro j la p0 f0 g0 rs b0 cl hj hrs hkey hla
    have hlk : lenK (kE ws) = ws.length := kE_len
    rw [t_shE4B (L := 0 + F) (M := M)]
    refine ⟨brf (by omega) ?_⟩
    refine Eq.mpr (t_shE6B (L := B) (a := a) (la := la) (D := D) (D2 := D2) (ks := kE ws) (us := eV ws) (m := m) (n := n) (p0 := p0) (f0 := f0) (g0 := g0) (b0 := b0) (cl := cl) (rs := rs) ..) ?_
    have hs := sh_sumB (p0 := p0) (f0 := f0) (g0 := g0) (b0 := b0) (cl := cl) (rs := rs) (m := m) (n := n) (c0 := c0) (c1 := c1) (c2 := c2) (d0 := d0) (d1 := d1) (d2 := d2) (M := B) (F := B - a.toNat) h hm (by omega) hT a.toNat 0 (by omega)
    rw [show a.toNat + (B - a.toNat) + 84 = B + 84 from by have := h.hi; omega] at hs
    exact hs
  | succ rem ih =>
    intro j la p0 f0 g0 rs b0 cl hj hrs hkey hla
    have hjl : j < ws.length := by omega
    obtain ⟨e, he⟩ : ∃ e, ws[j]? = some e := ⟨_, List.getElem?_eq_getElem hjl⟩
    obtain ⟨q0, q1, q2, q3⟩ := eP_getD he
    obtain ⟨r0, r1, r2⟩ := kE_getD he
    obtain ⟨hj', hje⟩ := List.getElem?_eq_some_iff.1 he
    have hdj : ws.drop j = e :: ws.drop (j + 1) := by rw [List.drop_eq_getElem_cons hj', hje]
    have hes : e ∈ es := hws e (List.mem_of_getElem? he)
    have hlk : lenK (kE ws) = ws.length := kE_len
    have hvl : (eV ws).length = ws.length := eP_len.2.2.2
    have hB : getB D2 e.1.1 e.1.2.1 e.1.2.2 = true := by rw [h2.getB (h2.wf e hes)]; exact found_iff.2 ⟨e, hes, rfl⟩
    have hV := h2.getV hes
    have hsI : shI (List.length D.sh) e.1.1 e.1.2.1 e.1.2.2 = shE a e.1 := by rw [h.len]; exact shI_eq (h.wf e hes) h.lo h.hi
    have hla2 := hla e (by rw [hdj]; exact List.mem_cons_self ..)
    have hla' : ∀ y ∈ ws.drop (j + 1), shE a e.1 ≤ shE a y.1 := fun y hy => by
      have hp := hso.sublist (List.drop_sublist j ws)
      rw [hdj, List.pairwise_cons] at hp
      have := hp.1 y hy
      unfold aheadP at this
      rw [ahead_iff] at this
      omega
    have hnt : ∀ y ∈ ws.take j, y.1 ≠ e.1 := fun y hy ee => by
      have hsp : ws = ws.take j ++ e :: ws.drop (j + 1) := by rw [← hdj, List.take_append_drop]
      rw [hsp, List.map_append, List.nodup_append] at hnd
      exact hnd.2.2 y.1 (List.mem_map.2 ⟨y, hy, rfl⟩) e.1 (by simp) ee
    have hfr : freshM e.1.1 e.1.2.1 e.1.2.2 (addM rs p0 f0 g0 1 b0) = true := by
      unfold freshM
      rw [List.all_eq_true]
      intro x hx
      obtain ⟨y, hy, rfl⟩ := hkey x hx
      have := hnt y hy
      simpa using this
    rw [t_shE4B (L := rem + 1 + F) (M := M)]
    refine ⟨brt (by omega) (ndd (by omega) (ndd (by omega) (ndd (by omega) (ndd (by omega) (ndd (by omega) (ndd (by omega) (hereI ?_)))))))⟩
    simp only [Int.toNat_natCast, Nat.zero_add]
    rw [r0, r1, r2, q3]
    refine need_iff.2 ⟨hfr, ?_⟩
    rw [hB]
    refine br (fun x => by cases x) fun _ => ?_
    rw [hV, eqK_t.2 (rfl : e.2 = e.2)]
    refine br (fun x => by cases x) fun _ => ?_
    rw [eqK_t.2 (rfl : e.1.1 = e.1.1), eqK_t.2 (rfl : e.1.2.1 = e.1.2.1), eqK_t.2 (rfl : e.1.2.2 = e.1.2.2)]
    refine need_iff.2 ⟨rfl, ?_⟩
    rw [hsI]
    refine brf (by omega) ?_
    rw [show addK .i64 (j : Int) 1 = ((j + 1 : Nat) : Int) from by rw [add64 (by omega)]; rfl]
    rw [show rem + 1 + F + 57 = rem + F + 58 from by omega]
    refine ih (j + 1) (shE a e.1) e.1.1 e.1.2.1 e.1.2.2 (addM rs p0 f0 g0 1 b0) cl (cl + 1) (by omega) (by show 1 + (rs.length + 1) = j + 1; omega) (fun x hx => ?_) hla'
    rw [keys_addM, List.mem_cons] at hx
    rcases hx with rfl | hx
    · exact ⟨e, List.mem_take_iff_getElem.2 ⟨j, by omega, hje⟩, rfl⟩
    · obtain ⟨y, hy, hyx⟩ := hkey x hx
      refine ⟨y, ?_, hyx⟩
      rw [take_snoc he]; exact List.mem_append_left _ hy
theorem sh_yieldA {a : Int} {m n : Nat} {c0 c1 c2 d0 d1 d2 : List Int} {b : Int} {D D2 : TbD} {es ws : Es} {M B F : Nat} {k : SV → St → Prop} (hT : ∀ st, k (.sa (.one (bv true))) st) (hBB : 64 ≤ B) (h : RelT a D es) (h2 : RelT b D2 es) (hm : es.length ≤ 1000) (hwl : ws.length = es.length) (hws : ∀ e ∈ ws, e ∈ es) (hnd : (ws.map (·.1)).Nodup) (hso : ws.Pairwise (aheadP a)) (hMB : True) : ev cxSh (F + 2000 + 58) 20 34 (codeAt Try.prog 34 [1, 0]) (frm 18 [(0, (.sa (.one (SC.ref 19)))), (5, (.sa (.one (SC.ref 14)))), (6, .sa (kint ((lenK (kE ws) : Nat) : Int))), (7, .sa (kint ((0 : Nat) : Int)))]) [rowKs m c0 c1 c2, rowKs n d0 d1 d2, obj 4 1 [bv false], tbox 4, some (.abs true 0 D), tbox 6, some (.abs true 0 D2), obj 58 1 [.ref 8], some (.mp true [] 0), obj 3 1 [iv .i64 0], some (.clo (.func 23) [] [.one (.ptr 11 0 0)]), tbox 4, some (.lp true 4 (frm 147 [(0, .sa (kint a)), (8, (.sa (.one (.ptr 2 0 0)))), (9, (.sa (.one (.ptr 3 0 0)))), (11, (.sa (.one (.ptr 5 0 0)))), (17, (.sa (.one (.ptr 7 0 0)))), (18, (.sa (.one (.ptr 9 0 0)))), (87, (.sa (.one (.ref 4)))), (88, (.sa (.one (.ref 10))))]) [89, 90] (codeAt Try.prog 4 [1, 1, 1, 1, 1, 1, 1, 1, 1, 1, 1, 0, 1, 0, 0]) (codeAt Try.prog 4 [1, 1, 1, 1, 1, 1, 1, 1, 1, 1, 1, 0, 1, 0, 1]) 0 none), obj 64 1 [.ref 12], rowX (kE ws), obj 65 1 [.ref 16], some (.own true .row 3 1 (.ints .i64 (eV ws))), some (.clo (.func 34) [] [.one (.ptr 18 0 0)]), obj 57 1 [.ref 14], some (.lp true 23 (frm 59 [(2, (.sa (.one (SC.ptr 13 0 0)))), (3, (.sa (.one (SC.ref 14)))), (4, (.sa (.one (SC.ptr 15 0 0)))), (47, (.sa (.one (SC.ref 14)))), (48, (.sa (.one (SC.ref 17))))]) [49, 50] (codeAt Try.prog 23 [1, 1, 1, 1, 1, 0, 0]) (codeAt Try.prog 23 [1, 1, 1, 1, 1, 0, 1]) 0 none)] (kBlock 0 (kRet (Cx.P cxSh) [] 20 (kRange (ev cxSh (M + 60)) 13 23 19 (frm 59 [(2, (.sa (.one (SC.ptr 13 0 0)))), (3, (.sa (.one (SC.ref 14)))), (4, (.sa (.one (SC.ptr 15 0 0)))), (47, (.sa (.one (SC.ref 14)))), (48, (.sa (.one (SC.ref 17))))]) (kBlock 4 (kRet (Cx.P cxSh) [] 13 (kRange (ev cxSh (B + 85)) 2 4 12 (frm 147 [(0, .sa (kint a)), (8, (.sa (.one (.ptr 2 0 0)))), (9, (.sa (.one (.ptr 3 0 0)))), (11, (.sa (.one (.ptr 5 0 0)))), (17, (.sa (.one (.ptr 7 0 0)))), (18, (.sa (.one (.ptr 9 0 0)))), (87, (.sa (.one (.ref 4)))), (88, (.sa (.one (.ref 10))))]) (kBlock 4 (kSeq (ev cxSh (B + 88) 2 4 (codeAt Try.prog 4 [1, 1, 1, 1, 1, 1, 1, 1, 1, 1, 1, 1])) (kRet (Cx.P cxSh) [(ResultVar.cell 8 4)] 2 k))))))))) := by
  rcases Nat.eq_zero_or_pos ws.length with hz | hz
  · have hlk : lenK (kE ws) = ws.length := kE_len
    rw [t_shE4 (L := F + 2000) (M := M)]
    refine ⟨brf (by omega) ?_⟩
    refine Eq.mpr (t_shE6A (L := B) (a := a) (la := 0) (D := D) (D2 := D2) (ks := kE ws) (us := eV ws) (m := m) (n := n) ..) ?_
    have hs := sh_sumA (m := m) (n := n) (c0 := c0) (c1 := c1) (c2 := c2) (d0 := d0) (d1 := d1) (d2 := d2) (M := B) (F := B - a.toNat) h hm (by omega) hT a.toNat 0 (by omega)
    rw [show a.toNat + (B - a.toNat) + 84 = B + 84 from by have := h.hi; omega] at hs
    exact hs
  · obtain ⟨j, hj0⟩ : ∃ j : Nat, j = 0 := ⟨0, rfl⟩
    rw [show ((0 : Nat) : Int) = (j : Int) from by rw [hj0]]
    have hjl : j < ws.length := by omega
    have hla : ∀ e ∈ ws.drop j, (0 : Int) ≤ shE a e.1 := fun e he => (shE_in (h.wf e (hws e (List.mem_of_mem_drop he))) h.lo h.hi).1
    obtain ⟨e, he⟩ : ∃ e, ws[j]? = some e := ⟨_, List.getElem?_eq_getElem hjl⟩
    obtain ⟨q0, q1, q2, q3⟩ := eP_getD he
    obtain ⟨r0, r1, r2⟩ := kE_getD he
    obtain ⟨hj', hje⟩ := List.getElem?_eq_some_iff.1 he
    have hdj : ws.drop j = e :: ws.drop (j + 1) := by rw [List.drop_eq_getElem_cons hj', hje]
    have hes : e ∈ es := hws e (List.mem_of_getElem? he)
    have hlk : lenK (kE ws) = ws.length := kE_len
    have hvl : (eV ws).length = ws.length := eP_len.2.2.2
    have hB : getB D2 e.1.1 e.1.2.1 e.1.2.2 = true := by rw [h2.getB (h2.wf e hes)]; exact found_iff.2 ⟨e, hes, rfl⟩
    have hV := h2.getV hes
    have hsI : shI (List.length D.sh) e.1.1 e.1.2.1 e.1.2.2 = shE a e.1 := by rw [h.len]; exact shI_eq (h.wf e hes) h.lo h.hi
    have hla2 := hla e (by rw [hdj]; exact List.mem_cons_self ..)
    have hla' : ∀ y ∈ ws.drop (j + 1), shE a e.1 ≤ shE a y.1 := fun y hy => by
      have hp := hso.sublist (List.drop_sublist j ws)
      rw [hdj, List.pairwise_cons] at hp
      have := hp.1 y hy
      unfold aheadP at this
      rw [ahead_iff] at this
      omega
    have hnt : ∀ y ∈ ws.take j, y.1 ≠ e.1 := fun y hy ee => by
      have hsp : ws = ws.take j ++ e :: ws.drop (j + 1) := by rw [← hdj, List.take_append_drop]
      rw [hsp, List.map_append, List.nodup_append] at hnd
      exact hnd.2.2 y.1 (List.mem_map.2 ⟨y, hy, rfl⟩) e.1 (by simp) ee
    rw [t_shE4 (L := F + 2000) (M := M)]
    refine ⟨brt (by omega) (ndd (by omega) (ndd (by omega) (ndd (by omega) (ndd (by omega) (ndd (by omega) (ndd (by omega) (hereI ?_)))))))⟩
    simp only [Int.toNat_natCast, Nat.zero_add]
    rw [r0, r1, r2, q3]
    rw [hB]
    refine br (fun x => by cases x) fun _ => ?_
    rw [hV, eqK_t.2 (rfl : e.2 = e.2)]
    refine br (fun x => by cases x) fun _ => ?_
    rw [eqK_t.2 (rfl : e.1.1 = e.1.1), eqK_t.2 (rfl : e.1.2.1 = e.1.2.1), eqK_t.2 (rfl : e.1.2.2 = e.1.2.2)]
    refine need_iff.2 ⟨rfl, ?_⟩
    rw [hsI]
    refine brf (by omega) ?_
    rw [show addK .i64 (j : Int) 1 = ((j + 1 : Nat) : Int) from by rw [add64 (by omega)]; rfl]
    rw [show F + 2000 + 57 = (ws.length - (j + 1)) + (F + 1999 - (ws.length - (j + 1))) + 58 from by omega]
    refine sh_yieldB (F := F + 1999 - (ws.length - (j + 1))) hT hBB h h2 hm hwl hws hnd hso (ws.length - (j + 1)) (j + 1) (shE a e.1) e.1.1 e.1.2.1 e.1.2.2 [] 0 1 (by omega) (by simp [hj0]) (fun x hx => ?_) hla'
    rw [keys_addM, List.mem_cons] at hx
    rcases hx with rfl | hx
    · exact ⟨e, List.mem_take_iff_getElem.2 ⟨j, by omega, hje⟩, rfl⟩
    · simp [keysR] at hx
end Go.Ev
end
section
namespace Go.Ev
open Go Go.Proofs Go.Spec
set_option maxRecDepth 8000
set_option maxHeartbeats 2000000
attribute [local irreducible] ev evCall branch need again shR aheadE shI valT keysT getB getI setT dropE putE findE foundE freshM
theorem sh_each {a b : Int} {m n : Nat} {c0 c1 c2 d0 d1 d2 : List Int} {k : SV → St → Prop} (hT : ∀ st, k (.sa (.one (bv true))) st) {D D2 : TbD} {es : Es} {B : Nat} (hB : 5000 ≤ B) (h : RelT a D es) (h2 : RelT b D2 es) (hm : es.length ≤ 1000) :
    ev cxSh (B + 87) 2 4 (codeAt Try.prog 4 [1, 1, 1, 1, 1, 1, 1, 1, 1, 1, 1, 0, 0]) (frm 147 [(0, .sa (kint a)), (8, (.sa (.one (.ptr 2 0 0)))), (9, (.sa (.one (.ptr 3 0 0)))), (11, (.sa (.one (.ptr 5 0 0)))), (17, (.sa (.one (.ptr 7 0 0)))), (18, (.sa (.one (.ptr 9 0 0))))]) [rowKs m c0 c1 c2, rowKs n d0 d1 d2, obj 4 1 [bv false], tbox 4, some (.abs true 0 D), tbox 6, some (.abs true 0 D2), obj 58 1 [.ref 8], some (.mp true [] 0), obj 3 1 [iv .i64 0]] (kSeq (ev cxSh (B + 87) 2 4 (codeAt Try.prog 4 [1, 1, 1, 1, 1, 1, 1, 1, 1, 1, 1, 0, 1])) (kSeq (ev cxSh (B + 88) 2 4 (codeAt Try.prog 4 [1, 1, 1, 1, 1, 1, 1, 1, 1, 1, 1, 1])) (kRet (Cx.P cxSh) [(ResultVar.cell 8 4)] 2 k))) := by
  have hhi := h.hi
  refine Eq.mpr (t_shE0 (L := B) (a := a) (la := 0) (D := D) (D2 := D2) (m := m) (n := n) ..) ⟨?_⟩
  have ho := sh_outer (a := a) (la := 0) (m := m) (n := n) (c0 := c0) (c1 := c1) (c2 := c2) (d0 := d0) (d1 := d1) (d2 := d2) (D2 := D2) (M := B + 18) (F := B + 18 - 2000 - a.toNat) (k := kRet (Cx.P cxSh) [] 13 (kRange (ev cxSh (B + 85)) 2 4 12 (frm 147 [(0, .sa (kint a)), (8, (.sa (.one (.ptr 2 0 0)))), (9, (.sa (.one (.ptr 3 0 0)))), (11, (.sa (.one (.ptr 5 0 0)))), (17, (.sa (.one (.ptr 7 0 0)))), (18, (.sa (.one (.ptr 9 0 0)))), (87, (.sa (.one (.ref 4)))), (88, (.sa (.one (.ref 10))))]) (kBlock 4 (kSeq (ev cxSh (B + 88) 2 4 (codeAt Try.prog 4 [1, 1, 1, 1, 1, 1, 1, 1, 1, 1, 1, 1])) (kRet (Cx.P cxSh) [(ResultVar.cell 8 4)] 2 k))))) h hm ?_ a.toNat 0 (by omega)
  · rw [show a.toNat + (B + 18 - 2000 - a.toNat) + 2000 + 61 = B + 79 from by omega] at ho
    exact ho
  · refine Eq.mpr (t_shE3 (L := B + 18) (a := a) (la := 0) (D := D) (D2 := D2) (m := m) (n := n) (ks := kE (eachE a es)) (us := eV (eachE a es)) ..) ⟨?_⟩
    have hy := sh_yieldA (a := a) (m := m) (n := n) (c0 := c0) (c1 := c1) (c2 := c2) (d0 := d0) (d1 := d1) (d2 := d2) (b := b) (D := D) (D2 := D2) (es := es) (ws := eachE a es) (M := B + 18) (B := B) (F := B + 18 - 2000) (k := k) hT (by omega) h h2 hm eachE_len (fun e he => ((eachE_facts h.nd).1 e).1 he) (eachE_nd h) (eachE_facts h.nd).2 trivial
    rw [show B + 18 - 2000 + 2000 + 58 = B + 18 + 58 from by omega] at hy
    exact hy
theorem sh_drops {a b : Int} {m n : Nat} {c0 c1 c2 d0 d1 d2 : List Int} {k : SV → St → Prop} (hT : ∀ st, k (.sa (.one (bv true))) st) {M F : Nat} (hM : 5000 ≤ M) (hn : n ≤ 500) (hw : ∀ j : Nat, wfK (d0.getD j 0, d1.getD j 0, d2.getD j 0)) :
    ∀ (rem i : Nat) (D D2 : TbD) (es : Es), i + rem = n → RelT a D es → RelT b D2 es → es.length ≤ 1000 → ev cxSh (rem + F + 90) 2 4 (codeAt Try.prog 4 [1, 1, 1, 1, 1, 1, 1, 0, 1, 0]) (frm 147 [(0, .sa (kint a)), (8, (.sa (.one (.ptr 2 0 0)))), (9, (.sa (.one (.ptr 3 0 0)))), (11, (.sa (.one (.ptr 5 0 0)))), (67, (.sa (.one (.ref 1)))), (68, .sa (kint (n : Int))), (69, .sa (kint (i : Int)))]) [rowKs m c0 c1 c2, rowKs n d0 d1 d2, obj 4 1 [bv false], tbox 4, some (.abs true 0 D), tbox 6, some (.abs true 0 D2)] (kBlock 2 (kSeq (ev cxSh (M + 92) 2 4 (codeAt Try.prog 4 [1, 1, 1, 1, 1, 1, 1, 1])) (kRet (Cx.P cxSh) [(ResultVar.cell 8 4)] 2 k))) := by
  intro rem
  induction rem with
  | zero =>
    intro i D D2 es hi h h2 hm
    rw [t_shC (L := 0 + F)]
    refine ⟨brf (by omega) (kBexit ?_)⟩
    refine Eq.mpr (t_shD (L := M) (a := a) (D := D) (D2 := D2) (m := m) (n := n) ..) ?_
    have hh := h.hi
    have hh2 := h2.hi
    have l1 := h.len
    have l2 := h2.len
    refine ndd (by show D.sh.length ≤ 64; omega) (ndd (by show D2.sh.length ≤ 64; omega) ?_)
    rw [h.lenT hm, h2.lenT hm]
    exact brnn (sh_each hT hM h h2 hm)
  | succ rem ih =>
    intro i D D2 es hi h h2 hm
    rw [t_shC (L := rem + 1 + F)]
    refine ⟨brt (by omega) (ndd (by omega) (ndd (by omega) (ndd (by omega) ?_)))⟩
    simp only [Int.toNat_natCast, Nat.zero_add]
    rw [h.getB (hw i), h2.getB (hw i)]
    refine br (fun e => by simp at e) fun _ => ?_
    rw [show addK .i64 (i : Int) 1 = ((i + 1 : Nat) : Int) from by rw [add64 (by omega)]; rfl]
    rw [show rem + 1 + F + 89 = rem + F + 90 from by omega]
    exact ih (i + 1) _ _ _ (by omega) (h.drop (hw i)) (h2.drop (hw i)) (Nat.le_trans dropE_len hm)
theorem sh_puts {a b : Int} {m n : Nat} {c0 c1 c2 d0 d1 d2 : List Int} {k : SV → St → Prop} (hT : ∀ st, k (.sa (.one (bv true))) st) {M F : Nat} (hM : 6000 ≤ M) (hm : m ≤ 500) (hn : n ≤ 500) (hw0 : ∀ j : Nat, wfK (c0.getD j 0, c1.getD j 0, c2.getD j 0)) (hw : ∀ j : Nat, wfK (d0.getD j 0, d1.getD j 0, d2.getD j 0)) :
    ∀ (rem i : Nat) (D D2 : TbD) (es : Es), i + rem = m → RelT a D es → RelT b D2 es → es.length ≤ i → ev cxSh (rem + F + 91) 2 4 (codeAt Try.prog 4 [1, 1, 1, 1, 1, 1, 0, 1, 0]) (frm 147 [(0, .sa (kint a)), (3, (.sa (.one (.ref 1)))), (8, (.sa (.one (.ptr 2 0 0)))), (9, (.sa (.one (.ptr 3 0 0)))), (11, (.sa (.one (.ptr 5 0 0)))), (51, (.sa (.one (.ref 0)))), (52, .sa (kint (m : Int))), (53, .sa (kint (i : Int)))]) [rowKs m c0 c1 c2, rowKs n d0 d1 d2, obj 4 1 [bv false], tbox 4, some (.abs true 0 D), tbox 6, some (.abs true 0 D2)] (kBlock 0 (kSeq (ev cxSh (M + 93) 2 4 (codeAt Try.prog 4 [1, 1, 1, 1, 1, 1, 1])) (kRet (Cx.P cxSh) [(ResultVar.cell 8 4)] 2 k))) := by
  intro rem
  induction rem with
  | zero =>
    intro i D D2 es hi h h2 hl
    rw [t_shA (L := 0 + F)]
    refine ⟨brf (by omega) (kBexit ?_)⟩
    refine Eq.mpr (t_shB (L := M) (a := a) (D := D) (D2 := D2) (m := m) (n := n) ..) ?_
    have hd := sh_drops (m := m) (c0 := c0) (c1 := c1) (c2 := c2) hT (M := M) (F := M - n) (by omega) hn hw n 0 D D2 es (by omega) h h2 (by omega)
    rw [show n + (M - n) + 90 = M + 90 from by omega] at hd
    exact hd
  | succ rem ih =>
    intro i D D2 es hi h h2 hl
    rw [t_shA (L := rem + 1 + F)]
    refine ⟨brt (by omega) (ndd (by omega) (ndd (by omega) (ndd (by omega) ?_)))⟩
    simp only [Int.toNat_natCast, Nat.zero_add]
    rw [show addK .i64 (i : Int) 1 = ((i + 1 : Nat) : Int) from by rw [add64 (by omega)]; rfl]
    rw [show rem + 1 + F + 90 = rem + F + 91 from by omega]
    exact ih (i + 1) _ _ _ (by omega) (h.put (hw0 i)) (h2.put (hw0 i)) (Nat.le_trans putE_len (by omega))
theorem sh_ex (a b : Int) (m n : Nat) (c0 c1 c2 d0 d1 d2 : List Int) (hw0 : ∀ j : Nat, wfK (c0.getD j 0, c1.getD j 0, c2.getD j 0)) (hw : ∀ j : Nat, wfK (d0.getD j 0, d1.getD j 0, d2.getD j 0)) (k : SV → St → Prop) (hT : ∀ st, k (.sa (.one (bv true))) st) :
    ∃ N, evCall cxSh (ev cxSh N) 4 [.one (.raw (.int .i64 a)), .one (.raw (.int .i64 b)), .one (.ref 0), .one (.ref 1)] [rowKs m c0 c1 c2, rowKs n d0 d1 d2] k := by
  refine ⟨m + 7000 + 100, Eq.mpr (t_sh (L := m + 7000) (a := a) (b := b) (m := m) (n := n) ..) ?_⟩
  refine brd (fun _ => hT _) fun hm => brd (fun _ => hT _) fun hn => ?_
  refine brd (fun _ => brd (fun _ => hT _) fun _ => brd (fun _ => hT _) fun _ => hT _) fun ha => ?_
  refine brd (fun _ => brd (fun _ => hT _) fun _ => brd (fun _ => hT _) fun _ => hT _) fun ha2 => ?_
  refine brd (fun _ => hT _) fun hb => brd (fun _ => hT _) fun hb2 => ?_
  exact sh_puts (m := m) hT (M := m + 7000) (F := 7000) (by omega) (by omega) (by omega) hw0 hw m 0 (emptyT a) (emptyT b) [] (by omega) (RelT.empty (by omega) (by omega)) (RelT.empty (by omega) (by omega)) (by simp)
theorem getD_in {l : List Int} {n : Int} (h0 : 0 ≤ n) (h : ∀ x ∈ l, 0 ≤ x ∧ x ≤ n) (j : Nat) : 0 ≤ l.getD j 0 ∧ l.getD j 0 ≤ n := by
  rw [List.getD_eq_getElem?_getD]
  cases e : l[j]? with
  | none => exact ⟨by simp, by simpa using h0⟩
  | some x => exact h x (List.mem_of_getElem? e)
theorem wf_cols {c0 c1 c2 : List Int} (h0 : ∀ x ∈ c0, 0 ≤ x ∧ x ≤ 4294967295) (h1 : ∀ x ∈ c1, 0 ≤ x ∧ x ≤ 65535) (h2 : ∀ x ∈ c2, 0 ≤ x ∧ x ≤ 65535) (j : Nat) : wfK (c0.getD j 0, c1.getD j 0, c2.getD j 0) := by
  have a := getD_in (by decide) h0 j
  have b := getD_in (by decide) h1 j
  have c := getD_in (by decide) h2 j
  exact ⟨⟨a.1, by show c0.getD j 0 < _; omega⟩, ⟨b.1, by show c1.getD j 0 < _; omega⟩, ⟨c.1, by show c2.getD j 0 < _; omega⟩⟩
theorem cxSh_ok : CxOk Try.prog cxSh := (mkCx_ok namesT mixedT (by
  intro y h
  rcases List.mem_append.1 h with h | h
  · exact sumsT_ok y h
  · simp only [List.mem_cons, List.not_mem_nil, or_false] at h
    subst h
    exact known_sum)).withHand (by
  intro y h
  rcases List.mem_append.1 h with h | h
  · exact handsT_ok y h
  · simp only [List.mem_cons, List.not_mem_nil, or_false] at h
    subst h
    exact hS_ok)
end Go.Ev
end
