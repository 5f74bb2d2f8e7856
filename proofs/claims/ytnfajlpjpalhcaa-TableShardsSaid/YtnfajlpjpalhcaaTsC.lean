/- Table: texts TvT, TbV, TbW, TbXD, TxT, TbX, TbN, TbYD, TbY, TdD, TdP, TdT0, one behind the other. No conditions. -/
import Derived.Test.YtnfajlpjpalhcaaTsB
import Derived.Test.YtnfajlpjpalhcaaEvD
set_option linter.unusedVariables false
set_option linter.unusedSimpArgs false
section
namespace Go.Ev
open Go Go.Proofs Go.Spec
theorem t_R1 (x i : Int) (j n cl : Nat) (vs : List Value) (rs : List MapEntry) (z6 z7 : SV) (k : Exit → Fr → St → Prop) : ev cxT0 60 1 18 (codeAt Try.prog 18 [1, 1, 0, 1, 0, 0, 1, 1, 0, 0, 1]) (frm 22 [(0, .sa (.one (.ptr 0 0 0))), (3, .sa (kint x)), (4, .sa (kint i)), (6, z6), (7, z7)]) [vT 1, vR 1 n vs j, mvK false [] rs cl] k =
    (need (decide (((0) ≤ i))) (need (decide ((i < ((n : Nat) : Int)))) (need (decide (((0 + (Int.toNat i)) < n))) (need (decide (((0 + (Int.toNat i)) = j))) (k Exit.normal (frm 22 [(0, (.sa (.one (SC.ptr 0 0 0)))), (3, (.sa (.one (iv .i64 (addK .i64 x (((0 + (List.length rs)) : Nat) : Int)))))), (4, (.sa (.one (iv .i64 i)))), (6, z6), (7, z7), (10, (.sa (.one (iv .i64 x)))), (11, (.sa (.one (SC.ptr 0 0 0)))), (12, (.sa (.one (SC.ptr 0 0 0)))), (13, (.sa (.one (SC.ptr 0 0 0)))), (14, (.sa (.one (SC.ref 1)))), (15, (.sa (.one (iv .i64 i)))), (16, (.sa (.one (SC.ptr 1 (0 + (Int.toNat i)) 0)))), (17, (.sa (.one (SC.ref 2)))), (18, (.sa (.one (iv .i64 (((0 + (List.length rs)) : Nat) : Int))))), (19, (.sa (.one (iv .i64 (addK .i64 x (((0 + (List.length rs)) : Nat) : Int))))))]) [(some (SO.mem false MK.whole 62 1 (Ct.lst [[(SC.ref 1)]]))), (some (SO.own false MK.row 58 1 (Ct.at1 n vs j [(SC.ref 2)]))), (some (SO.mv false [.u32, .u16, .u16] [] rs cl 0))]))))) := by kernel_rfl
theorem t_R2 (i : Int) (j n cl : Nat) (vs : List Value) (rs : List MapEntry) (z2 z3 z4 z11 z12 : SV) (k : Exit → Fr → St → Prop) : ev cxR3 60 2 23 (codeAt Try.prog 23 [1, 1, 1, 0, 1, 0, 0, 1, 1, 0, 0, 1, 0]) (frm 59 [(1, .sa (.one (.ptr 0 0 0))), (2, z2), (3, z3), (4, z4), (5, .sa (kint i)), (11, z11), (12, z12)]) [tboxO 1, vT 2, vR 2 n vs j, mvK false [] rs cl] k =
    (need (decide (((0) ≤ i))) (need (decide ((i < ((n : Nat) : Int)))) (need (decide (((0 + (Int.toNat i)) < n))) (need (decide (((0 + (Int.toNat i)) = j))) ((apA = apA) ∧ ((apB = apB) ∧ ((apFr = apFr) ∧ ((kkT = kkT) ∧ (need (decide ((((Spec.lenK (Spec.keysR rs)) * 8) ≤ 140737488355328))) (need (decide ((((Spec.lenK (Spec.sortT (Spec.prD (Spec.keysR rs)))) * 8) ≤ 140737488355328))) (k Exit.normal (frm 59 [(1, (.sa (.one (SC.ptr 0 0 0)))), (2, z2), (3, z3), (4, z4), (5, (.sa (.one (iv .i64 i)))), (11, z11), (12, z12), (15, (.sa (.one (SC.ptr 1 0 0)))), (16, (.sa (.one (SC.ptr 1 0 0)))), (17, (.sa (.one (SC.ptr 1 0 0)))), (18, (.sa (.one (SC.ref 2)))), (19, (.sa (.one (iv .i64 i)))), (20, (.sa (.one (SC.ptr 2 (0 + (Int.toNat i)) 0)))), (21, (.sa (.one (SC.ref 3)))), (22, (.sa (.one (SC.ref 4)))), (23, (.sa (.one (SC.ref 6)))), (24, (.sa (.one (iv .i64 (((Spec.lenK (Spec.sortT (Spec.prD (Spec.keysR rs)))) : Nat) : Int))))), (25, (.sa (.one (iv .i64 (0)))))]) [(obj 24 1 [(SC.ptr 1 0 0)]), (some (SO.mem false MK.whole 62 1 (Ct.lst [[(SC.ref 2)]]))), (some (SO.own false MK.row 58 1 (Ct.at1 n vs j [(SC.ref 3)]))), (some (SO.mv false [.u32, .u16, .u16] [] rs cl 0)), (some (SO.clo (Fn.func 30) [] [(.one (SC.ptr 5 0 0))])), (obj 58 1 [(SC.ref 3)]), (some (SO.own true MK.row 36 3 (Ct.tab (Spec.lenK (Spec.sortT (Spec.prD (Spec.keysR rs)))) [(Col.ints .u32 (Spec.colP (Spec.sortT (Spec.prD (Spec.keysR rs))))), (Col.ints .u16 (Spec.colF (Spec.sortT (Spec.prD (Spec.keysR rs))))), (Col.ints .u16 (Spec.colG (Spec.sortT (Spec.prD (Spec.keysR rs)))))])))]))))))))))) := by kernel_rfl
theorem t_R3 (i p f g v : Int) (m j n b cl : Nat) (c0 c1 c2 ws : List Int) (vs : List Value) (rs : List MapEntry) (z2 z11 z12 z23 z24 z25 : SV) (k : Exit → Fr → St → Prop) : ev cxR3 60 6 23 (codeAt Try.prog 23 [1, 1, 1, 0, 1, 0, 0, 1, 1, 0, 0, 1, 1, 0, 0, 1, 1, 0, 0, 1]) (frm 59 [(1, .sa (.one (.ptr 4 0 0))), (2, z2), (3, .sa (.one (.ref 0))), (4, .sa (.one (.ptr 2 0 0))), (5, .sa (kint i)), (7, .sa (.one (.ptr 1 0 0))), (11, z11), (12, z12), (23, z23), (24, z24), (25, z25)])
  [some (.own true .row 36 3 (.tab m [.ints .u32 c0, .ints .u16 c1, .ints .u16 c2])), some (.mem true .whole 36 3 (.lst [[iv .u32 p, iv .u16 f, iv .u16 g]])), some (.mem true .whole 65 1 (.lst [[.ref 3]])), some (.own true .row 3 1 (.ints .i64 ws)), tboxO 5, vT 6, vR 6 n vs j, mvK false [⟨[p, f, g], some (kint v), b⟩] rs cl] k =
    (need (decide ((((m + 1) * 8) ≤ 140737488355328))) (need (decide (((0) ≤ i))) (need (decide ((i < ((n : Nat) : Int)))) (need (decide (((0 + (Int.toNat i)) < n))) (need (decide (((0 + (Int.toNat i)) = j))) (need ((eqK p p) && ((eqK f f) && (eqK g g))) (need (decide (((((List.length ws) + 1) * 8) ≤ 140737488355328))) (k Exit.normal (frm 59 [(1, (.sa (.one (SC.ptr 4 0 0)))), (2, z2), (3, (.sa (.one (SC.ref 9)))), (4, (.sa (.one (SC.ptr 2 0 0)))), (5, (.sa (.one (iv .i64 i)))), (7, (.sa (.one (SC.ptr 1 0 0)))), (11, z11), (12, z12), (23, z23), (24, z24), (25, z25), (29, (.sa (.one (SC.ref 0)))), (30, (.sa (.agg [(iv .u32 p), (iv .u16 f), (iv .u16 g)]))), (31, (.sa (.one (SC.sl 8 0 1 Option.none)))), (32, (.sa (.one (SC.ref 9)))), (33, (.sa (.one (SC.ref 3)))), (34, (.sa (.one (SC.ptr 5 0 0)))), (35, (.sa (.one (SC.ptr 5 0 0)))), (36, (.sa (.one (SC.ptr 5 0 0)))), (37, (.sa (.one (SC.ref 6)))), (38, (.sa (.one (iv .i64 i)))), (39, (.sa (.one (SC.ptr 6 (0 + (Int.toNat i)) 0)))), (40, (.sa (.one (SC.ref 7)))), (41, (.sa (.agg [(iv .u32 p), (iv .u16 f), (iv .u16 g)]))), (42, (.sa (.one (iv .i64 v)))), (43, (.sa (.one (SC.sl 10 0 1 Option.none)))), (44, (.sa (.one (SC.ref 11))))]) [Option.none, (obj 36 3 [(iv .u32 p), (iv .u16 f), (iv .u16 g)]), (obj 65 1 [(SC.ref 11)]), Option.none, (obj 24 1 [(SC.ptr 5 0 0)]), (some (SO.mem false MK.whole 62 1 (Ct.lst [[(SC.ref 6)]]))), (some (SO.own false MK.row 58 1 (Ct.at1 n vs j [(SC.ref 7)]))), (some (SO.mv false [.u32, .u16, .u16] [(VE.mk [p, f, g] (some (.one (iv .i64 v))) b)] rs cl 0)), (obj 36 3 [(iv .u32 p), (iv .u16 f), (iv .u16 g)]), (some (SO.own true MK.row 36 3 (Ct.tab (m + 1) [(Col.ints .u32 ((fitL (0) m c0) ++ [p])), (Col.ints .u16 ((fitL (0) m c1) ++ [f])), (Col.ints .u16 ((fitL (0) m c2) ++ [g]))]))), (obj 3 1 [(iv .i64 v)]), (some (SO.own true MK.row 3 1 (Ct.ints .i64 (ws ++ [v]))))])))))))) := by kernel_rfl
theorem t_R3N (i p f g v : Int) (m j n b cl : Nat) (c0 c1 c2 ws : List Int) (vs : List Value) (rs : List MapEntry) (z2 z11 z12 z23 z24 z25 : SV) (k : Exit → Fr → St → Prop) : ev cxR3 60 6 23 (codeAt Try.prog 23 [1, 1, 1, 0, 1, 0, 0, 1, 1, 0, 0, 1, 1, 0, 0, 1, 1, 0, 0, 1]) (frm 59 [(1, .sa (.one (.ptr 4 0 0))), (2, z2), (3, .sa (.one (.ref 0))), (4, .sa (.one (.ptr 2 0 0))), (5, .sa (kint i)), (7, .sa (.one (.ptr 1 0 0))), (11, z11), (12, z12), (23, z23), (24, z24), (25, z25)])
  [some (.own true .row 36 3 (.tab m [.ints .u32 c0, .ints .u16 c1, .ints .u16 c2])), some (.mem true .whole 36 3 (.lst [[iv .u32 p, iv .u16 f, iv .u16 g]])), some (.mem true .whole 65 1 (.lst [[.ref 3]])), some (.own true .row 3 1 (.ints .i64 ws)), tboxO 5, vT 6, vR 6 n vs j, mvK false [⟨[p, f, g], none, b⟩] rs cl] k =
    (need (decide ((((m + 1) * 8) ≤ 140737488355328))) (need (decide (((0) ≤ i))) (need (decide ((i < ((n : Nat) : Int)))) (need (decide (((0 + (Int.toNat i)) < n))) (need (decide (((0 + (Int.toNat i)) = j))) (need ((eqK p p) && ((eqK f f) && (eqK g g))) (need (decide (((((List.length ws) + 1) * 8) ≤ 140737488355328))) (k Exit.normal (frm 59 [(1, (.sa (.one (SC.ptr 4 0 0)))), (2, z2), (3, (.sa (.one (SC.ref 9)))), (4, (.sa (.one (SC.ptr 2 0 0)))), (5, (.sa (.one (iv .i64 i)))), (7, (.sa (.one (SC.ptr 1 0 0)))), (11, z11), (12, z12), (23, z23), (24, z24), (25, z25), (29, (.sa (.one (SC.ref 0)))), (30, (.sa (.agg [(iv .u32 p), (iv .u16 f), (iv .u16 g)]))), (31, (.sa (.one (SC.sl 8 0 1 Option.none)))), (32, (.sa (.one (SC.ref 9)))), (33, (.sa (.one (SC.ref 3)))), (34, (.sa (.one (SC.ptr 5 0 0)))), (35, (.sa (.one (SC.ptr 5 0 0)))), (36, (.sa (.one (SC.ptr 5 0 0)))), (37, (.sa (.one (SC.ref 6)))), (38, (.sa (.one (iv .i64 i)))), (39, (.sa (.one (SC.ptr 6 (0 + (Int.toNat i)) 0)))), (40, (.sa (.one (SC.ref 7)))), (41, (.sa (.agg [(iv .u32 p), (iv .u16 f), (iv .u16 g)]))), (42, (.sa (.one (iv .i64 (0))))), (43, (.sa (.one (SC.sl 10 0 1 Option.none)))), (44, (.sa (.one (SC.ref 11))))]) [Option.none, (obj 36 3 [(iv .u32 p), (iv .u16 f), (iv .u16 g)]), (obj 65 1 [(SC.ref 11)]), Option.none, (obj 24 1 [(SC.ptr 5 0 0)]), (some (SO.mem false MK.whole 62 1 (Ct.lst [[(SC.ref 6)]]))), (some (SO.own false MK.row 58 1 (Ct.at1 n vs j [(SC.ref 7)]))), (some (SO.mv false [.u32, .u16, .u16] [(VE.mk [p, f, g] Option.none b)] rs cl 0)), (obj 36 3 [(iv .u32 p), (iv .u16 f), (iv .u16 g)]), (some (SO.own true MK.row 36 3 (Ct.tab (m + 1) [(Col.ints .u32 ((fitL (0) m c0) ++ [p])), (Col.ints .u16 ((fitL (0) m c1) ++ [f])), (Col.ints .u16 ((fitL (0) m c2) ++ [g]))]))), (obj 3 1 [(iv .i64 (0))]), (some (SO.own true MK.row 3 1 (Ct.ints .i64 (ws ++ [(0)]))))])))))))) := by kernel_rfl
end Go.Ev
end
section
namespace Go.Ev
open Go Go.Proofs Go.Spec
theorem ev_ops {cx : Cx} {n n0 f id : Nat} {ops : Array Oper} {c : Code} {fr : Fr} {st : St} {k : Exit → Fr → St → Prop} (hc : c = .region id ops false) (h1 : cx.loop f (big + id) = none) (h2 : cx.hand f id = none) (h : ev cx (n + 1) n0 f c fr st k) :
    evOps cx (evCall cx (ev cx n)) ops.toList ops.toList fr st fun fr st => k .normal fr st := by
  subst hc
  have h' : atCut cx f id (.region id ops false) n0 fr st (regRun cx (ev cx n) n0 f (.region id ops false) k) := h
  unfold atCut atKey at h'
  rw [h1] at h'
  dsimp only at h'
  rw [regRun_none h2] at h'
  exact h'
theorem ev_draw {cx : Cx} {n n0 f id : Nat} {ops : Array Oper} {c : Code} {fr : Fr} {st : St} {k : Exit → Fr → St → Prop} (hc : c = .region id ops true) (h1 : cx.loop f (big + id) = none) (h2 : cx.hand f id = none) (h : ev cx (n + 1) n0 f c fr st k) :
    evDraw cx (evCall cx (ev cx n)) ops.toList ops.toList fr st [] fun fr st => k .normal fr st := by
  subst hc
  have h' : atCut cx f id (.region id ops true) n0 fr st (regRun cx (ev cx n) n0 f (.region id ops true) k) := h
  unfold atCut atKey at h'
  rw [h1] at h'
  dsimp only at h'
  rw [regRun_none h2] at h'
  exact h'
attribute [local irreducible] ev evCall branch need again evOps evDraw collect
theorem reg_run {P : Program} {cx : Cx} (hx : CxOk P cx) {n n0 f id : Nat} {ops : Array Oper} {draw : Bool} {c : Code} (hc : c = .region id ops draw) (h1 : cx.loop f (big + id) = none) (h2 : cx.hand f id = none) {fr : Fr} {st : St} {k : Exit → Fr → St → Prop} (h : ev cx (n + 1) n0 f c fr st k)
    {α : Al} {a : Act} {w : World} {r : Option Nat} (hR : R α st w) (hf : FrOk α fr a.tmps) {Q : Exit → Act → World → Prop} (hK : ∀ fr' st' α' a' w', k .normal fr' st' → FrOk α' fr' a'.tmps → To α st w α' st' w' → a'.defers = a.defers → Q .normal a' w') : c.wpIn (Wide r) 0 P Q a w := by
  have hC : CallOk P (evCall cx (ev cx n)) := evCall_ok (run := ev cx n) hx (ev_sound hx n).1
  cases draw with
  | true =>
    have hh := ev_draw hc h1 h2 h
    subst hc
    exact evDraw_sound hx.prog hx.ops hC (lin_call hx.lin (lin_ev hx.lin n)) hx.mixed hR hf hh hK
  | false =>
    have hh := ev_ops hc h1 h2 h
    subst hc
    refine wpIn_region ?_
    have := evOps_sound (r := r) (Q := Q) hx.prog hx.ops hC ops.toList 0 rfl hR hf hh hK
    simpa [List.range_eq_range'] using this
theorem rawAt {α : Al} {n : Nat} {l : List (Nat × SV)} {tmps : Array Value} (hf : FrOk α (frm n l) tmps) {t : Nat} {v : Value} (ht : frmAt t l = some (.sa (.one (.raw v)))) (hlt : t < n) : tmps[t]? = some v := by
  obtain ⟨u, u1, u2⟩ := hf.atL ht hlt
  simp only [SV.rep, SA.rep, SC.val?, Option.some.injEq] at u2
  rw [u1, u2]
theorem ptrAt {α : Al} {n : Nat} {l : List (Nat × SV)} {tmps : Array Value} (hf : FrOk α (frm n l) tmps) {t : Nat} {x : SC} {v : Value} (ht : frmAt t l = some (.sa (.one x))) (hlt : t < n) (hv : x.val? α = some v) : tmps[t]? = some v := by
  obtain ⟨u, u1, u2⟩ := hf.atL ht hlt
  simp only [SV.rep, SA.rep, hv, Option.some.injEq] at u2
  rw [u1, u2]
theorem tb_ptr {α : Al} {a : Nat} {b0 : Nat × Nat} (h : α a = some (tbDen b0)) : SC.val? α (.ptr a 0 0) = SC.val? α (.ref a) := by
  simp [SC.val?, h, tbDen]
theorem shard_tell {D : AD} {w : World} {b0 : Nat × Nat} {rb ro rc j : Nat} {bs : List Nat} {ms : List (List MapEntry × Nat)} {m : List MapEntry × Nat} (hk : TbOk D w b0 rb ro rc bs ms) (hj : j < D.sh.length) (hm : ms[j]? = some m) (k : Kx) (β : Al) :
    ∃ rs ps b, MvOk β kK [ke k (lookS (D.sh.getD j []) k) b] rs m.1 ps m.2 := by
  have hnd := sh_nodup hk j
  have hp : (entsM m.1).Perm (entsV (D.sh.getD j [])) := hk.ent j m _ hm (by rw [List.getD_eq_getElem?_getD, List.getElem?_eq_getElem hj]; rfl)
  have mv : MvOk β kK [] m.1 m.1 [] m.2 := MvOk.start (hk.mok m (List.mem_of_getElem? hm))
  rcases mv.tell (k := [k.1, k.2.1, k.2.2]) rfl (by simp) with ⟨hno, m2⟩ | ⟨x, rs', hx, hxk, hperm, htell⟩
  · have : lookS (D.sh.getD j []) k = none := look_none fun e he hek => by
      have h1 : entV e ∈ entsV (D.sh.getD j []) := List.mem_map_of_mem he
      obtain ⟨y, hy, hye⟩ := List.mem_map.1 (hp.mem_iff.2 h1)
      refine hno y (mv.perm.mem_iff.2 (by simp [hy])) ?_
      have := congrArg Prod.fst hye
      simp only [entV] at this
      rw [this, hek]; rfl
    rw [this]
    exact ⟨_, _, 0, m2⟩
  · have h1 : (x.key, x.val) ∈ entsV (D.sh.getD j []) := hp.mem_iff.1 (List.mem_map_of_mem (f := fun x : MapEntry => (x.key, x.val)) hx)
    obtain ⟨e, he, hee⟩ := List.mem_map.1 h1
    simp only [Prod.mk.injEq] at hee
    have hek : e.1 = k := keyK_inj (hee.1.trans hxk)
    have : lookS (D.sh.getD j []) k = some e.2 := look_one hnd (by rw [← hek]; exact he)
    rw [this]
    exact ⟨_, _, x.born, htell (.one (.raw (.int .i64 e.2))) (by simp only [SA.rep, SC.val?]; rw [← hee.2])⟩
theorem reg1C : codeAt Try.prog 18 [1, 1, 0, 1, 0, 0, 1, 1, 0, 0, 1] = .region 5 (opsAt Try.prog 18 [1, 1, 0, 1, 0, 0, 1, 1, 0, 0, 1]).toArray false := by kernel_rfl
theorem reg2C : codeAt Try.prog 23 [1, 1, 1, 0, 1, 0, 0, 1, 1, 0, 0, 1, 0] = .region 6 (opsAt Try.prog 23 [1, 1, 1, 0, 1, 0, 0, 1, 1, 0, 0, 1, 0]).toArray false := by kernel_rfl
theorem reg3C : codeAt Try.prog 23 [1, 1, 1, 0, 1, 0, 0, 1, 1, 0, 0, 1, 1, 0, 0, 1, 1, 0, 0, 1] = .region 9 (opsAt Try.prog 23 [1, 1, 1, 0, 1, 0, 0, 1, 1, 0, 0, 1, 1, 0, 0, 1, 1, 0, 0, 1]).toArray true := by kernel_rfl
theorem t_c1 (x : Int) (w : Bool) (D : AD) (K : SV → St → Prop) : collect 1 (.tup [kint x]) [some (.abs w 0 D), none, none] K = K (.tup [kint x]) [some (.abs w 0 D)] := by kernel_rfl
theorem hR1_core {k : SV → St → Prop} {α : Al} {w : World} {vals : List Value} {act : Act} {r : Option Nat} {n i : Int} {wr : Bool} {D : AD} (hsz : act.tmps.size = hR1.n) (hR : R α [some (.abs wr 0 D)] w) (hv : RepsA α [.one (.raw (.int .i64 n)), .one (.ref 0), .one (.raw (.int .i64 i))] vals)
    (hs : hR1.ins.map (fun t => act.tmps[t]?) = vals.map some) (h1 : 0 ≤ i) (h2 : i < (D.sh.length : Int)) (hk0 : k (.tup [kint (addK .i64 n (cntV D i))]) [some (.abs wr 0 D)]) :
    (codeAt Try.prog 18 hR1.way).wpIn (Wide r) 0 Try.prog (HandPost α [some (.abs wr 0 D)] w hR1 act k) act w := by
  obtain ⟨d, hd, b0, rb, ro, rc, bs, ms, hdb, hk⟩ := hR.good 0 _ rfl
  have hj : i.toNat < D.sh.length := by omega
  have hjb : i.toNat < bs.length := by rw [← hk.len]; exact hj
  have hjm : i.toNat < ms.length := by rw [hk.hp.h2]; exact hjb
  have hRo := tb_open hR (a := 0) rfl hd hdb hk (List.getElem?_eq_getElem hjb) (List.getElem?_eq_getElem hjm) (MvOk.start (hk.mok _ (List.getElem_mem hjm)))
  have hent := hk.ent i.toNat _ (D.sh.getD i.toNat []) (List.getElem?_eq_getElem hjm) (by rw [List.getD_eq_getElem?_getD, List.getElem?_eq_getElem hj]; rfl)
  have hlen : (ms[i.toNat]).1.length = (D.sh.getD i.toNat []).length := by have := hent.length_eq; simpa [entsM, entsV] using this
  generalize hrs : (ms[i.toNat]).1 = rs at hRo hlen
  match vals, hv with
  | [v0, v1, v2], ⟨e0, e1, e2, _⟩ =>
  simp only [hR1, List.map_cons, List.map_nil, List.cons.injEq, and_true] at hs hsz
  obtain ⟨s3, s0, s4⟩ := hs
  simp only [SA.rep, SC.val?, hd, Option.some.injEq] at e0 e1 e2
  have hα0 : opAl α 1 rb ro rc bs.length (bs[i.toNat]) 0 = some (tbDen b0) := by rw [opAl_old (by omega), hd, hdb]
  have hf : FrOk (opAl α 1 rb ro rc bs.length (bs[i.toNat])) (frm 22 [(0, .sa (.one (.ptr 0 0 0))), (3, .sa (kint n)), (4, .sa (kint i)), (6, .sa (.one (.raw (act.tmps.getD 6 undef)))), (7, .sa (.one (.raw (act.tmps.getD 7 undef))))]) act.tmps :=
    FrOk.ofL hsz fun p hp => by
      have at_ : ∀ t, t < 22 → act.tmps[t]? = some (act.tmps.getD t undef) := fun t ht => by rw [Array.getElem?_eq_getElem (by omega)]; simp [Array.getD, show t < act.tmps.size from by omega]
      simp only [List.mem_cons, List.not_mem_nil, or_false] at hp
      rcases hp with rfl | rfl | rfl | rfl | rfl
      · refine ⟨v1, s0, ?_⟩
        simp only [SV.rep, SA.rep]
        rw [tb_ptr hα0]
        simp only [SC.val?, hα0]
        rw [← e1, hdb]
      · exact ⟨v0, s3, by rw [← e0]; rfl⟩
      · exact ⟨v2, s4, by rw [← e2]; rfl⟩
      · exact ⟨_, at_ 6 (by omega), rfl⟩
      · exact ⟨_, at_ 7 (by omega), rfl⟩
  refine reg_run cxT0_ok (n := 59) (f := 18) (n0 := 1) reg1C rfl rfl (k := fun ex fr st' => ex = .normal ∧ (∃ l, fr = frm 22 l ∧ frmAt 0 l = some (.sa (.one (.ptr 0 0 0))) ∧ frmAt 3 l = some (.sa (kint (addK .i64 n (cntV D i)))) ∧ frmAt 6 l = some (.sa (.one (.raw (act.tmps.getD 6 undef)))) ∧ frmAt 7 l = some (.sa (.one (.raw (act.tmps.getD 7 undef))))) ∧
      st' = [vT 1, vR 1 bs.length (mapVs bs) i.toNat, mvK false [] rs (ms[i.toNat]).2])
    (Eq.mpr (t_R1 ..) ?_) hRo hf ?_
  · rw [show 0 + List.length rs = (D.sh.getD i.toNat []).length from by omega]
    exact ndd h1 (ndd (by rw [← hk.len]; exact h2) (ndd (by omega) (ndd (by omega) ⟨rfl, ⟨_, rfl, rfl, rfl, rfl, rfl⟩, rfl⟩)))
  · rintro fr' st' α' a' w' ⟨_, ⟨l, rfl, l0, l3, l6, l7⟩, rfl⟩ hf' hto hde
    have hcl := tb_close hR (a := 0) rfl hd hdb hk (List.getElem?_eq_getElem hjb) hto
    have hsz' := hf'.sizeL
    have hα' : α' 0 = some (tbDen b0) := by rw [hto.ext 0 (by simp)]; exact hα0
    obtain ⟨α2, v', st2, ⟨rfl, rfl⟩, x1, x3⟩ := collect_sound (v := .tup [kint (addK .i64 n (cntV D i))]) (val := .tuple #[.int .i64 (addK .i64 n (cntV D i))]) (k := fun v st => v = .tup [kint (addK .i64 n (cntV D i))] ∧ st = [some (.abs wr 0 D)]) hcl ⟨[_], ⟨rfl, trivial⟩, rfl⟩ (Eq.mpr (t_c1 ..) ⟨rfl, rfl⟩)
    refine ⟨rfl, hde, by rw [hsz', hsz], fun t ht => ?_, [kint (addK .i64 n (cntV D i))], _, α2, [.int .i64 (addK .i64 n (cntV D i))], ?_, ⟨rfl, trivial⟩, hk0, x3⟩
    · have at_ : ∀ t, t < 22 → act.tmps[t]? = some (act.tmps.getD t undef) := fun t ht => by rw [Array.getElem?_eq_getElem (by omega)]; simp [Array.getD, show t < act.tmps.size from by omega]
      simp only [hR1, List.mem_cons, List.not_mem_nil, or_false] at ht
      rcases ht with rfl | rfl | rfl
      · rw [s0]
        exact ptrAt hf' l0 (by omega) (by rw [tb_ptr hα']; simp only [SC.val?, hα']; rw [← e1, hdb])
      · rw [at_ 6 (by omega)]; exact rawAt hf' l6 (by omega)
      · rw [at_ 7 (by omega)]; exact rawAt hf' l7 (by omega)
    · simp only [hR1, List.map_cons, List.map_nil, List.cons.injEq, and_true]
      exact rawAt hf' l3 (by omega)
theorem hR1_ok : HandOk Try.prog 18 hR1 := by
  refine fun args st => ⟨?_, fun k h α w vals act r hr hsz hR hv hs => ?_⟩
  · show Lin (sR1 args st)
    unfold sR1
    split
    · split
      · exact linNeed (linNeed linRet)
      · exact fun _ h => h.elim
    · exact fun _ h => h.elim
  · have h : sR1 args st k := h
    unfold sR1 at h
    split at h
    · split at h
      · have g1 := need_iff.1 h
        have g2 := need_iff.1 g1.2
        exact hR1_core hsz hR hv hs (of_decide_eq_true g1.1) (of_decide_eq_true g2.1) g2.2
      · exact h.elim
    · exact h.elim
end Go.Ev
end
section
namespace Go.Ev
open Go Go.Proofs Go.Spec
theorem t_c2 (x : Int) (w : Bool) (D : AD) (n : Nat) (ks : List Kx) (a b : Option SO) (K : SV → St → Prop) : collect 2 (.tup [.one (.ref 6), kint x, kint 0]) [tbox 1, some (.abs w 0 D), none, none, a, b, rowX ks] K = K (.tup [.one (.ref 2), kint x, kint 0]) [tbox 1, some (.abs w 0 D), rowX ks] := by kernel_rfl
theorem t_c3 (w : Bool) (D : AD) (a b x y : Option SO) (m : Nat) (p f g : Int) (c0 c1 c2 c3 : List Int) (K : SV → St → Prop) : collect 6 (.tup [.one (.ref 9)]) [none, some (.mem true .whole 36 3 (.lst [[iv .u32 p, iv .u16 f, iv .u16 g]])), some (.mem true .whole 65 1 (.lst [[.ref 11]])), none, tbox 5, some (.abs w 0 D), none, none, a, some (.own true .row 36 3 (.tab m [.ints .u32 c0, .ints .u16 c1, .ints .u16 c2])), b, some (.own true .row 3 1 (.ints .i64 c3))] K =
    K (.tup [.one (.ref 6)]) [none, some (.mem true .whole 36 3 (.lst [[iv .u32 p, iv .u16 f, iv .u16 g]])), some (.mem true .whole 65 1 (.lst [[.ref 7]])), none, tbox 5, some (.abs w 0 D), some (.own true .row 36 3 (.tab m [.ints .u32 c0, .ints .u16 c1, .ints .u16 c2])), some (.own true .row 3 1 (.ints .i64 c3))] := by kernel_rfl
attribute [local irreducible] ev evCall branch need again evOps evDraw collect
theorem boxGood {α : Al} {w : World} {d : Den} {T : TypeId} {x y : SC} (h : Good α w d (.mem true .whole T 1 (.lst [[x]]))) (hx : ∃ v, SC.val? α x = some v) (hxy : SC.val? α x = SC.val? α y) (hnx : ∀ k xs, x ≠ .dat k xs) (hny : ∀ k xs, y ≠ .dat k xs) : Good α w d (.mem true .whole T 1 (.lst [[y]])) := by
  obtain ⟨h1, h2, cs, fz, h3, h4, h5, h6, h7, h8⟩ := h
  refine ⟨h1, h2, cs, fz, h3, h4, h5, h6, h7, fun i hi => ?_⟩
  simp only [Ct.len, List.length_cons, List.length_nil] at hi
  obtain rfl : i = 0 := by omega
  obtain ⟨_, g⟩ := h8 0 (by simp [Ct.len])
  refine ⟨rfl, fun j c hj => ?_⟩
  simp only [Ct.get, getL_eq, List.getElem?_cons_zero, Option.getD_some] at hj
  match j, hj with
  | 0, hj =>
    simp at hj; subst hj
    obtain ⟨v, g1, g2, g3⟩ := g 0 x rfl
    have g1 := g1.val hnx
    rw [hxy] at g1
    exact ⟨v, .of g1, g2, g3⟩
  | n + 1, hj => simp at hj
theorem boxIce {w : World} {d : Den} {T : TypeId} {x : SC} (hx : ∀ k xs, x ≠ .dat k xs) {b : Nat} : ¬ Ice w d (.mem true .whole T 1 (.lst [[x]])) b := by
  rintro ⟨i, j, k, xs, v, h1, h2, _⟩
  simp only [Ct.len, List.length_cons, List.length_nil] at h1
  obtain rfl : i = 0 := by omega
  simp only [Ct.get, getL_eq, List.getElem?_cons_zero, Option.getD_some] at h2
  match j, h2 with
  | 0, h2 => simp at h2; exact hx _ _ h2
  | n + 1, h2 => simp at h2
theorem To.unbox {α α' : Al} {st st' : St} {w w' : World} {o a : Nat} {b0 : Nat × Nat} (h : To α st w α' st' w') (ho : st'.get o = tbox a) (ha : α' a = some (tbDen b0)) : To α st w α' (st'.put o (tboxO a)) w' :=
  h.retell ho (fun _ _ _ h => h) (fun h => h) (fun d b => boxIce (fun _ _ h => by cases h)) (fun d hd hg => boxGood hg ⟨_, by simp only [SC.val?, ha]; rfl⟩ (tb_ptr ha).symm (fun _ _ h => by cases h) (fun _ _ h => by cases h))
theorem To.rebox {α α' : Al} {st st' : St} {w w' : World} {o a : Nat} {b0 : Nat × Nat} (h : To α st w α' st' w') (ho : st'.get o = tboxO a) (ha : α' a = some (tbDen b0)) : To α st w α' (st'.put o (tbox a)) w' :=
  h.retell ho (fun _ _ _ h => h) (fun h => h) (fun d b => boxIce (fun _ _ h => by cases h)) (fun d hd hg => boxGood hg ⟨_, by simp only [SC.val?, ha]; rfl⟩ (tb_ptr ha) (fun _ _ h => by cases h) (fun _ _ h => by cases h))
theorem cxR3_ok : CxOk Try.prog cxR3 := mkCx_ok namesT mixedT (by
  intro y h
  simp only [List.mem_cons, List.not_mem_nil, or_false] at h
  rcases h with rfl | rfl
  · exact keys1_sum
  · exact sortF_sum)
theorem sortK_unique {a b : List Kx} (h : a.Perm b) : sortK a = sortK b := by
  refine List.Perm.eq_of_pairwise (le := fun a b => ltK b a = false) (fun x y _ _ h1 h2 => ?_) sortK_sorted sortK_sorted (sortK_perm.trans (h.trans sortK_perm.symm))
  exact oneK x y h2 h1
theorem keysR_perm {xs : List MapEntry} {l : List (Kx × Int)} (h : (entsM xs).Perm (entsV l)) : (keysR xs).Perm (l.map (·.1)) := by
  have := h.map (fun x : Value × Value => kxOf x.1)
  simp only [entsM, entsV, List.map_map] at this
  exact this
theorem hR2_core {k : SV → St → Prop} {α : Al} {w : World} {vals : List Value} {act : Act} {r : Option Nat} {i : Int} {wr : Bool} {D : AD} (hsz : act.tmps.size = hR2.n) (hR : R α [tbox 1, some (.abs wr 0 D)] w) (hv : RepsA α [.one (.ptr 0 0 0), .one (.raw (.int .i64 i))] vals)
    (hs : hR2.ins.map (fun t => act.tmps[t]?) = vals.map some) (h1 : 0 ≤ i) (h2 : i < (D.sh.length : Int)) (h3 : lenK (keysT D i) * 8 ≤ 140737488355328) (hk0 : k (.tup [.one (.ref 2), kint ((lenK (keysT D i) : Nat) : Int), kint 0]) [tbox 1, some (.abs wr 0 D), rowX (keysT D i)]) :
    (codeAt Try.prog 23 hR2.way).wpIn (Wide r) 0 Try.prog (HandPost α [tbox 1, some (.abs wr 0 D)] w hR2 act k) act w := by
  obtain ⟨d, hd, b0, rb, ro, rc, bs, ms, hdb, hk⟩ := hR.good 1 _ rfl
  obtain ⟨db, hdbx, hgb⟩ := hR.good 0 _ rfl
  have hj : i.toNat < D.sh.length := by omega
  have hjb : i.toNat < bs.length := by rw [← hk.len]; exact hj
  have hjm : i.toNat < ms.length := by rw [hk.hp.h2]; exact hjb
  have hun := (To.refl hR).unbox (o := 0) (a := 1) rfl (by rw [hd, hdb])
  have hR' : R α [tboxO 1, some (.abs wr 0 D)] w := hun.rep
  have hRo := tb_open hR' (a := 1) rfl hd hdb hk (List.getElem?_eq_getElem hjb) (List.getElem?_eq_getElem hjm) (MvOk.start (hk.mok _ (List.getElem_mem hjm)))
  have hent := hk.ent i.toNat _ (D.sh.getD i.toNat []) (List.getElem?_eq_getElem hjm) (by rw [List.getD_eq_getElem?_getD, List.getElem?_eq_getElem hj]; rfl)
  have hks : sortT (prD (keysR (ms[i.toNat]).1)) = keysT D i := by
    unfold sortT keysT
    refine sortK_unique ?_
    have e : ((prD (keysR (ms[i.toNat]).1)).sh.getD 0 []).map (·.1) = keysR (ms[i.toNat]).1 := by simp [prD, List.map_map, Function.comp_def]
    rw [e]
    exact keysR_perm hent
  have hlk : lenK (keysR (ms[i.toNat]).1) = lenK (keysT D i) := by
    unfold lenK keysT
    rw [sortK_len]
    have := (keysR_perm hent).length_eq
    simpa using this
  generalize hrs : (ms[i.toNat]).1 = rs at hRo hks hlk
  match vals, hv with
  | [v0, v1], ⟨e0, e1, _⟩ =>
  simp only [hR2, List.map_cons, List.map_nil, List.cons.injEq, and_true] at hs hsz
  obtain ⟨s1, s5⟩ := hs
  simp only [SA.rep, SC.val?, Option.some.injEq] at e1
  have hα0 : opAl α 2 rb ro rc bs.length (bs[i.toNat]) 0 = α 0 := opAl_old (by omega)
  have hα1 : opAl α 2 rb ro rc bs.length (bs[i.toNat]) 1 = some (tbDen b0) := by rw [opAl_old (by omega), hd, hdb]
  have at_ : ∀ t, t < 59 → act.tmps[t]? = some (act.tmps.getD t undef) := fun t ht => by rw [Array.getElem?_eq_getElem (by omega)]; simp [Array.getD, show t < act.tmps.size from by omega]
  have e0' : SC.val? α (.ptr 0 0 0) = some v0 := e0
  have hf : FrOk (opAl α 2 rb ro rc bs.length (bs[i.toNat])) (frm 59 [(1, .sa (.one (.ptr 0 0 0))), (2, .sa (.one (.raw (act.tmps.getD 2 undef)))), (3, .sa (.one (.raw (act.tmps.getD 3 undef)))), (4, .sa (.one (.raw (act.tmps.getD 4 undef)))), (5, .sa (kint i)), (11, .sa (.one (.raw (act.tmps.getD 11 undef)))), (12, .sa (.one (.raw (act.tmps.getD 12 undef))))]) act.tmps :=
    FrOk.ofL hsz fun p hp => by
      simp only [List.mem_cons, List.not_mem_nil, or_false] at hp
      rcases hp with rfl | rfl | rfl | rfl | rfl | rfl | rfl
      · refine ⟨v0, s1, ?_⟩
        simp only [SV.rep, SA.rep]
        rw [← e0']
        simp only [SC.val?, hα0]
      · exact ⟨_, at_ 2 (by omega), rfl⟩
      · exact ⟨_, at_ 3 (by omega), rfl⟩
      · exact ⟨_, at_ 4 (by omega), rfl⟩
      · exact ⟨v1, s5, by rw [← e1]; rfl⟩
      · exact ⟨_, at_ 11 (by omega), rfl⟩
      · exact ⟨_, at_ 12 (by omega), rfl⟩
  refine reg_run cxR3_ok (n := 59) (f := 23) (n0 := 2) reg2C rfl rfl (k := fun ex fr st' => ex = .normal ∧ (∃ l, fr = frm 59 l ∧ frmAt 1 l = some (.sa (.one (.ptr 0 0 0))) ∧ frmAt 2 l = some (.sa (.one (.raw (act.tmps.getD 2 undef)))) ∧ frmAt 3 l = some (.sa (.one (.raw (act.tmps.getD 3 undef)))) ∧ frmAt 4 l = some (.sa (.one (.raw (act.tmps.getD 4 undef)))) ∧ frmAt 5 l = some (.sa (kint i)) ∧
        frmAt 11 l = some (.sa (.one (.raw (act.tmps.getD 11 undef)))) ∧ frmAt 12 l = some (.sa (.one (.raw (act.tmps.getD 12 undef)))) ∧ frmAt 23 l = some (.sa (.one (.ref 6))) ∧ frmAt 24 l = some (.sa (kint ((lenK (keysT D i) : Nat) : Int))) ∧ frmAt 25 l = some (.sa (kint 0))) ∧
      ∃ x y, st' = [tboxO 1, vT 2, vR 2 bs.length (mapVs bs) i.toNat, mvK false [] rs (ms[i.toNat]).2, x, y, rowX (keysT D i)])
    (Eq.mpr (t_R2 ..) ?_) hRo hf ?_
  · rw [hks, hlk]
    exact ndd h1 (ndd (by rw [← hk.len]; exact h2) (ndd (by omega) (ndd (by omega) ⟨rfl, rfl, rfl, rfl, ndd h3 (ndd h3 ⟨rfl, ⟨_, rfl, rfl, rfl, rfl, rfl, rfl, rfl, rfl, rfl, rfl, rfl⟩, _, _, rfl⟩)⟩)))
  · rintro fr' st' α' a' w' ⟨_, ⟨l, rfl, l1, l2, l3, l4, l5, l11, l12, l23, l24, l25⟩, x, y, rfl⟩ hf' hto hde
    have hα' : α' 1 = some (tbDen b0) := by rw [hto.ext 1 (by simp)]; exact hα1
    have hα'0 : α' 0 = α 0 := by rw [hto.ext 0 (by simp)]; exact hα0
    have hcl := hun.trans ((tb_close hR' (a := 1) rfl hd hdb hk (List.getElem?_eq_getElem hjb) hto).rebox (o := 0) (a := 1) rfl hα')
    have hsz' := hf'.sizeL
    obtain ⟨u23, m1, m2⟩ := hf'.atL l23 (by omega)
    obtain ⟨α2, v', st2, ⟨rfl, rfl⟩, ⟨vs, x1, x2⟩, x3⟩ := collect_sound (v := .tup [.one (.ref 6), kint ((lenK (keysT D i) : Nat) : Int), kint 0]) (val := .tuple #[u23, .int .i64 ((lenK (keysT D i) : Nat) : Int), .int .i64 0]) (k := fun v st => v = .tup [.one (.ref 2), kint ((lenK (keysT D i) : Nat) : Int), kint 0] ∧ st = [tbox 1, some (.abs wr 0 D), rowX (keysT D i)]) hcl ⟨[u23, _, _], ⟨m2, rfl, rfl, trivial⟩, rfl⟩ (Eq.mpr (t_c2 (n := 0) ..) ⟨rfl, rfl⟩)
    have hvs : vs = [u23, .int .i64 ((lenK (keysT D i) : Nat) : Int), .int .i64 0] := by
      have := congrArg (fun v : Value => match v with | .tuple a => a.toList | _ => []) x2
      simpa using this.symm
    subst hvs
    refine ⟨rfl, hde, by rw [hsz', hsz], fun t ht => ?_, _, _, α2, _, ?_, x1, hk0, x3⟩
    · simp only [hR2, List.mem_cons, List.not_mem_nil, or_false] at ht
      rcases ht with rfl | rfl | rfl | rfl | rfl | rfl | rfl
      · rw [s1]; exact ptrAt hf' l1 (by omega) (by rw [← e0']; simp only [SC.val?, hα'0])
      · rw [at_ 2 (by omega)]; exact rawAt hf' l2 (by omega)
      · rw [at_ 3 (by omega)]; exact rawAt hf' l3 (by omega)
      · rw [at_ 4 (by omega)]; exact rawAt hf' l4 (by omega)
      · rw [s5, ← e1]; exact rawAt hf' l5 (by omega)
      · rw [at_ 11 (by omega)]; exact rawAt hf' l11 (by omega)
      · rw [at_ 12 (by omega)]; exact rawAt hf' l12 (by omega)
    · simp only [hR2, List.map_cons, List.map_nil, List.cons.injEq, and_true]
      exact ⟨m1, rawAt hf' l24 (by omega), rawAt hf' l25 (by omega)⟩
theorem hR2_ok : HandOk Try.prog 23 hR2 := by
  refine fun args st => ⟨?_, fun k h α w vals act r hr hsz hR hv hs => ?_⟩
  · show Lin (sR2 args st)
    unfold sR2
    split
    · split
      · exact linNeed (linNeed (linNeed (linNeed linRet)))
      · exact fun _ h => h.elim
    · exact fun _ h => h.elim
  · have h : sR2 args st k := h
    unfold sR2 at h
    split at h
    · split at h
      · have g0 := need_iff.1 h
        have g1 := need_iff.1 g0.2
        have g2 := need_iff.1 g1.2
        have g3 := need_iff.1 g2.2
        have hT := of_decide_eq_true g0.1
        subst hT
        exact hR2_core hsz hR hv hs (of_decide_eq_true g1.1) (of_decide_eq_true g2.1) (of_decide_eq_true g3.1) g3.2
      · exact h.elim
    · exact h.elim
theorem hR3_core {k : SV → St → Prop} {α : Al} {w : World} {vals : List Value} {act : Act} {r : Option Nat} {i p f g : Int} {m : Nat} {c0 c1 c2 ws : List Int} {wr : Bool} {D : AD} {st : St}
    (hst : st = [some (.own true .row 36 3 (.tab m [.ints .u32 c0, .ints .u16 c1, .ints .u16 c2])), some (.mem true .whole 36 3 (.lst [[iv .u32 p, iv .u16 f, iv .u16 g]])), some (.mem true .whole 65 1 (.lst [[.ref 3]])), some (.own true .row 3 1 (.ints .i64 ws)), tbox 5, some (.abs wr 0 D)])
    (hsz : act.tmps.size = hR3.n) (hR : R α st w) (hv : RepsA α [.one (.ref 0), .one (.ptr 1 0 0), .one (.ptr 2 0 0), .one (.ptr 4 0 0), .one (.raw (.int .i64 i))] vals)
    (hs : hR3.ins.map (fun t => act.tmps[t]?) = vals.map some) (h1 : 0 ≤ i) (h2 : i < (D.sh.length : Int)) (h3 : (m + 1) * 8 ≤ 140737488355328) (h4 : (ws.length + 1) * 8 ≤ 140737488355328)
    (hk0 : k (.tup [.one (.ref 6)]) [none, some (.mem true .whole 36 3 (.lst [[iv .u32 p, iv .u16 f, iv .u16 g]])), some (.mem true .whole 65 1 (.lst [[.ref 7]])), none, tbox 5, some (.abs wr 0 D),
          some (.own true .row 36 3 (.tab (m + 1) [.ints .u32 (fitL 0 m c0 ++ [p]), .ints .u16 (fitL 0 m c1 ++ [f]), .ints .u16 (fitL 0 m c2 ++ [g])])), some (.own true .row 3 1 (.ints .i64 (ws ++ [valT D i p f g])))]) :
    (codeAt Try.prog 23 hR3.way).wpIn (Wide r) 0 Try.prog (HandPost α st w hR3 act k) act w := by
  have hlst : st.length = 6 := by rw [hst]; rfl
  have hg5 : st.get 5 = some (.abs wr 0 D) := by rw [hst]; rfl
  have hg4 : st.get 4 = tbox 5 := by rw [hst]; rfl
  obtain ⟨d, hd, b0, rb, ro, rc, bs, ms, hdb, hk⟩ := hR.good 5 _ hg5
  have hj : i.toNat < D.sh.length := by omega
  have hjb : i.toNat < bs.length := by rw [← hk.len]; exact hj
  have hjm : i.toNat < ms.length := by rw [hk.hp.h2]; exact hjb
  have hun := (To.refl hR).unbox (o := 4) (a := 5) hg4 (by rw [hd, hdb])
  obtain ⟨st', hst'⟩ : ∃ st', st' = st.put 4 (tboxO 5) := ⟨_, rfl⟩
  rw [← hst'] at hun
  have hR' : R α st' w := hun.rep
  have hlst' : st'.length = 6 := by rw [hst', St.length_put]; exact hlst
  have hg5' : st'.get 5 = some (.abs wr 0 D) := by rw [hst', St.get_put_ne (by omega)]; exact hg5
  obtain ⟨rs, ps, b, mv⟩ := shard_tell hk hj (List.getElem?_eq_getElem hjm) (p, f, g) (opAl α st'.length rb ro rc bs.length (bs[i.toNat]))
  have hRo := tb_open hR' (a := 5) hg5' hd hdb hk (List.getElem?_eq_getElem hjb) (List.getElem?_eq_getElem hjm) mv
  rw [hlst'] at hRo
  have hval : valT D i p f g = (lookS (D.sh.getD i.toNat []) (p, f, g)).getD 0 := rfl
  match vals, hv with
  | [v0, v1, v2, v3, v4], ⟨e0, e1, e2, e3, e4, _⟩ =>
  simp only [hR3, List.map_cons, List.map_nil, List.cons.injEq, and_true] at hs hsz
  obtain ⟨s3, s7, s4, s1, s5⟩ := hs
  simp only [SA.rep, SC.val?, Option.some.injEq] at e4
  have e0' : SC.val? α (.ref 0) = some v0 := e0
  have e1' : SC.val? α (.ptr 1 0 0) = some v1 := e1
  have e2' : SC.val? α (.ptr 2 0 0) = some v2 := e2
  have e3' : SC.val? α (.ptr 4 0 0) = some v3 := e3
  have hα0 : ∀ o, o < 6 → opAl α 6 rb ro rc bs.length (bs[i.toNat]) o = α o := fun o ho => opAl_old (by omega)
  have at_ : ∀ t, t < 59 → act.tmps[t]? = some (act.tmps.getD t undef) := fun t ht => by rw [Array.getElem?_eq_getElem (by omega)]; simp [Array.getD, show t < act.tmps.size from by omega]
  have hf : FrOk (opAl α 6 rb ro rc bs.length (bs[i.toNat])) (frm 59 [(1, .sa (.one (.ptr 4 0 0))), (2, .sa (.one (.raw (act.tmps.getD 2 undef)))), (3, .sa (.one (.ref 0))), (4, .sa (.one (.ptr 2 0 0))), (5, .sa (kint i)), (7, .sa (.one (.ptr 1 0 0))), (11, .sa (.one (.raw (act.tmps.getD 11 undef)))), (12, .sa (.one (.raw (act.tmps.getD 12 undef)))), (23, .sa (.one (.raw (act.tmps.getD 23 undef)))), (24, .sa (.one (.raw (act.tmps.getD 24 undef)))), (25, .sa (.one (.raw (act.tmps.getD 25 undef))))]) act.tmps :=
    FrOk.ofL hsz fun q hq => by
      simp only [List.mem_cons, List.not_mem_nil, or_false] at hq
      rcases hq with rfl | rfl | rfl | rfl | rfl | rfl | rfl | rfl | rfl | rfl | rfl
      · exact ⟨v3, s1, by simp only [SV.rep, SA.rep]; rw [← e3']; simp only [SC.val?, hα0 4 (by omega)]⟩
      · exact ⟨_, at_ 2 (by omega), rfl⟩
      · exact ⟨v0, s3, by simp only [SV.rep, SA.rep]; rw [← e0']; simp only [SC.val?, hα0 0 (by omega)]⟩
      · exact ⟨v2, s4, by simp only [SV.rep, SA.rep]; rw [← e2']; simp only [SC.val?, hα0 2 (by omega)]⟩
      · exact ⟨v4, s5, by rw [← e4]; rfl⟩
      · exact ⟨v1, s7, by simp only [SV.rep, SA.rep]; rw [← e1']; simp only [SC.val?, hα0 1 (by omega)]⟩
      · exact ⟨_, at_ 11 (by omega), rfl⟩
      · exact ⟨_, at_ 12 (by omega), rfl⟩
      · exact ⟨_, at_ 23 (by omega), rfl⟩
      · exact ⟨_, at_ 24 (by omega), rfl⟩
      · exact ⟨_, at_ 25 (by omega), rfl⟩
  have hop : ∀ es, opSt st' 5 bs.length (mapVs bs) i.toNat es rs (ms[i.toNat]).2 = [some (.own true .row 36 3 (.tab m [.ints .u32 c0, .ints .u16 c1, .ints .u16 c2])), some (.mem true .whole 36 3 (.lst [[iv .u32 p, iv .u16 f, iv .u16 g]])), some (.mem true .whole 65 1 (.lst [[.ref 3]])), some (.own true .row 3 1 (.ints .i64 ws)), tboxO 5, vT 6, vR 6 bs.length (mapVs bs) i.toNat, mvK false es rs (ms[i.toNat]).2] := fun es => by
    rw [hst', hst]; rfl
  refine reg_run cxR3_ok (n := 59) (f := 23) (n0 := 6) reg3C rfl rfl (k := fun ex fr st'' => ex = .normal ∧ (∃ l, fr = frm 59 l ∧ frmAt 1 l = some (.sa (.one (.ptr 4 0 0))) ∧ frmAt 2 l = some (.sa (.one (.raw (act.tmps.getD 2 undef)))) ∧ frmAt 3 l = some (.sa (.one (.ref 9))) ∧ frmAt 4 l = some (.sa (.one (.ptr 2 0 0))) ∧ frmAt 5 l = some (.sa (kint i)) ∧
        frmAt 11 l = some (.sa (.one (.raw (act.tmps.getD 11 undef)))) ∧ frmAt 12 l = some (.sa (.one (.raw (act.tmps.getD 12 undef)))) ∧ frmAt 23 l = some (.sa (.one (.raw (act.tmps.getD 23 undef)))) ∧ frmAt 24 l = some (.sa (.one (.raw (act.tmps.getD 24 undef)))) ∧ frmAt 25 l = some (.sa (.one (.raw (act.tmps.getD 25 undef))))) ∧
      ∃ x y z u, st'' = [none, some (.mem true .whole 36 3 (.lst [[iv .u32 p, iv .u16 f, iv .u16 g]])), some (.mem true .whole 65 1 (.lst [[.ref 11]])), none, tboxO 5, vT 6, x, y, z, some (.own true .row 36 3 (.tab (m + 1) [.ints .u32 (fitL 0 m c0 ++ [p]), .ints .u16 (fitL 0 m c1 ++ [f]), .ints .u16 (fitL 0 m c2 ++ [g])])), u, some (.own true .row 3 1 (.ints .i64 (ws ++ [valT D i p f g])))])
    (st := opSt st' 5 bs.length (mapVs bs) i.toNat [ke (p, f, g) (lookS (D.sh.getD i.toNat []) (p, f, g)) b] rs (ms[i.toNat]).2) ?_ hRo hf ?_
  · rw [hop]
    cases hl : lookS (D.sh.getD i.toNat []) (p, f, g) with
    | some v =>
      rw [hl] at hval
      rw [hval]
      exact Eq.mpr (t_R3 ..) (ndd h3 (ndd h1 (ndd (by rw [← hk.len]; exact h2) (ndd (by omega) (ndd (by omega) (ndk3 (ndd h4 ⟨rfl, ⟨_, rfl, rfl, rfl, rfl, rfl, rfl, rfl, rfl, rfl, rfl, rfl⟩, _, _, _, _, rfl⟩)))))))
    | none =>
      rw [hl] at hval
      rw [hval]
      exact Eq.mpr (t_R3N (v := 0) ..) (ndd h3 (ndd h1 (ndd (by rw [← hk.len]; exact h2) (ndd (by omega) (ndd (by omega) (ndk3 (ndd h4 ⟨rfl, ⟨_, rfl, rfl, rfl, rfl, rfl, rfl, rfl, rfl, rfl, rfl, rfl⟩, _, _, _, _, rfl⟩)))))))
  · rintro fr' st3 α' a' w' ⟨_, ⟨l, rfl, l1, l2, l3, l4, l5, l11, l12, l23, l24, l25⟩, x, y, z, u, rfl⟩ hf' hto hde
    have hext : ∀ o, o < 6 → α' o = α o := fun o ho => by rw [hto.ext o (by rw [opSt_len, hlst']; omega)]; exact hα0 o ho
    have hα' : α' 5 = some (tbDen b0) := by rw [hext 5 (by omega), hd, hdb]
    rw [← hlst'] at hto
    have hcl1 := tb_close hR' (a := 5) hg5' hd hdb hk (List.getElem?_eq_getElem hjb) hto
    rw [hlst'] at hcl1
    have hcl := hun.trans (hcl1.rebox (o := 4) (a := 5) rfl hα')
    have hsz' := hf'.sizeL
    obtain ⟨u3, m1, mm⟩ := hf'.atL l3 (by omega)
    obtain ⟨α2, v', st2, ⟨rfl, rfl⟩, ⟨vs, x1, x2⟩, x3⟩ := collect_sound (v := .tup [.one (.ref 9)]) (val := .tuple #[u3]) (k := fun v s => v = .tup [.one (.ref 6)] ∧ s = [none, some (.mem true .whole 36 3 (.lst [[iv .u32 p, iv .u16 f, iv .u16 g]])), some (.mem true .whole 65 1 (.lst [[.ref 7]])), none, tbox 5, some (.abs wr 0 D),
          some (.own true .row 36 3 (.tab (m + 1) [.ints .u32 (fitL 0 m c0 ++ [p]), .ints .u16 (fitL 0 m c1 ++ [f]), .ints .u16 (fitL 0 m c2 ++ [g])])), some (.own true .row 3 1 (.ints .i64 (ws ++ [valT D i p f g])))]) hcl ⟨[u3], ⟨mm, trivial⟩, rfl⟩ (by
        rw [hlst]; exact Eq.mpr (t_c3 (x := none) (y := none) ..) ⟨rfl, rfl⟩)
    have hvs : vs = [u3] := by
      have := congrArg (fun v : Value => match v with | .tuple a => a.toList | _ => []) x2
      simpa using this.symm
    subst hvs
    refine ⟨rfl, hde, by rw [hsz', hsz], fun t ht => ?_, _, _, α2, _, ?_, x1, hk0, x3⟩
    · simp only [hR3, List.mem_cons, List.not_mem_nil, or_false] at ht
      rcases ht with rfl | rfl | rfl | rfl | rfl | rfl | rfl | rfl | rfl
      · rw [s1]; exact ptrAt hf' l1 (by omega) (by rw [← e3']; simp only [SC.val?, hext 4 (by omega)])
      · rw [at_ 2 (by omega)]; exact rawAt hf' l2 (by omega)
      · rw [s4]; exact ptrAt hf' l4 (by omega) (by rw [← e2']; simp only [SC.val?, hext 2 (by omega)])
      · rw [s5, ← e4]; exact rawAt hf' l5 (by omega)
      · rw [at_ 11 (by omega)]; exact rawAt hf' l11 (by omega)
      · rw [at_ 12 (by omega)]; exact rawAt hf' l12 (by omega)
      · rw [at_ 23 (by omega)]; exact rawAt hf' l23 (by omega)
      · rw [at_ 24 (by omega)]; exact rawAt hf' l24 (by omega)
      · rw [at_ 25 (by omega)]; exact rawAt hf' l25 (by omega)
    · simp only [hR3, List.map_cons, List.map_nil, List.cons.injEq, and_true]
      exact m1
theorem hR3_ok : HandOk Try.prog 23 hR3 := by
  refine fun args st => ⟨?_, fun k h α w vals act r hr hsz hR hv hs => ?_⟩
  · show Lin (sR3 args st)
    unfold sR3
    split
    · split
      · exact linNeed (linNeed (linNeed (linNeed (linNeed linRet))))
      · exact fun _ h => h.elim
    · exact fun _ h => h.elim
  · have h : sR3 args st k := h
    unfold sR3 at h
    split at h
    · split at h
      · have g0 := need_iff.1 h
        have g1 := need_iff.1 g0.2
        have g2 := need_iff.1 g1.2
        have g3 := need_iff.1 g2.2
        have g4 := need_iff.1 g3.2
        obtain ⟨c1, c2, c3, c4, c5⟩ := of_decide_eq_true g0.1
        subst c1; subst c2; subst c3; subst c4; subst c5
        exact hR3_core rfl hsz hR hv hs (of_decide_eq_true g1.1) (of_decide_eq_true g2.1) (of_decide_eq_true g3.1) (of_decide_eq_true g4.1) g4.2
      · exact h.elim
    · exact h.elim
end Go.Ev
end
section
namespace Go.Spec
open Go Go.Ev
def lenF (D : TbD) : Nat → Int
  | 0 => 0
  | i + 1 => addK .i64 (lenF D i) (cntV D (i : Int))
def lenT (D : TbD) : Int := lenF D D.sh.length
def nsh (D : TbD) : Nat := D.sh.length
end Go.Spec
namespace Go.Ev
open Go Go.Proofs Go.Spec
def sTLen : SumT := fun args st k => match args with
  | [.one (.raw (.pointer none))] => (match st with
    | [] => k (.sa (.one (.raw (.int .i64 0)))) []
    | _ => False)
  | [.one (.ref 0)] => (match st with
    | [some (.abs w 0 D)] => need (decide (nsh D ≤ 64)) (k (.sa (.one (.raw (.int .i64 (lenT D))))) [some (.abs w 0 D)])
    | _ => False)
  | _ => False
noncomputable def cxLn : Cx := { mkCx Try.prog [(7, sTShards)] [(18, 3, [0, 3, 6, 7], [])] [] with hand := lookHand [(18, 5, hR1)] }
end Go.Ev
end
section
namespace Go.Ev
open Go Go.Proofs Go.Spec
theorem t_len (w : Bool) (D : TbD) (L : Nat) (k : SV → St → Prop) : evCall cxLn (ev cxLn (L + 60)) 18 [.one (.ref 0)] [some (.abs w 0 D)] k =
    (ev cxLn (L + 55) 1 18 (codeAt Try.prog 18 [1, 1, 0, 1, 0]) (frm 22 [(0, (.sa (.one (SC.ref 0)))), (3, (.sa (.one (iv .i64 (0))))), (6, (.sa (.one (iv .i64 (((List.length D.sh) : Nat) : Int))))), (7, (.sa (.one (iv .i64 (0)))))]) [(some (SO.abs w 0 D))] (kBlock 0 (kSeq (ev cxLn (L + 57) 1 18 (codeAt Try.prog 18 [1, 1, 1])) (kRet (Cx.P cxLn) [(ResultVar.tmp 2)] 1 k)))) := by kernel_rfl
theorem t_len0 (L : Nat) (k : SV → St → Prop) : evCall cxT0 (ev cxT0 (60)) 18 [.one (.raw (.pointer none))] [] k =
    (k (.sa (.one (iv .i64 (0)))) []) := by kernel_rfl
theorem t_newB (n : Int) (k : SV → St → Prop) : evCall cxT0 (ev cxT0 8) 6 [.one (.raw (.int .i64 n))] [] k =
    (branch (decide ((n < (1)))) (k (.tup [(.one (SC.raw (Value.pointer Option.none))), (.one (iv .i64 (2)))]) []) (branch (decide ((n > (64)))) (k (.tup [(.one (SC.raw (Value.pointer Option.none))), (.one (iv .i64 (2)))]) []) False)) := by kernel_rfl
theorem t_lenE (w : Bool) (D : TbD) (s n i : Int) (L : Nat) (k : SV → St → Prop) : ev cxLn (L + 57) 1 18 (codeAt Try.prog 18 [1, 1, 1]) (frm 22 [(0, .sa (.one (.ref 0))), (3, .sa (kint s)), (6, .sa (kint n)), (7, .sa (kint i)), (8, .sa (.one (bv false)))]) [some (.abs w 0 D)] (kRet Try.prog [(ResultVar.tmp 2)] 1 k) =
    (k (.sa (.one (iv .i64 s))) [(some (SO.abs w 0 D))]) := by kernel_rfl
theorem t_lenL (w : Bool) (D : TbD) (L : Nat) (s n i : Int) (k : Exit → Fr → St → Prop) : ev cxLn (L + 55) 1 18 (codeAt Try.prog 18 [1, 1, 0, 1, 0]) (frm 22 [(0, .sa (.one (.ref 0))), (3, .sa (kint s)), (6, .sa (kint n)), (7, .sa (kint i))]) [some (.abs w 0 D)] k =
    (Again (branch (decide ((i < n))) (here (Cx.P cxLn) 18 [1, 1, 0, 1, 0, 0, 1, 1, 0, 0, 1] (codeAt (Cx.P cxLn) 18 [1, 1, 0, 1, 0, 0, 1, 1, 0, 0, 1]) (need (decide (((0) ≤ i))) (need (decide ((i < (Spec.shT D)))) (ev cxLn (L + 54) 1 18 (codeAt Try.prog 18 [1, 1, 0, 1, 0]) (frm 22 [(0, (.sa (.one (SC.ref 0)))), (3, (.sa (.one (iv .i64 (addK .i64 s (Spec.cntV D i)))))), (6, (.sa (.one (iv .i64 n)))), (7, (.sa (.one (iv .i64 (addK .i64 i (1))))))]) [(some (SO.abs w 0 D))] k)))) (k (Exit.exit 0) (frm 22 [(0, (.sa (.one (SC.ref 0)))), (3, (.sa (.one (iv .i64 s)))), (6, (.sa (.one (iv .i64 n)))), (7, (.sa (.one (iv .i64 i)))), (8, (.sa (.one (bv false))))]) [(some (SO.abs w 0 D))]))) := by kernel_rfl
end Go.Ev
end
section
namespace Go.Ev
open Go Go.Proofs Go.Spec
attribute [local irreducible] ev evCall branch need again
theorem cxLn_ok : CxOk Try.prog cxLn := (mkCx_ok namesT mixedT (by
  intro y h
  simp only [List.mem_cons, List.not_mem_nil, or_false] at h
  rcases h with rfl
  exact shardsT_sum)).withHand (by
  intro y h
  simp only [List.mem_cons, List.not_mem_nil, or_false] at h
  rcases h with rfl
  exact hR1_ok)
theorem kBexit {n : Nat} {X : Fr → St → (Exit → Fr → St → Prop) → Prop} {K : Exit → Fr → St → Prop} {fr : Fr} {st : St} (h : X fr st K) : kBlock n (kSeq X K) (.exit n) fr st := by
  have e : Nat.beq n n = true := by simp
  show (match Nat.beq n n with | true => kSeq X K .normal fr st | false => kSeq X K (.exit n) fr st)
  rw [e]; exact h
theorem len_loop {w : Bool} {D : TbD} {k : SV → St → Prop} {M : Nat} (hb : D.sh.length ≤ 64) (hk : k (.sa (.one (.raw (.int .i64 (lenT D))))) [some (.abs w 0 D)]) :
    ∀ (rem i : Nat), i + rem = D.sh.length → ev cxLn (rem + 55) 1 18 (codeAt Try.prog 18 [1, 1, 0, 1, 0]) (frm 22 [(0, .sa (.one (.ref 0))), (3, .sa (kint (lenF D i))), (6, .sa (kint (D.sh.length : Int))), (7, .sa (kint (i : Int)))]) [some (.abs w 0 D)] (kBlock 0 (kSeq (ev cxLn (M + 57) 1 18 (codeAt Try.prog 18 [1, 1, 1])) (kRet Try.prog [(ResultVar.tmp 2)] 1 k))) := by
  intro rem
  induction rem with
  | zero =>
    intro i hi
    rw [show (0 : Nat) + 55 = 0 + 55 from rfl, t_lenL (L := 0)]
    refine ⟨brf (by omega) (kBexit ?_)⟩
    have : i = D.sh.length := by omega
    subst this
    exact Eq.mpr (t_lenE ..) hk
  | succ rem ih =>
    intro i hi
    rw [t_lenL (L := rem + 1)]
    refine ⟨brt (by omega) (hereI (ndd (by omega) (ndd (by show (i : Int) < (D.sh.length : Int); omega) ?_)))⟩
    have := ih (i + 1) (by omega)
    rw [show addK .i64 (i : Int) 1 = ((i + 1 : Nat) : Int) from by rw [add64 (by omega)]; rfl]
    exact this
theorem lenT_sum : SumOk Try.prog 18 sTLen := by
  refine fun args st => ⟨?_, fun k h α w vals hR hv => ?_⟩
  · unfold sTLen
    split
    · split
      · exact linRet
      · exact fun _ h => h.elim
    · split
      · exact linNeed linRet
      · exact fun _ h => h.elim
    · exact fun _ h => h.elim
  · unfold sTLen at h
    split at h
    · split at h
      · have hC : CallOk Try.prog (evCall cxT0 (ev cxT0 60)) := evCall_ok (run := ev cxT0 60) cxT0_ok (ev_sound cxT0_ok 60).1
        exact (hC.1 _ _ _ _ (by decide) (Eq.mpr (t_len0 (L := 0) ..) h)).2 α w vals hR hv
      · exact h.elim
    · split at h
      · rename_i D
        have hh := need_iff.1 h
        have hb : D.sh.length ≤ 64 := of_decide_eq_true hh.1
        have hC : CallOk Try.prog (evCall cxLn (ev cxLn (D.sh.length + 60))) := evCall_ok (run := ev cxLn (D.sh.length + 60)) cxLn_ok (ev_sound cxLn_ok _).1
        refine (hC.1 18 _ _ _ (by decide) (Eq.mpr (t_len (L := D.sh.length) ..) ?_)).2 α w vals hR hv
        exact len_loop (M := D.sh.length) hb hh.2 D.sh.length 0 (by omega)
      · exact h.elim
    · exact h.elim
end Go.Ev
end
section
namespace Go.Ev
open Go Go.Proofs Go.Spec
def refsN : Nat → Nat → List (List SC)
  | 0, _ => []
  | n + 1, i => [.ref i] :: refsN n (i + 1)
def mpsN : Nat → St
  | 0 => []
  | n + 1 => some (.mp true [] 0) :: mpsN n
def newSt (n : Nat) : St := some (.mem true .whole 62 1 (.lst [[.ref 1]])) :: some (.own true .row 58 1 (.lst (refsN n 2))) :: mpsN n
def newV : SV := .tup [.one (.ptr 0 0 0), .one (.raw (.int .i64 0))]
theorem nw1 (K : SV → St → Prop) : evCall cxT0 (ev cxT0 300) 6 [.one (.raw (.int .i64 1))] [] K = K newV (newSt 1) := by kernel_rfl
theorem nw2 (K : SV → St → Prop) : evCall cxT0 (ev cxT0 300) 6 [.one (.raw (.int .i64 2))] [] K = K newV (newSt 2) := by kernel_rfl
theorem nw3 (K : SV → St → Prop) : evCall cxT0 (ev cxT0 300) 6 [.one (.raw (.int .i64 3))] [] K = K newV (newSt 3) := by kernel_rfl
theorem nw4 (K : SV → St → Prop) : evCall cxT0 (ev cxT0 300) 6 [.one (.raw (.int .i64 4))] [] K = K newV (newSt 4) := by kernel_rfl
theorem nw5 (K : SV → St → Prop) : evCall cxT0 (ev cxT0 300) 6 [.one (.raw (.int .i64 5))] [] K = K newV (newSt 5) := by kernel_rfl
theorem nw6 (K : SV → St → Prop) : evCall cxT0 (ev cxT0 300) 6 [.one (.raw (.int .i64 6))] [] K = K newV (newSt 6) := by kernel_rfl
theorem nw7 (K : SV → St → Prop) : evCall cxT0 (ev cxT0 300) 6 [.one (.raw (.int .i64 7))] [] K = K newV (newSt 7) := by kernel_rfl
theorem nw8 (K : SV → St → Prop) : evCall cxT0 (ev cxT0 300) 6 [.one (.raw (.int .i64 8))] [] K = K newV (newSt 8) := by kernel_rfl
theorem nw9 (K : SV → St → Prop) : evCall cxT0 (ev cxT0 300) 6 [.one (.raw (.int .i64 9))] [] K = K newV (newSt 9) := by kernel_rfl
theorem nw10 (K : SV → St → Prop) : evCall cxT0 (ev cxT0 300) 6 [.one (.raw (.int .i64 10))] [] K = K newV (newSt 10) := by kernel_rfl
theorem nw11 (K : SV → St → Prop) : evCall cxT0 (ev cxT0 300) 6 [.one (.raw (.int .i64 11))] [] K = K newV (newSt 11) := by kernel_rfl
theorem nw12 (K : SV → St → Prop) : evCall cxT0 (ev cxT0 300) 6 [.one (.raw (.int .i64 12))] [] K = K newV (newSt 12) := by kernel_rfl
theorem nw13 (K : SV → St → Prop) : evCall cxT0 (ev cxT0 300) 6 [.one (.raw (.int .i64 13))] [] K = K newV (newSt 13) := by kernel_rfl
theorem nw14 (K : SV → St → Prop) : evCall cxT0 (ev cxT0 300) 6 [.one (.raw (.int .i64 14))] [] K = K newV (newSt 14) := by kernel_rfl
theorem nw15 (K : SV → St → Prop) : evCall cxT0 (ev cxT0 300) 6 [.one (.raw (.int .i64 15))] [] K = K newV (newSt 15) := by kernel_rfl
theorem nw16 (K : SV → St → Prop) : evCall cxT0 (ev cxT0 300) 6 [.one (.raw (.int .i64 16))] [] K = K newV (newSt 16) := by kernel_rfl
theorem nw17 (K : SV → St → Prop) : evCall cxT0 (ev cxT0 300) 6 [.one (.raw (.int .i64 17))] [] K = K newV (newSt 17) := by kernel_rfl
theorem nw18 (K : SV → St → Prop) : evCall cxT0 (ev cxT0 300) 6 [.one (.raw (.int .i64 18))] [] K = K newV (newSt 18) := by kernel_rfl
theorem nw19 (K : SV → St → Prop) : evCall cxT0 (ev cxT0 300) 6 [.one (.raw (.int .i64 19))] [] K = K newV (newSt 19) := by kernel_rfl
theorem nw20 (K : SV → St → Prop) : evCall cxT0 (ev cxT0 300) 6 [.one (.raw (.int .i64 20))] [] K = K newV (newSt 20) := by kernel_rfl
theorem nw21 (K : SV → St → Prop) : evCall cxT0 (ev cxT0 300) 6 [.one (.raw (.int .i64 21))] [] K = K newV (newSt 21) := by kernel_rfl
theorem nw22 (K : SV → St → Prop) : evCall cxT0 (ev cxT0 300) 6 [.one (.raw (.int .i64 22))] [] K = K newV (newSt 22) := by kernel_rfl
theorem nw23 (K : SV → St → Prop) : evCall cxT0 (ev cxT0 300) 6 [.one (.raw (.int .i64 23))] [] K = K newV (newSt 23) := by kernel_rfl
theorem nw24 (K : SV → St → Prop) : evCall cxT0 (ev cxT0 300) 6 [.one (.raw (.int .i64 24))] [] K = K newV (newSt 24) := by kernel_rfl
theorem nw25 (K : SV → St → Prop) : evCall cxT0 (ev cxT0 300) 6 [.one (.raw (.int .i64 25))] [] K = K newV (newSt 25) := by kernel_rfl
theorem nw26 (K : SV → St → Prop) : evCall cxT0 (ev cxT0 300) 6 [.one (.raw (.int .i64 26))] [] K = K newV (newSt 26) := by kernel_rfl
theorem nw27 (K : SV → St → Prop) : evCall cxT0 (ev cxT0 300) 6 [.one (.raw (.int .i64 27))] [] K = K newV (newSt 27) := by kernel_rfl
theorem nw28 (K : SV → St → Prop) : evCall cxT0 (ev cxT0 300) 6 [.one (.raw (.int .i64 28))] [] K = K newV (newSt 28) := by kernel_rfl
theorem nw29 (K : SV → St → Prop) : evCall cxT0 (ev cxT0 300) 6 [.one (.raw (.int .i64 29))] [] K = K newV (newSt 29) := by kernel_rfl
theorem nw30 (K : SV → St → Prop) : evCall cxT0 (ev cxT0 300) 6 [.one (.raw (.int .i64 30))] [] K = K newV (newSt 30) := by kernel_rfl
theorem nw31 (K : SV → St → Prop) : evCall cxT0 (ev cxT0 300) 6 [.one (.raw (.int .i64 31))] [] K = K newV (newSt 31) := by kernel_rfl
theorem nw32 (K : SV → St → Prop) : evCall cxT0 (ev cxT0 300) 6 [.one (.raw (.int .i64 32))] [] K = K newV (newSt 32) := by kernel_rfl
theorem nw33 (K : SV → St → Prop) : evCall cxT0 (ev cxT0 300) 6 [.one (.raw (.int .i64 33))] [] K = K newV (newSt 33) := by kernel_rfl
theorem nw34 (K : SV → St → Prop) : evCall cxT0 (ev cxT0 300) 6 [.one (.raw (.int .i64 34))] [] K = K newV (newSt 34) := by kernel_rfl
theorem nw35 (K : SV → St → Prop) : evCall cxT0 (ev cxT0 300) 6 [.one (.raw (.int .i64 35))] [] K = K newV (newSt 35) := by kernel_rfl
theorem nw36 (K : SV → St → Prop) : evCall cxT0 (ev cxT0 300) 6 [.one (.raw (.int .i64 36))] [] K = K newV (newSt 36) := by kernel_rfl
theorem nw37 (K : SV → St → Prop) : evCall cxT0 (ev cxT0 300) 6 [.one (.raw (.int .i64 37))] [] K = K newV (newSt 37) := by kernel_rfl
theorem nw38 (K : SV → St → Prop) : evCall cxT0 (ev cxT0 300) 6 [.one (.raw (.int .i64 38))] [] K = K newV (newSt 38) := by kernel_rfl
theorem nw39 (K : SV → St → Prop) : evCall cxT0 (ev cxT0 300) 6 [.one (.raw (.int .i64 39))] [] K = K newV (newSt 39) := by kernel_rfl
theorem nw40 (K : SV → St → Prop) : evCall cxT0 (ev cxT0 300) 6 [.one (.raw (.int .i64 40))] [] K = K newV (newSt 40) := by kernel_rfl
theorem nw41 (K : SV → St → Prop) : evCall cxT0 (ev cxT0 300) 6 [.one (.raw (.int .i64 41))] [] K = K newV (newSt 41) := by kernel_rfl
theorem nw42 (K : SV → St → Prop) : evCall cxT0 (ev cxT0 300) 6 [.one (.raw (.int .i64 42))] [] K = K newV (newSt 42) := by kernel_rfl
theorem nw43 (K : SV → St → Prop) : evCall cxT0 (ev cxT0 300) 6 [.one (.raw (.int .i64 43))] [] K = K newV (newSt 43) := by kernel_rfl
theorem nw44 (K : SV → St → Prop) : evCall cxT0 (ev cxT0 300) 6 [.one (.raw (.int .i64 44))] [] K = K newV (newSt 44) := by kernel_rfl
theorem nw45 (K : SV → St → Prop) : evCall cxT0 (ev cxT0 300) 6 [.one (.raw (.int .i64 45))] [] K = K newV (newSt 45) := by kernel_rfl
theorem nw46 (K : SV → St → Prop) : evCall cxT0 (ev cxT0 300) 6 [.one (.raw (.int .i64 46))] [] K = K newV (newSt 46) := by kernel_rfl
theorem nw47 (K : SV → St → Prop) : evCall cxT0 (ev cxT0 300) 6 [.one (.raw (.int .i64 47))] [] K = K newV (newSt 47) := by kernel_rfl
theorem nw48 (K : SV → St → Prop) : evCall cxT0 (ev cxT0 300) 6 [.one (.raw (.int .i64 48))] [] K = K newV (newSt 48) := by kernel_rfl
theorem nw49 (K : SV → St → Prop) : evCall cxT0 (ev cxT0 300) 6 [.one (.raw (.int .i64 49))] [] K = K newV (newSt 49) := by kernel_rfl
theorem nw50 (K : SV → St → Prop) : evCall cxT0 (ev cxT0 300) 6 [.one (.raw (.int .i64 50))] [] K = K newV (newSt 50) := by kernel_rfl
theorem nw51 (K : SV → St → Prop) : evCall cxT0 (ev cxT0 300) 6 [.one (.raw (.int .i64 51))] [] K = K newV (newSt 51) := by kernel_rfl
theorem nw52 (K : SV → St → Prop) : evCall cxT0 (ev cxT0 300) 6 [.one (.raw (.int .i64 52))] [] K = K newV (newSt 52) := by kernel_rfl
theorem nw53 (K : SV → St → Prop) : evCall cxT0 (ev cxT0 300) 6 [.one (.raw (.int .i64 53))] [] K = K newV (newSt 53) := by kernel_rfl
theorem nw54 (K : SV → St → Prop) : evCall cxT0 (ev cxT0 300) 6 [.one (.raw (.int .i64 54))] [] K = K newV (newSt 54) := by kernel_rfl
theorem nw55 (K : SV → St → Prop) : evCall cxT0 (ev cxT0 300) 6 [.one (.raw (.int .i64 55))] [] K = K newV (newSt 55) := by kernel_rfl
theorem nw56 (K : SV → St → Prop) : evCall cxT0 (ev cxT0 300) 6 [.one (.raw (.int .i64 56))] [] K = K newV (newSt 56) := by kernel_rfl
theorem nw57 (K : SV → St → Prop) : evCall cxT0 (ev cxT0 300) 6 [.one (.raw (.int .i64 57))] [] K = K newV (newSt 57) := by kernel_rfl
theorem nw58 (K : SV → St → Prop) : evCall cxT0 (ev cxT0 300) 6 [.one (.raw (.int .i64 58))] [] K = K newV (newSt 58) := by kernel_rfl
theorem nw59 (K : SV → St → Prop) : evCall cxT0 (ev cxT0 300) 6 [.one (.raw (.int .i64 59))] [] K = K newV (newSt 59) := by kernel_rfl
theorem nw60 (K : SV → St → Prop) : evCall cxT0 (ev cxT0 300) 6 [.one (.raw (.int .i64 60))] [] K = K newV (newSt 60) := by kernel_rfl
theorem nw61 (K : SV → St → Prop) : evCall cxT0 (ev cxT0 300) 6 [.one (.raw (.int .i64 61))] [] K = K newV (newSt 61) := by kernel_rfl
theorem nw62 (K : SV → St → Prop) : evCall cxT0 (ev cxT0 300) 6 [.one (.raw (.int .i64 62))] [] K = K newV (newSt 62) := by kernel_rfl
theorem nw63 (K : SV → St → Prop) : evCall cxT0 (ev cxT0 300) 6 [.one (.raw (.int .i64 63))] [] K = K newV (newSt 63) := by kernel_rfl
theorem nw64 (K : SV → St → Prop) : evCall cxT0 (ev cxT0 300) 6 [.one (.raw (.int .i64 64))] [] K = K newV (newSt 64) := by kernel_rfl
theorem nwN : ∀ n : Nat, 1 ≤ n → n ≤ 64 → ∀ K : SV → St → Prop, evCall cxT0 (ev cxT0 300) 6 [.one (.raw (.int .i64 (n : Int)))] [] K = K newV (newSt n)
  | 0, h, _, _ => by omega
  | 1, _, _, K => nw1 K
  | 2, _, _, K => nw2 K
  | 3, _, _, K => nw3 K
  | 4, _, _, K => nw4 K
  | 5, _, _, K => nw5 K
  | 6, _, _, K => nw6 K
  | 7, _, _, K => nw7 K
  | 8, _, _, K => nw8 K
  | 9, _, _, K => nw9 K
  | 10, _, _, K => nw10 K
  | 11, _, _, K => nw11 K
  | 12, _, _, K => nw12 K
  | 13, _, _, K => nw13 K
  | 14, _, _, K => nw14 K
  | 15, _, _, K => nw15 K
  | 16, _, _, K => nw16 K
  | 17, _, _, K => nw17 K
  | 18, _, _, K => nw18 K
  | 19, _, _, K => nw19 K
  | 20, _, _, K => nw20 K
  | 21, _, _, K => nw21 K
  | 22, _, _, K => nw22 K
  | 23, _, _, K => nw23 K
  | 24, _, _, K => nw24 K
  | 25, _, _, K => nw25 K
  | 26, _, _, K => nw26 K
  | 27, _, _, K => nw27 K
  | 28, _, _, K => nw28 K
  | 29, _, _, K => nw29 K
  | 30, _, _, K => nw30 K
  | 31, _, _, K => nw31 K
  | 32, _, _, K => nw32 K
  | 33, _, _, K => nw33 K
  | 34, _, _, K => nw34 K
  | 35, _, _, K => nw35 K
  | 36, _, _, K => nw36 K
  | 37, _, _, K => nw37 K
  | 38, _, _, K => nw38 K
  | 39, _, _, K => nw39 K
  | 40, _, _, K => nw40 K
  | 41, _, _, K => nw41 K
  | 42, _, _, K => nw42 K
  | 43, _, _, K => nw43 K
  | 44, _, _, K => nw44 K
  | 45, _, _, K => nw45 K
  | 46, _, _, K => nw46 K
  | 47, _, _, K => nw47 K
  | 48, _, _, K => nw48 K
  | 49, _, _, K => nw49 K
  | 50, _, _, K => nw50 K
  | 51, _, _, K => nw51 K
  | 52, _, _, K => nw52 K
  | 53, _, _, K => nw53 K
  | 54, _, _, K => nw54 K
  | 55, _, _, K => nw55 K
  | 56, _, _, K => nw56 K
  | 57, _, _, K => nw57 K
  | 58, _, _, K => nw58 K
  | 59, _, _, K => nw59 K
  | 60, _, _, K => nw60 K
  | 61, _, _, K => nw61 K
  | 62, _, _, K => nw62 K
  | 63, _, _, K => nw63 K
  | 64, _, _, K => nw64 K
  | n + 65, _, h, _ => by omega
end Go.Ev
end
section
namespace Go.Spec
open Go Go.Ev
def emptyT (n : Int) : TbD := ⟨List.replicate n.toNat []⟩
end Go.Spec
namespace Go.Ev
open Go Go.Proofs Go.Spec
def sTNew : SumT := fun args st k => match args with
  | [.one (.raw (.int .i64 n))] => (match st with
    | [] => branch (decide (n < 1)) (k (.tup [.one (.raw (.pointer none)), .one (.raw (.int .i64 2))]) []) (branch (decide (64 < n)) (k (.tup [.one (.raw (.pointer none)), .one (.raw (.int .i64 2))]) []) (k (.tup [.one (.ref 0), .one (.raw (.int .i64 0))]) [some (.abs true 0 (emptyT n))]))
    | _ => False)
  | _ => False
end Go.Ev
end
section
namespace Go.Ev
open Go Go.Proofs Go.Spec
attribute [local irreducible] ev evCall branch need again
theorem refsN_get : ∀ {n i j : Nat}, j < n → (refsN n i)[j]? = some [.ref (i + j)]
  | n + 1, i, 0, _ => by simp [refsN]
  | n + 1, i, j + 1, h => by
    simp only [refsN, List.getElem?_cons_succ]
    rw [refsN_get (by omega), show i + 1 + j = i + (j + 1) from by omega]
theorem refsN_len : ∀ {n i : Nat}, (refsN n i).length = n
  | 0, _ => rfl
  | n + 1, i => by simp [refsN, refsN_len]
theorem mpsN_get : ∀ {n j : Nat}, j < n → St.get (mpsN n) j = some (.mp true [] 0)
  | n + 1, 0, _ => rfl
  | n + 1, j + 1, h => by
    have := mpsN_get (n := n) (j := j) (by omega)
    simp only [St.get_eq] at this ⊢
    simpa [mpsN] using this
theorem newSt_get {n j : Nat} (h : j < n) : (newSt n).get (j + 2) = some (.mp true [] 0) := by
  have := mpsN_get h
  simp only [St.get_eq] at this ⊢
  simpa [newSt] using this
theorem new_join {α' : Al} {w w' : World} {n : Nat} (hn : 1 ≤ n) (hto : To (fun _ => none) [] w α' (newSt n) w') :
    ∃ b0 : Nat × Nat, α' 0 = some ⟨b0.1, b0.2, 1, 1, (α' 0).elim undef (·.val), (α' 0).elim true (·.live)⟩ ∧ To (fun _ => none) [] w (fun o => if o = 0 then some (tbDen b0) else none) [some (.abs true 0 (emptyT (n : Int)))] w' := by
  obtain ⟨d0, hd0, g1, g2, cs, fz, g3, g4, g5, g6, g7, g8⟩ := hto.rep.good 0 _ rfl
  obtain ⟨d1, hd1, k1, k2, k3⟩ := hto.rep.good 1 _ rfl
  have hlen : (refsN n 2).length = n := refsN_len
  have k3 := k3.resolve_left fun h => by have := h.2.1; simp only [Ct.len, hlen] at this; omega
  obtain ⟨k3, k4, k5, cs1, fz1, k6, k7, k8, k9⟩ := k3
  have hmp : ∀ j, j < n → ∃ d, α' (j + 2) = some d ∧ d.val = .map (some d.blk) ∧ w'.heap[d.blk]? = some (.map #[] 0) := fun j hj => by
    obtain ⟨d, h1, h2, xs, h3, h4⟩ := hto.rep.good (j + 2) _ (newSt_get hj)
    have : xs = [] := by cases xs with | nil => rfl | cons _ _ => exact h4.elim
    subst this
    exact ⟨d, h1, h2, h3⟩
  let bs : List Nat := (List.range n).map fun j => (α' (j + 2)).elim 0 (·.blk)
  have hbs : ∀ j b, bs[j]? = some b → j < n ∧ ∃ d, α' (j + 2) = some d ∧ d.blk = b ∧ d.val = .map (some b) ∧ w'.heap[b]? = some (.map #[] 0) := fun j b h => by
    have hj : j < n := by have := (List.getElem?_eq_some_iff.1 h).1; simpa [bs] using this
    obtain ⟨d, h1, h2, h3⟩ := hmp j hj
    have : b = d.blk := by simp [bs, List.getElem?_range hj, h1] at h; exact h.symm
    subst this
    exact ⟨hj, d, h1, rfl, h2, h3⟩
  have hcap : d0.cap = 1 := (g7 rfl).symm
  have hfz : fz = (0, 0) := g4.2.resolve_right fun h => by cases h.1
  subst hfz
  have hoff : cs.size = d0.off + 1 := by rw [hcap] at g5; omega
  have hcell0 : cs[d0.off]? = some d1.val := by
    obtain ⟨_, q⟩ := g8 0 (by simp [Ct.len])
    obtain ⟨v, v1, v2, _⟩ := q 0 (.ref 1) rfl
    simp only [CellOk, SC.val?, hd1, Option.some.injEq] at v1
    rw [v1]; simpa using v2
  have hsepA : ∀ o o' so so' d d', o ≠ o' → (newSt n).get o = some so → (newSt n).get o' = some so' → α' o = some d → α' o' = some d' → so.wr = true → so.lies w' d d.blk → so'.lies w' d' d'.blk → d.blk ≠ d'.blk := fun o o' so so' d d' hne h1 h2 h3 h4 h5 h6 h7 e => hto.rep.sep o o' so so' d d' d.blk hne h1 h2 h3 h4 h5 h6 (.inl (by rw [e]; exact h7))
  have n01 : d0.blk ≠ d1.blk := hsepA 0 1 _ _ d0 d1 (by omega) rfl rfl hd0 hd1 rfl rfl ⟨k3, rfl⟩
  have n0 : ∀ j b, bs[j]? = some b → d0.blk ≠ b := fun j b h => by
    obtain ⟨hj, d, h1, rfl, _⟩ := hbs j b h
    exact hsepA 0 (j + 2) _ _ d0 d (by omega) rfl (newSt_get hj) hd0 h1 rfl rfl rfl
  have n1 : ∀ j b, bs[j]? = some b → d1.blk ≠ b := fun j b h => by
    obtain ⟨hj, d, h1, rfl, _⟩ := hbs j b h
    exact hsepA 1 (j + 2) _ _ d1 d (by omega) rfl (newSt_get hj) hd1 h1 rfl ⟨k3, rfl⟩ rfl
  have n2 : ∀ j j' b, bs[j]? = some b → bs[j']? = some b → j = j' := fun j j' b h h' => by
    obtain ⟨hj, d, h1, e1, _⟩ := hbs j b h
    obtain ⟨hj', d', h1', e1', _⟩ := hbs j' b h'
    refine Decidable.byContradiction fun hne => ?_
    exact hsepA (j + 2) (j' + 2) _ _ d d' (by omega) (newSt_get hj) (newSt_get hj') h1 h1' rfl rfl rfl (e1.trans e1'.symm)
  have hbl : bs.length = n := by simp [bs]
  have hok : TbOk (emptyT (n : Int)) w' (d0.blk, d0.off) d1.blk d1.off d1.cap bs (List.replicate n ([], 0)) := by
    refine ⟨⟨⟨cs, g3, hoff, g4.1, ?_⟩, ⟨cs1, fz1, k6, ⟨k7.1, k7.2.imp id (·.2)⟩, by omega, ?_, fun j b h => ?_⟩, by simp [hbl], fun j b m h1 h2 => ?_⟩, by simp [emptyT, hbl], by omega, fun m hm => ?_, fun j m es h1 h2 => ?_, ?_⟩
    · rw [hcell0, k4]; simp only [Ct.len, hlen, hbl]
    · simp only [Ct.len, hlen] at k5; omega
    · obtain ⟨hj, d, h1, rfl, h3, _⟩ := hbs j b h
      obtain ⟨_, q⟩ := k9 j (by simp only [Ct.len, hlen]; exact hj)
      have hget : (Ct.lst (refsN n 2)).get j = [.ref (2 + j)] := by simp only [Ct.get, getL_eq, refsN_get hj, Option.getD_some]
      rw [hget] at q
      obtain ⟨v, v1, v2, _⟩ := q 0 (.ref (2 + j)) rfl
      rw [show 2 + j = j + 2 from by omega] at v1
      simp only [CellOk, SC.val?, h1, Option.some.injEq] at v1
      rw [← h3, v1]; simpa using v2
    · obtain ⟨hj, d, _, _, _, h4⟩ := hbs j b h1
      have : m = ([], 0) := by
        have := List.mem_of_getElem? h2
        exact List.eq_of_mem_replicate this
      subst this; exact h4
    · obtain rfl := List.eq_of_mem_replicate hm
      exact ⟨by simp, List.Pairwise.nil, by simp, by simp⟩
    · have e1 : m = ([], 0) := List.eq_of_mem_replicate (List.mem_of_getElem? h1)
      have e2 : es = [] := by simp only [emptyT] at h2; exact List.eq_of_mem_replicate (List.mem_of_getElem? h2)
      subst e1; subst e2; exact .refl _
    · simp only [tbBlks, List.nodup_cons, List.mem_cons, not_or]
      refine ⟨⟨n01, fun h => ?_⟩, fun h => ?_, ?_⟩
      · obtain ⟨j, hj, e⟩ := List.getElem_of_mem h
        exact n0 j _ (List.getElem?_eq_getElem hj) e.symm
      · obtain ⟨j, hj, e⟩ := List.getElem_of_mem h
        exact n1 j _ (List.getElem?_eq_getElem hj) e.symm
      · refine List.pairwise_iff_getElem.2 fun i j hi hj hij e => ?_
        have := n2 i j _ (List.getElem?_eq_getElem hi) (by rw [e]; exact List.getElem?_eq_getElem hj)
        omega
  have hnew : ∀ b, b ∈ tbBlks (d0.blk, d0.off) d1.blk bs → w.heap.size ≤ b := fun b hb => by
    refine Decidable.byContradiction fun hlt => ?_
    have key : ∀ o so d, (newSt n).get o = some so → α' o = some d → so.lies w' d b → False := fun o so d h1 h2 h3 => by
      rcases hto.lies o so d b h1 h2 (by omega) h3 with ⟨q, s, e, x1, _⟩ | ⟨x1, _⟩
      · cases q <;> simp [St.get_eq] at x1
      · simp at x1
    simp only [tbBlks, List.mem_cons] at hb
    rcases hb with rfl | rfl | hb
    · exact key 0 _ d0 rfl hd0 rfl
    · exact key 1 _ d1 rfl hd1 ⟨k3, rfl⟩
    · obtain ⟨j, hj, e⟩ := List.getElem_of_mem hb
      obtain ⟨hj', d, h1, rfl, _⟩ := hbs j b (by rw [← e]; exact List.getElem?_eq_getElem hj)
      exact key (j + 2) _ d (newSt_get hj') h1 rfl
  have hll : ∀ b, (SO.abs true 0 (emptyT (n : Int))).lies w' (tbDen (d0.blk, d0.off)) b → w.heap.size ≤ b := fun b hb => hnew b ((absLies_iff (D := emptyT (n : Int)) rfl hok.hp).1 hb)
  have hkept : ∀ b, b < w.heap.size → w'.heap[b]? = w.heap[b]? := fun b hb => hto.kept b hb (by rintro ⟨q, s, e, x1, _⟩; cases q <;> simp [St.get_eq] at x1)
  refine ⟨(d0.blk, d0.off), by rw [hd0]; obtain ⟨_, _, _, _, _, _⟩ := d0; simp only [Option.elim, Option.some.injEq, Den.mk.injEq] at *; exact ⟨trivial, trivial, g1, hcap, trivial, trivial⟩, ⟨fun o so h => ?_, fun o o' so so' dd dd' b hne h h' _ _ _ _ _ => ?_, fun o so dd b h _ _ _ hi => ?_, fun o ho => ?_, fun o dd h => ?_⟩, fun o ho => by simp at ho, by simp, fun o so dd b h h2 hb hl => ?_, fun o so dd b h _ _ hi => ?_, fun b hb hw => ?_, fun b hb _ => hkept b hb, hto.size, hto.tape, hto.os, hto.output⟩
  · obtain ⟨rfl, rfl⟩ := get1 h
    exact ⟨_, rfl, (d0.blk, d0.off), _, _, _, _, _, rfl, hok⟩
  · obtain ⟨rfl, rfl⟩ := get1 h
    obtain ⟨rfl, rfl⟩ := get1 h'
    exact absurd rfl hne
  · obtain ⟨rfl, rfl⟩ := get1 h
    exact hi
  · simp only [List.length_cons, List.length_nil] at ho
    rw [if_neg (by omega)]
  · split at h
    · cases h; rfl
    · cases h
  · obtain ⟨rfl, rfl⟩ := get1 h
    cases h2
    have := hll b hl; omega
  · obtain ⟨rfl, rfl⟩ := get1 h
    exact hi.elim
  · obtain ⟨o, so, dd, h, h2, _, h4⟩ := hw
    obtain ⟨rfl, rfl⟩ := get1 h
    cases h2
    have := hll b h4; omega
theorem newT_sum : SumOk Try.prog 6 sTNew := by
  refine fun args st => ⟨?_, fun k h α w vals hR hv => ?_⟩
  · intro k h
    unfold sTNew at h ⊢
    split at h
    · split at h
      · rcases branch_or h with ⟨e, h⟩ | ⟨e, h⟩
        · exact ⟨_, _, h, fun k2 hk => branch_iff.2 (.inl ⟨e, hk⟩)⟩
        · rcases branch_or h with ⟨e2, h⟩ | ⟨e2, h⟩
          · exact ⟨_, _, h, fun k2 hk => branch_iff.2 (.inr ⟨e, branch_iff.2 (.inl ⟨e2, hk⟩)⟩)⟩
          · exact ⟨_, _, h, fun k2 hk => branch_iff.2 (.inr ⟨e, branch_iff.2 (.inr ⟨e2, hk⟩)⟩)⟩
      · exact h.elim
    · exact h.elim
  · unfold sTNew at h
    split at h
    · split at h
      · rename_i n _
        by_cases hn : n < 1 ∨ 64 < n
        · have hC : CallOk Try.prog (evCall cxT0 (ev cxT0 8)) := evCall_ok (run := ev cxT0 8) cxT0_ok (ev_sound cxT0_ok 8).1
          refine (hC.1 6 _ _ _ (by decide) (Eq.mpr (t_newB ..) ?_)).2 α w vals hR hv
          rcases branch_or h with ⟨e, h⟩ | ⟨e, h⟩
          · exact brt (of_decide_eq_true e) h
          · refine brf (of_decide_eq_false e) ?_
            rcases branch_or h with ⟨e2, h⟩ | ⟨e2, h⟩
            · exact brt (of_decide_eq_true e2) h
            · have := of_decide_eq_false e; have := of_decide_eq_false e2; omega
        · have hα : α = fun _ => none := funext fun o => hR.none o (by simp)
          subst hα
          have h : k (.tup [.one (.ref 0), .one (.raw (.int .i64 0))]) [some (.abs true 0 (emptyT n))] := by
            rcases branch_or h with ⟨e, h⟩ | ⟨e, h⟩
            · have := of_decide_eq_true e; omega
            · rcases branch_or h with ⟨e2, h⟩ | ⟨e2, h⟩
              · have := of_decide_eq_true e2; omega
              · exact h
          obtain ⟨m, rfl⟩ : ∃ m : Nat, n = (m : Int) := ⟨n.toNat, by omega⟩
          have hC : CallOk Try.prog (evCall cxT0 (ev cxT0 300)) := evCall_ok (run := ev cxT0 300) cxT0_ok (ev_sound cxT0_ok 300).1
          refine ((hC.1 6 _ _ _ (by decide) (Eq.mpr (nwN m (by omega) (by omega) (fun v st => v = newV ∧ st = newSt m)) ⟨rfl, rfl⟩)).2 _ w vals hR hv).mono fun e w' ⟨v, st', α', val, he, hvv, ⟨h1, h2⟩, hto⟩ => ?_
          subst h1; subst h2
          obtain ⟨b0, hb0, hj⟩ := new_join (by omega) hto
          obtain ⟨us, u1, rfl⟩ := hvv
          match us, u1 with
          | [a, b], ⟨ha, hb, _⟩ =>
            refine ⟨.tup [.one (.ref 0), .one (.raw (.int .i64 0))], _, (fun o => if o = 0 then some (tbDen b0) else none), _, he, ⟨[a, b], ⟨?_, hb, trivial⟩, rfl⟩, h, hj⟩
            simp only [SA.rep, SC.val?] at ha ⊢
            rw [hb0] at ha
            simp only [Option.some.injEq] at ha
            rw [← ha]; rfl
      · exact h.elim
    · exact h.elim
end Go.Ev
end
section
namespace Go.Spec
open Go Go.Ev
abbrev Es := List (Kx × Int)
def eP (es : Es) : List Int := es.map (·.1.1)
def eF (es : Es) : List Int := es.map (·.1.2.1)
def eG (es : Es) : List Int := es.map (·.1.2.2)
def eV (es : Es) : List Int := es.map (·.2)
def lenE (es : Es) : Nat := es.length
def atE (c0 c1 c2 c3 : List Int) (i : Nat) : Kx × Int := ((c0.getD i 0, c1.getD i 0, c2.getD i 0), c3.getD i 0)
def toE (m : Nat) (c0 c1 c2 c3 : List Int) : Es := (List.range m).map (atE c0 c1 c2 c3)
def colsOk (m : Nat) (c0 c1 c2 c3 : List Int) : Bool := decide (c0.length = m) && (decide (c1.length = m) && (decide (c2.length = m) && decide (c3.length = m)))
def byN (n : Int) : Bool := decide (1 ≤ n) && decide (n ≤ 64)
def shR (n p f g : Int) : Int := IntKind.wrap .i64 (remK (quoK .u64 (remK (addK .u64 (addK .u64 (mulK .u64 (IntKind.wrap .u64 p) (2654435761)) (mulK .u64 (IntKind.wrap .u64 f) (65599))) (mulK .u64 (IntKind.wrap .u64 g) (31))) (4294967296)) (65536)) (IntKind.wrap .u64 n))
def findFrom (k : Kx) : Es → Int → Int
  | [], _ => -1
  | e :: r, i => if e.1 = k then i else findFrom k r (i + 1)
def findE (es : Es) (p f g : Int) : Int := findFrom (p, f, g) es 0
def foundE (es : Es) (p f g : Int) : Bool := es.any fun e => decide (e.1 = (p, f, g))
def dropE (es : Es) (p f g : Int) : Es := es.eraseP fun e => decide (e.1 = (p, f, g))
def putE (es : Es) (p f g v : Int) : Es := dropE es p f g ++ [((p, f, g), v)]
def cntE (es : Es) (n s : Int) : Int := ((es.countP fun e => decide (shR n e.1.1 e.1.2.1 e.1.2.2 = s) : Nat) : Int)
def aheadE (n : Int) (a b : Kx) : Bool :=
  if shR n a.1 a.2.1 a.2.2 ≠ shR n b.1 b.2.1 b.2.2 then decide (shR n a.1 a.2.1 a.2.2 < shR n b.1 b.2.1 b.2.2)
  else if a.1 ≠ b.1 then decide (a.1 < b.1) else if a.2.1 ≠ b.2.1 then decide (a.2.1 < b.2.1) else decide (a.2.2 < b.2.2)
def aheadB (n p f g p2 f2 g2 : Int) : Bool := aheadE n (p, f, g) (p2, f2, g2)
def insBy (lt : Kx → Bool) (x : Kx × Int) : Es → Es
  | [] => [x]
  | y :: r => match lt y.1 with
    | true => y :: insBy lt x r
    | false => x :: y :: r
def insE (n : Int) (x : Kx × Int) (l : Es) : Es := insBy (fun k => aheadE n k x.1) x l
def eachE (n : Int) (es : Es) : Es := es.foldl (fun out x => insE n x out) []
end Go.Spec
namespace Go.Ev
open Go Go.Proofs Go.Spec
def rTw (w : Bool) (n : Int) (o : Nat) : Option SO := some (.mem w .whole 31 2 (.lst [[iv .i64 n, .ref o]]))
def rowCw (w : Bool) (m : Nat) (c0 c1 c2 c3 : List Int) : Option SO := some (.own w .row 47 4 (.tab m [.ints .u32 c0, .ints .u16 c1, .ints .u16 c2, .ints .i64 c3]))
def rT (n : Int) (o : Nat) : Option SO := some (.mem true .whole 31 2 (.lst [[iv .i64 n, .ref o]]))
def rowE (es : Es) : Option SO := some (.own true .row 47 4 (.tab (lenE es) [.ints .u32 (eP es), .ints .u16 (eF es), .ints .u16 (eG es), .ints .i64 (eV es)]))
def rowC (m : Nat) (c0 c1 c2 c3 : List Int) : Option SO := some (.own true .row 47 4 (.tab m [.ints .u32 c0, .ints .u16 c1, .ints .u16 c2, .ints .i64 c3]))
def sRShard : SumT := fun args st k => match args with
  | [.one (.ptr 0 0 0), .agg [.raw (.int .u32 p), .raw (.int .u16 f), .raw (.int .u16 g)]] => (match st with
    | [some (.mem w .whole T 2 (.lst [[.raw (.int .i64 n), .ref 1]])), some (.own w2 .row T2 4 (.tab m [.ints .u32 c0, .ints .u16 c1, .ints .u16 c2, .ints .i64 c3]))] =>
      need (decide (T = 31 ∧ T2 = 47)) (need (byN n) (k (.sa (.one (iv .i64 (shR n p f g)))) [rTw w n 1, rowCw w2 m c0 c1 c2 c3]))
    | _ => False)
  | _ => False
noncomputable def cxD0 : Cx := mkCx Try.prog [(19, sRShard)] [] []
def sRAhead : SumT := fun args st k => match args with
  | [.one (.ptr 0 0 0), .agg [.raw (.int .u32 p), .raw (.int .u16 f), .raw (.int .u16 g)], .agg [.raw (.int .u32 p2), .raw (.int .u16 f2), .raw (.int .u16 g2)]] => (match st with
    | [some (.mem w .whole T 2 (.lst [[.raw (.int .i64 n), .ref 1]])), some (.own w2 .row T2 4 (.tab m [.ints .u32 c0, .ints .u16 c1, .ints .u16 c2, .ints .i64 c3]))] =>
      need (decide (T = 31 ∧ T2 = 47)) (need (byN n) (k (.sa (.one (bv (aheadB n p f g p2 f2 g2)))) [rTw w n 1, rowCw w2 m c0 c1 c2 c3]))
    | _ => False)
  | _ => False
noncomputable def cxD1 : Cx := mkCx Try.prog [(19, sRShard), (22, sRAhead)] [(12, 2, [0, 3, 5], []), (21, 3, [0, 1, 5, 6], []), (15, 3, [0, 3, 4], [⟨3, [], 29⟩]), (15, 6, [0, 3, 4, 5], []), (15, 1000008, [0, 3, 4, 5], [])] []
def sRFind : SumT := fun args st k => match args with
  | [.one (.ptr 0 0 0), .agg [.raw (.int .u32 p), .raw (.int .u16 f), .raw (.int .u16 g)]] => (match st with
    | [some (.mem w .whole T 2 (.lst [[.raw (.int .i64 n), .ref 1]])), some (.own w2 .row T2 4 (.tab m [.ints .u32 c0, .ints .u16 c1, .ints .u16 c2, .ints .i64 c3]))] =>
      need (decide (T = 31 ∧ T2 = 47)) (need (decide (m ≤ 1000)) (k (.sa (.one (iv .i64 (findE (toE m c0 c1 c2 c3) p f g)))) [rTw w n 1, rowCw w2 m c0 c1 c2 c3]))
    | _ => False)
  | _ => False
def sRCount : SumT := fun args st k => match args with
  | [.one (.ptr 0 0 0), .one (.raw (.int .i64 s))] => (match st with
    | [some (.mem w .whole T 2 (.lst [[.raw (.int .i64 n), .ref 1]])), some (.own w2 .row T2 4 (.tab m [.ints .u32 c0, .ints .u16 c1, .ints .u16 c2, .ints .i64 c3]))] =>
      need (decide (T = 31 ∧ T2 = 47)) (need (byN n) (need (decide (m ≤ 1000)) (k (.sa (.one (iv .i64 (cntE (toE m c0 c1 c2 c3) n s)))) [rTw w n 1, rowCw w2 m c0 c1 c2 c3])))
    | _ => False)
  | _ => False
noncomputable def cxD2 : Cx := mkCx Try.prog [(12, sRFind)] [(14, 1000005, [0], [⟨0, [1], 29⟩])] []
def sRDrop : SumT := fun args st k => match args with
  | [.one (.ptr 0 0 0), .agg [.raw (.int .u32 p), .raw (.int .u16 f), .raw (.int .u16 g)]] => (match st with
    | [some (.mem true .whole T 2 (.lst [[.raw (.int .i64 n), .ref 1]])), some (.own true .row T2 4 (.tab m [.ints .u32 c0, .ints .u16 c1, .ints .u16 c2, .ints .i64 c3]))] =>
      need (decide (T = 31 ∧ T2 = 47)) (need (colsOk m c0 c1 c2 c3) (need (decide (m ≤ 1000)) (branch (foundE (toE m c0 c1 c2 c3) p f g)
        (k (.sa (.one (bv true))) [rT n 2, rowC m c0 c1 c2 c3, rowE (dropE (toE m c0 c1 c2 c3) p f g)]) (k (.sa (.one (bv false))) [rT n 1, rowC m c0 c1 c2 c3]))))
    | _ => False)
  | _ => False
def sRPut : SumT := fun args st k => match args with
  | [.one (.ptr 0 0 0), .agg [.raw (.int .u32 p), .raw (.int .u16 f), .raw (.int .u16 g)], .one (.raw (.int .i64 v))] => (match st with
    | [some (.mem true .whole T 2 (.lst [[.raw (.int .i64 n), .ref 1]])), some (.own true .row T2 4 (.tab m [.ints .u32 c0, .ints .u16 c1, .ints .u16 c2, .ints .i64 c3]))] =>
      need (decide (T = 31 ∧ T2 = 47)) (need (colsOk m c0 c1 c2 c3) (need (decide (m ≤ 1000)) (branch (foundE (toE m c0 c1 c2 c3) p f g)
        (k (.tup []) [rT n 2, rowC m c0 c1 c2 c3, rowE (putE (toE m c0 c1 c2 c3) p f g v)]) (k (.tup []) [rT n 2, none, rowE (putE (toE m c0 c1 c2 c3) p f g v)]))))
    | _ => False)
  | _ => False
def sREach : SumT := fun args st k => match args with
  | [.one (.ptr 0 0 0)] => (match st with
    | [some (.mem w .whole T 2 (.lst [[.raw (.int .i64 n), .ref 1]])), some (.own w2 .row T2 4 (.tab m [.ints .u32 c0, .ints .u16 c1, .ints .u16 c2, .ints .i64 c3]))] =>
      need (decide (T = 31 ∧ T2 = 47)) (need (colsOk m c0 c1 c2 c3) (need (byN n) (need (decide (m ≤ 1000)) (k (.sa (.one (.ref 2))) [rTw w n 1, rowCw w2 m c0 c1 c2 c3, rowE (eachE n (toE m c0 c1 c2 c3))]))))
    | _ => False)
  | _ => False
noncomputable def cxD3 : Cx := mkCx Try.prog [(14, sRDrop)] [] []
end Go.Ev
end
section
namespace Go.Spec
open Go Go.Ev
section
variable {m : Nat} {c0 c1 c2 c3 : List Int} {es : Es}
theorem toE_len : (toE m c0 c1 c2 c3).length = m := by simp [toE]
theorem toE_get {i : Nat} (h : i < m) : (toE m c0 c1 c2 c3)[i]? = some (atE c0 c1 c2 c3 i) := by
  simp [toE, List.getElem?_range h]
theorem eP_getD {i : Nat} {e : Kx × Int} (h : es[i]? = some e) : (eP es).getD i 0 = e.1.1 ∧ (eF es).getD i 0 = e.1.2.1 ∧ (eG es).getD i 0 = e.1.2.2 ∧ (eV es).getD i 0 = e.2 := by
  simp [eP, eF, eG, eV, List.getD_eq_getElem?_getD, h]
theorem toE_same : toE (lenE es) (eP es) (eF es) (eG es) (eV es) = es := by
  refine List.ext_getElem? fun i => ?_
  by_cases h : i < es.length
  · rw [toE_get (m := lenE es) h, List.getElem?_eq_getElem h]
    obtain ⟨h0, h1, h2, h3⟩ := eP_getD (List.getElem?_eq_getElem h)
    unfold atE
    rw [h0, h1, h2, h3]
  · rw [List.getElem?_eq_none (by rw [toE_len]; simpa [lenE] using h), List.getElem?_eq_none (by omega)]
theorem colsOk_es : colsOk (lenE es) (eP es) (eF es) (eG es) (eV es) = true := by
  simp [colsOk, lenE, eP, eF, eG, eV]
theorem colsOk_ex (h : colsOk m c0 c1 c2 c3 = true) : ∃ es : Es, m = lenE es ∧ c0 = eP es ∧ c1 = eF es ∧ c2 = eG es ∧ c3 = eV es := by
  simp only [colsOk, Bool.and_eq_true, decide_eq_true_eq] at h
  obtain ⟨h0, h1, h2, h3⟩ := h
  refine ⟨toE m c0 c1 c2 c3, toE_len.symm, ?_, ?_, ?_, ?_⟩
  all_goals
    refine List.ext_getElem? fun i => ?_
    by_cases h : i < m
    · simp only [eP, eF, eG, eV, List.getElem?_map, toE_get h, Option.map_some, atE, List.getD_eq_getElem?_getD]
      rw [List.getElem?_eq_getElem (by omega)]; rfl
    · rw [List.getElem?_eq_none (by omega), List.getElem?_eq_none (by simp [eP, eF, eG, eV, toE_len]; omega)]
theorem findFrom_spec {k : Kx} : ∀ {l : Es} {o : Int}, (l.any (fun e => decide (e.1 = k)) = false ∧ findFrom k l o = -1 ∧ l.eraseP (fun e => decide (e.1 = k)) = l) ∨
    ∃ i : Nat, l.any (fun e => decide (e.1 = k)) = true ∧ findFrom k l o = o + i ∧ i < l.length ∧ (∀ j e, j < i → l[j]? = some e → e.1 ≠ k) ∧ (∃ e, l[i]? = some e ∧ e.1 = k) ∧ l.eraseP (fun e => decide (e.1 = k)) = l.take i ++ l.drop (i + 1)
  | [], o => .inl ⟨rfl, rfl, rfl⟩
  | x :: r, o => by
    by_cases h : x.1 = k
    · refine .inr ⟨0, by simp [h], by simp [findFrom, h], by simp, fun j _ hj => by omega, ⟨x, rfl, h⟩, by simp [List.eraseP_cons, h]⟩
    · rcases findFrom_spec (k := k) (l := r) (o := o + 1) with ⟨h1, h2, h3⟩ | ⟨i, h1, h2, h3, h4, h5, h6⟩
      · exact .inl ⟨by simp [h, h1], by simp [findFrom, h, h2], by simp [List.eraseP_cons, h, h3]⟩
      · refine .inr ⟨i + 1, by simp [h, h1], by simp only [findFrom, if_neg h, h2]; omega, by simp; omega, fun j e hj hje => ?_, by simpa using h5, by simp [List.eraseP_cons, h, h6]⟩
        cases j with
        | zero => simp at hje; subst hje; exact h
        | succ j => exact h4 j e (by omega) (by simpa using hje)
theorem find_spec {p f g : Int} : (foundE es p f g = false ∧ findE es p f g = -1 ∧ dropE es p f g = es) ∨
    ∃ i : Nat, foundE es p f g = true ∧ findE es p f g = i ∧ i < es.length ∧ (∀ j e, j < i → es[j]? = some e → e.1 ≠ (p, f, g)) ∧ (∃ e, es[i]? = some e ∧ e.1 = (p, f, g)) ∧ dropE es p f g = es.take i ++ es.drop (i + 1) := by
  rcases findFrom_spec (k := (p, f, g)) (l := es) (o := 0) with ⟨h1, h2, h3⟩ | ⟨i, h1, h2, h3, h4, h5, h6⟩
  · exact .inl ⟨h1, h2, h3⟩
  · exact .inr ⟨i, h1, by rw [findE, h2]; omega, h3, h4, h5, h6⟩
theorem find_at {p f g : Int} {i : Nat} (hi : i < es.length) (h1 : ∀ j e, j < i → es[j]? = some e → e.1 ≠ (p, f, g)) (h2 : ∃ e, es[i]? = some e ∧ e.1 = (p, f, g)) : findE es p f g = i := by
  rcases find_spec (es := es) (p := p) (f := f) (g := g) with ⟨g1, _, _⟩ | ⟨j, _, g2, g3, g4, g5, _⟩
  · obtain ⟨e, e1, e2⟩ := h2
    have : foundE es p f g = true := List.any_eq_true.2 ⟨e, List.mem_of_getElem? e1, by simpa using e2⟩
    rw [g1] at this; cases this
  · obtain ⟨e, e1, e2⟩ := h2
    obtain ⟨e', e1', e2'⟩ := g5
    have : j = i := by
      rcases Nat.lt_trichotomy j i with h | h | h
      · exact absurd e2' (h1 j e' h e1')
      · exact h
      · exact absurd e2 (g4 i e h e1)
    rw [g2, this]
theorem find_no {p f g : Int} (h : ∀ j e, j < es.length → es[j]? = some e → e.1 ≠ (p, f, g)) : findE es p f g = -1 := by
  rcases find_spec (es := es) (p := p) (f := f) (g := g) with ⟨_, g1, _⟩ | ⟨j, _, _, g3, _, ⟨e', e1', e2'⟩, _⟩
  · exact g1
  · exact absurd e2' (h j e' g3 e1')
theorem insBy_at {lt : Kx → Bool} {x : Kx × Int} : ∀ {l : Es} {a : Nat}, a ≤ l.length → (∀ j e, j < a → l[j]? = some e → lt e.1 = true) → (a < l.length → ∃ e, l[a]? = some e ∧ lt e.1 = false) → insBy lt x l = l.take a ++ x :: l.drop a
  | [], a, h, _, _ => by simp [insBy]
  | y :: r, 0, h, h1, h2 => by
    obtain ⟨e, e1, e2⟩ := h2 (by simp)
    simp at e1; subst e1
    simp [insBy, e2]
  | y :: r, a + 1, h, h1, h2 => by
    have e := h1 0 y (by omega) rfl
    have := insBy_at (lt := lt) (x := x) (l := r) (a := a) (by simpa using h) (fun j e hj he => h1 (j + 1) e (by omega) (by simpa using he)) (fun ha => by have := h2 (by simpa using ha); simpa using this)
    simp [insBy, e, this]
theorem insE_at {n : Int} {x : Kx × Int} {l : Es} {a : Nat} (h : a ≤ l.length) (h1 : ∀ j e, j < a → l[j]? = some e → aheadE n e.1 x.1 = true) (h2 : a < l.length → ∃ e, l[a]? = some e ∧ aheadE n e.1 x.1 = false) : insE n x l = l.take a ++ x :: l.drop a :=
  insBy_at (lt := fun k => aheadE n k x.1) h h1 h2
theorem eP_append {a b : Es} : eP (a ++ b) = eP a ++ eP b ∧ eF (a ++ b) = eF a ++ eF b ∧ eG (a ++ b) = eG a ++ eG b ∧ eV (a ++ b) = eV a ++ eV b := by simp [eP, eF, eG, eV]
theorem eP_take {a : Es} {i : Nat} : eP (a.take i) = (eP a).take i ∧ eF (a.take i) = (eF a).take i ∧ eG (a.take i) = (eG a).take i ∧ eV (a.take i) = (eV a).take i := by simp [eP, eF, eG, eV, List.map_take]
theorem eP_drop {a : Es} {i : Nat} : eP (a.drop i) = (eP a).drop i ∧ eF (a.drop i) = (eF a).drop i ∧ eG (a.drop i) = (eG a).drop i ∧ eV (a.drop i) = (eV a).drop i := by simp [eP, eF, eG, eV, List.map_drop]
theorem eP_len {a : Es} : (eP a).length = a.length ∧ (eF a).length = a.length ∧ (eG a).length = a.length ∧ (eV a).length = a.length := by simp [eP, eF, eG, eV]
theorem fitL_take {l : List Int} : ∀ {i : Nat}, i ≤ l.length → fitL 0 i l = l.take i := by
  intro i
  induction i generalizing l with
  | zero => intro _; rfl
  | succ i ih =>
    intro h
    cases l with
    | nil => simp at h
    | cons x r => simp only [fitL, List.take_succ_cons]; rw [ih (by simpa using h)]
end
end Go.Spec
end
section
namespace Go.Ev
open Go Go.Proofs Go.Spec
theorem t_rshard (w w2 : Bool) (n p f g : Int) (m : Nat) (c0 c1 c2 c3 : List Int) (k : SV → St → Prop) : evCall cxT0 (ev cxT0 60) 19 [.one (.ptr 0 0 0), kA p f g] [rTw w n 1, rowCw w2 m c0 c1 c2 c3] k =
    (need (Bool.not (decide (((IntKind.wrap .u64 n) = (0))))) (k (.sa (.one (iv .i64 (IntKind.wrap .i64 (remK (quoK .u64 (remK (addK .u64 (addK .u64 (mulK .u64 (IntKind.wrap .u64 p) (2654435761)) (mulK .u64 (IntKind.wrap .u64 f) (65599))) (mulK .u64 (IntKind.wrap .u64 g) (31))) (4294967296)) (65536)) (IntKind.wrap .u64 n)))))) [(some (SO.mem w MK.whole 31 2 (Ct.lst [[(iv .i64 n), (SC.ref 1)]]))), (some (SO.own w2 MK.row 47 4 (Ct.tab m [(Col.ints .u32 c0), (Col.ints .u16 c1), (Col.ints .u16 c2), (Col.ints .i64 c3)])))])) := by kernel_rfl
theorem t_rahead (w w2 : Bool) (n p f g p2 f2 g2 : Int) (m : Nat) (c0 c1 c2 c3 : List Int) (k : SV → St → Prop) : evCall cxD0 (ev cxD0 60) 22 [.one (.ptr 0 0 0), kA p f g, kA p2 f2 g2] [rTw w n 1, rowCw w2 m c0 c1 c2 c3] k =
    (need (Spec.byN n) (need (Spec.byN n) (branch (Bool.not (eqK (Spec.shR n p f g) (Spec.shR n p2 f2 g2))) (need (Spec.byN n) (need (Spec.byN n) (k (.sa (.one (bv (decide (((Spec.shR n p f g) < (Spec.shR n p2 f2 g2))))))) [(some (SO.mem w MK.whole 31 2 (Ct.lst [[(iv .i64 n), (SC.ref 1)]]))), (some (SO.own w2 MK.row 47 4 (Ct.tab m [(Col.ints .u32 c0), (Col.ints .u16 c1), (Col.ints .u16 c2), (Col.ints .i64 c3)])))]))) (branch (Bool.not (eqK p p2)) (k (.sa (.one (bv (decide ((p < p2)))))) [(some (SO.mem w MK.whole 31 2 (Ct.lst [[(iv .i64 n), (SC.ref 1)]]))), (some (SO.own w2 MK.row 47 4 (Ct.tab m [(Col.ints .u32 c0), (Col.ints .u16 c1), (Col.ints .u16 c2), (Col.ints .i64 c3)])))]) (branch (Bool.not (eqK f f2)) (k (.sa (.one (bv (decide ((f < f2)))))) [(some (SO.mem w MK.whole 31 2 (Ct.lst [[(iv .i64 n), (SC.ref 1)]]))), (some (SO.own w2 MK.row 47 4 (Ct.tab m [(Col.ints .u32 c0), (Col.ints .u16 c1), (Col.ints .u16 c2), (Col.ints .i64 c3)])))]) (k (.sa (.one (bv (decide ((g < g2)))))) [(some (SO.mem w MK.whole 31 2 (Ct.lst [[(iv .i64 n), (SC.ref 1)]]))), (some (SO.own w2 MK.row 47 4 (Ct.tab m [(Col.ints .u32 c0), (Col.ints .u16 c1), (Col.ints .u16 c2), (Col.ints .i64 c3)])))])))))) := by kernel_rfl
theorem t_rfind (w w2 : Bool) (n p f g : Int) (L m : Nat) (c0 c1 c2 c3 : List Int) (k : SV → St → Prop) : evCall cxD1 (ev cxD1 (L + 60)) 12 [.one (.ptr 0 0 0), kA p f g] [rTw w n 1, rowCw w2 m c0 c1 c2 c3] k =
    (ev cxD1 (L + 56) 2 12 (codeAt Try.prog 12 [1, 0, 1, 0]) (frm 26 [(0, (.sa (.one (SC.ptr 0 0 0)))), (3, (.sa (.one (SC.ptr 2 0 0)))), (5, (.sa (.one (iv .i64 (0)))))]) [(some (SO.mem w MK.whole 31 2 (Ct.lst [[(iv .i64 n), (SC.ref 1)]]))), (some (SO.own w2 MK.row 47 4 (Ct.tab m [(Col.ints .u32 c0), (Col.ints .u16 c1), (Col.ints .u16 c2), (Col.ints .i64 c3)]))), (obj 41 3 [(iv .u32 p), (iv .u16 f), (iv .u16 g)])] (kBlock 0 (kSeq (ev cxD1 (L + 58) 2 12 (codeAt Try.prog 12 [1, 1])) (kRet (Cx.P cxD1) [(ResultVar.tmp 4)] 2 k)))) := by kernel_rfl
theorem t_rcount (w w2 : Bool) (n s : Int) (L m : Nat) (c0 c1 c2 c3 : List Int) (k : SV → St → Prop) : evCall cxD1 (ev cxD1 (L + 60)) 21 [.one (.ptr 0 0 0), kint s] [rTw w n 1, rowCw w2 m c0 c1 c2 c3] k =
    (ev cxD1 (L + 55) 2 21 (codeAt Try.prog 21 [1, 1, 0, 1, 0]) (frm 31 [(0, (.sa (.one (SC.ptr 0 0 0)))), (1, (.sa (.one (iv .i64 s)))), (5, (.sa (.one (iv .i64 (0))))), (6, (.sa (.one (iv .i64 (0)))))]) [(some (SO.mem w MK.whole 31 2 (Ct.lst [[(iv .i64 n), (SC.ref 1)]]))), (some (SO.own w2 MK.row 47 4 (Ct.tab m [(Col.ints .u32 c0), (Col.ints .u16 c1), (Col.ints .u16 c2), (Col.ints .i64 c3)])))] (kBlock 0 (kSeq (ev cxD1 (L + 57) 2 21 (codeAt Try.prog 21 [1, 1, 1])) (kRet (Cx.P cxD1) [(ResultVar.tmp 4)] 2 k)))) := by kernel_rfl
theorem t_reach (w w2 : Bool) (n : Int) (L m : Nat) (c0 c1 c2 c3 : List Int) (k : SV → St → Prop) : evCall cxD1 (ev cxD1 (L + 60)) 15 [.one (.ptr 0 0 0)] [rTw w n 1, rowCw w2 m c0 c1 c2 c3] k =
    (ev cxD1 (L + 55) 2 15 (codeAt Try.prog 15 [1, 1, 0, 1, 0]) (frm 57 [(0, (.sa (.one (SC.ptr 0 0 0)))), (3, (.sa (.one (SC.ref 2)))), (4, (.sa (.one (iv .i64 (0)))))]) [(some (SO.mem w MK.whole 31 2 (Ct.lst [[(iv .i64 n), (SC.ref 1)]]))), (some (SO.own w2 MK.row 47 4 (Ct.tab m [(Col.ints .u32 c0), (Col.ints .u16 c1), (Col.ints .u16 c2), (Col.ints .i64 c3)]))), (some (SO.own true MK.row 47 4 (Ct.tab 0 [(Col.ints .u32 []), (Col.ints .u16 []), (Col.ints .u16 []), (Col.ints .i64 [])])))] (kBlock 0 (kSeq (ev cxD1 (L + 57) 2 15 (codeAt Try.prog 15 [1, 1, 1])) (kRet (Cx.P cxD1) [(ResultVar.tmp 2)] 2 k)))) := by kernel_rfl
theorem t_rdrop (n p f g : Int) (m : Nat) (c0 c1 c2 c3 : List Int) (k : SV → St → Prop) : evCall cxD2 (ev cxD2 60) 14 [.one (.ptr 0 0 0), kA p f g] [rT n 1, rowC m c0 c1 c2 c3] k =
    (need (decide ((m ≤ 1000))) (branch (decide (((Spec.findE (Spec.toE m c0 c1 c2 c3) p f g) < (0)))) (k (.sa (.one (bv false))) [(obj 31 2 [(iv .i64 n), (SC.ref 1)]), (some (SO.own true MK.row 47 4 (Ct.tab m [(Col.ints .u32 c0), (Col.ints .u16 c1), (Col.ints .u16 c2), (Col.ints .i64 c3)])))]) (need (decide (((0 + m) ≤ m))) (need (decide (((0) ≤ (Spec.findE (Spec.toE m c0 c1 c2 c3) p f g)))) (need (decide (((Spec.findE (Spec.toE m c0 c1 c2 c3) p f g) ≤ (((m - 0) : Nat) : Int)))) (need (decide (((0 + ((Int.toNat (Spec.findE (Spec.toE m c0 c1 c2 c3) p f g)) - 0)) ≤ m))) (branch (decide (((0 + ((Int.toNat (Spec.findE (Spec.toE m c0 c1 c2 c3) p f g)) - 0)) ≤ 0))) (need (decide ((((Int.toNat (Spec.findE (Spec.toE m c0 c1 c2 c3) p f g)) - 0) = 0))) (need (decide (((0 + m) ≤ m))) (need (decide (((0) ≤ (addK .i64 (Spec.findE (Spec.toE m c0 c1 c2 c3) p f g) (1))))) (need (decide (((addK .i64 (Spec.findE (Spec.toE m c0 c1 c2 c3) p f g) (1)) ≤ ((m : Nat) : Int)))) (need (decide (((Int.toNat (addK .i64 (Spec.findE (Spec.toE m c0 c1 c2 c3) p f g) (1))) ≤ m))) (need (decide ((((0 + (Int.toNat (addK .i64 (Spec.findE (Spec.toE m c0 c1 c2 c3) p f g) (1)))) + (m - (Int.toNat (addK .i64 (Spec.findE (Spec.toE m c0 c1 c2 c3) p f g) (1))))) ≤ m))) (branch (decide (((0 + (m - (Int.toNat (addK .i64 (Spec.findE (Spec.toE m c0 c1 c2 c3) p f g) (1))))) ≤ 0))) (need (decide (((m - (Int.toNat (addK .i64 (Spec.findE (Spec.toE m c0 c1 c2 c3) p f g) (1)))) = 0))) (Again (k (.sa (.one (bv true))) [(obj 31 2 [(iv .i64 n), (SC.ref 2)]), (some (SO.own true MK.row 47 4 (Ct.tab m [(Col.ints .u32 c0), (Col.ints .u16 c1), (Col.ints .u16 c2), (Col.ints .i64 c3)]))), (some (SO.own true MK.row 47 4 (Ct.tab 0 [(Col.ints .u32 []), (Col.ints .u16 []), (Col.ints .u16 []), (Col.ints .i64 [])])))]))) (need (decide ((((0 + (m - (Int.toNat (addK .i64 (Spec.findE (Spec.toE m c0 c1 c2 c3) p f g) (1))))) * 16) ≤ 140737488355328))) (Again (k (.sa (.one (bv true))) [(obj 31 2 [(iv .i64 n), (SC.ref 2)]), (some (SO.own true MK.row 47 4 (Ct.tab m [(Col.ints .u32 c0), (Col.ints .u16 c1), (Col.ints .u16 c2), (Col.ints .i64 c3)]))), (some (SO.own true MK.row 47 4 (Ct.tab (m - (Int.toNat (addK .i64 (Spec.findE (Spec.toE m c0 c1 c2 c3) p f g) (1)))) [(Col.ints .u32 (List.drop (0 + (Int.toNat (addK .i64 (Spec.findE (Spec.toE m c0 c1 c2 c3) p f g) (1)))) c0)), (Col.ints .u16 (List.drop (0 + (Int.toNat (addK .i64 (Spec.findE (Spec.toE m c0 c1 c2 c3) p f g) (1)))) c1)), (Col.ints .u16 (List.drop (0 + (Int.toNat (addK .i64 (Spec.findE (Spec.toE m c0 c1 c2 c3) p f g) (1)))) c2)), (Col.ints .i64 (List.drop (0 + (Int.toNat (addK .i64 (Spec.findE (Spec.toE m c0 c1 c2 c3) p f g) (1)))) c3))])))])))))))))) (need (decide ((((0 + ((Int.toNat (Spec.findE (Spec.toE m c0 c1 c2 c3) p f g)) - 0)) * 16) ≤ 140737488355328))) (need (decide (((0 + m) ≤ m))) (need (decide (((0) ≤ (addK .i64 (Spec.findE (Spec.toE m c0 c1 c2 c3) p f g) (1))))) (need (decide (((addK .i64 (Spec.findE (Spec.toE m c0 c1 c2 c3) p f g) (1)) ≤ ((m : Nat) : Int)))) (need (decide (((Int.toNat (addK .i64 (Spec.findE (Spec.toE m c0 c1 c2 c3) p f g) (1))) ≤ m))) (need (decide ((((0 + (Int.toNat (addK .i64 (Spec.findE (Spec.toE m c0 c1 c2 c3) p f g) (1)))) + (m - (Int.toNat (addK .i64 (Spec.findE (Spec.toE m c0 c1 c2 c3) p f g) (1))))) ≤ m))) (need (decide ((((((Int.toNat (Spec.findE (Spec.toE m c0 c1 c2 c3) p f g)) - 0) + (m - (Int.toNat (addK .i64 (Spec.findE (Spec.toE m c0 c1 c2 c3) p f g) (1))))) * 16) ≤ 140737488355328))) (Again (k (.sa (.one (bv true))) [(obj 31 2 [(iv .i64 n), (SC.ref 2)]), (some (SO.own true MK.row 47 4 (Ct.tab m [(Col.ints .u32 c0), (Col.ints .u16 c1), (Col.ints .u16 c2), (Col.ints .i64 c3)]))), (some (SO.own true MK.row 47 4 (Ct.tab (((Int.toNat (Spec.findE (Spec.toE m c0 c1 c2 c3) p f g)) - 0) + (m - (Int.toNat (addK .i64 (Spec.findE (Spec.toE m c0 c1 c2 c3) p f g) (1))))) [(Col.ints .u32 ((fitL (0) ((Int.toNat (Spec.findE (Spec.toE m c0 c1 c2 c3) p f g)) - 0) c0) ++ (fitL (0) (m - (Int.toNat (addK .i64 (Spec.findE (Spec.toE m c0 c1 c2 c3) p f g) (1)))) (List.drop (0 + (Int.toNat (addK .i64 (Spec.findE (Spec.toE m c0 c1 c2 c3) p f g) (1)))) c0)))), (Col.ints .u16 ((fitL (0) ((Int.toNat (Spec.findE (Spec.toE m c0 c1 c2 c3) p f g)) - 0) c1) ++ (fitL (0) (m - (Int.toNat (addK .i64 (Spec.findE (Spec.toE m c0 c1 c2 c3) p f g) (1)))) (List.drop (0 + (Int.toNat (addK .i64 (Spec.findE (Spec.toE m c0 c1 c2 c3) p f g) (1)))) c1)))), (Col.ints .u16 ((fitL (0) ((Int.toNat (Spec.findE (Spec.toE m c0 c1 c2 c3) p f g)) - 0) c2) ++ (fitL (0) (m - (Int.toNat (addK .i64 (Spec.findE (Spec.toE m c0 c1 c2 c3) p f g) (1)))) (List.drop (0 + (Int.toNat (addK .i64 (Spec.findE (Spec.toE m c0 c1 c2 c3) p f g) (1)))) c2)))), (Col.ints .i64 ((fitL (0) ((Int.toNat (Spec.findE (Spec.toE m c0 c1 c2 c3) p f g)) - 0) c3) ++ (fitL (0) (m - (Int.toNat (addK .i64 (Spec.findE (Spec.toE m c0 c1 c2 c3) p f g) (1)))) (List.drop (0 + (Int.toNat (addK .i64 (Spec.findE (Spec.toE m c0 c1 c2 c3) p f g) (1)))) c3))))])))])))))))))))))))) := by kernel_rfl
theorem t_rfindL (w w2 : Bool) (n p f g i : Int) (L M m : Nat) (c0 c1 c2 c3 : List Int) (k : SV → St → Prop) : ev cxD1 (L + 56) 2 12 (codeAt Try.prog 12 [1, 0, 1, 0]) (frm 26 [(0, .sa (.one (.ptr 0 0 0))), (3, .sa (.one (.ptr 2 0 0))), (5, .sa (kint i))]) [rTw w n 1, rowCw w2 m c0 c1 c2 c3, obj 41 3 [iv .u32 p, iv .u16 f, iv .u16 g]] (kBlock 0 (kSeq (ev cxD1 (M + 58) 2 12 (codeAt Try.prog 12 [1, 1])) (kRet (Cx.P cxD1) [(ResultVar.tmp 4)] 2 k))) =
    (Again (branch (decide ((i < ((m : Nat) : Int)))) (need (decide (((0) ≤ i))) (need (decide ((i < ((m : Nat) : Int)))) (need (decide (((0 + (Int.toNat i)) < m))) (branch ((eqK (List.getD c0 (0 + (Int.toNat i)) (0)) p) && ((eqK (List.getD c1 (0 + (Int.toNat i)) (0)) f) && ((eqK (List.getD c2 (0 + (Int.toNat i)) (0)) g) && true))) (k (.sa (.one (iv .i64 i))) [(some (SO.mem w MK.whole 31 2 (Ct.lst [[(iv .i64 n), (SC.ref 1)]]))), (some (SO.own w2 MK.row 47 4 (Ct.tab m [(Col.ints .u32 c0), (Col.ints .u16 c1), (Col.ints .u16 c2), (Col.ints .i64 c3)])))]) (ev cxD1 (L + 55) 2 12 (codeAt Try.prog 12 [1, 0, 1, 0]) (frm 26 [(0, (.sa (.one (SC.ptr 0 0 0)))), (3, (.sa (.one (SC.ptr 2 0 0)))), (5, (.sa (.one (iv .i64 (addK .i64 i (1))))))]) [(some (SO.mem w MK.whole 31 2 (Ct.lst [[(iv .i64 n), (SC.ref 1)]]))), (some (SO.own w2 MK.row 47 4 (Ct.tab m [(Col.ints .u32 c0), (Col.ints .u16 c1), (Col.ints .u16 c2), (Col.ints .i64 c3)]))), (obj 41 3 [(iv .u32 p), (iv .u16 f), (iv .u16 g)])] (kBlock 0 (kSeq (ev cxD1 (M + 58) 2 12 (codeAt Try.prog 12 [1, 1])) (kRet (Cx.P cxD1) [(ResultVar.tmp 4)] 2 k)))))))) (k (.sa (.one (iv .i64 (-(1))))) [(some (SO.mem w MK.whole 31 2 (Ct.lst [[(iv .i64 n), (SC.ref 1)]]))), (some (SO.own w2 MK.row 47 4 (Ct.tab m [(Col.ints .u32 c0), (Col.ints .u16 c1), (Col.ints .u16 c2), (Col.ints .i64 c3)])))]))) := by kernel_rfl
theorem t_rcountL (w w2 : Bool) (n s x i : Int) (L M m : Nat) (c0 c1 c2 c3 : List Int) (k : SV → St → Prop) : ev cxD1 (L + 55) 2 21 (codeAt Try.prog 21 [1, 1, 0, 1, 0]) (frm 31 [(0, .sa (.one (.ptr 0 0 0))), (1, .sa (kint s)), (5, .sa (kint x)), (6, .sa (kint i))]) [rTw w n 1, rowCw w2 m c0 c1 c2 c3] (kBlock 0 (kSeq (ev cxD1 (M + 57) 2 21 (codeAt Try.prog 21 [1, 1, 1])) (kRet (Cx.P cxD1) [(ResultVar.tmp 4)] 2 k))) =
    (Again (branch (decide ((i < ((m : Nat) : Int)))) (need (decide (((0) ≤ i))) (need (decide ((i < ((m : Nat) : Int)))) (need (decide (((0 + (Int.toNat i)) < m))) (need (Spec.byN n) (branch (eqK (Spec.shR n (List.getD c0 (0 + (Int.toNat i)) (0)) (List.getD c1 (0 + (Int.toNat i)) (0)) (List.getD c2 (0 + (Int.toNat i)) (0))) s) (ev cxD1 (L + 54) 2 21 (codeAt Try.prog 21 [1, 1, 0, 1, 0]) (frm 31 [(0, (.sa (.one (SC.ptr 0 0 0)))), (1, (.sa (.one (iv .i64 s)))), (5, (.sa (.one (iv .i64 (addK .i64 x (1)))))), (6, (.sa (.one (iv .i64 (addK .i64 i (1))))))]) [(some (SO.mem w MK.whole 31 2 (Ct.lst [[(iv .i64 n), (SC.ref 1)]]))), (some (SO.own w2 MK.row 47 4 (Ct.tab m [(Col.ints .u32 c0), (Col.ints .u16 c1), (Col.ints .u16 c2), (Col.ints .i64 c3)])))] (kBlock 0 (kSeq (ev cxD1 (M + 57) 2 21 (codeAt Try.prog 21 [1, 1, 1])) (kRet (Cx.P cxD1) [(ResultVar.tmp 4)] 2 k)))) (ev cxD1 (L + 54) 2 21 (codeAt Try.prog 21 [1, 1, 0, 1, 0]) (frm 31 [(0, (.sa (.one (SC.ptr 0 0 0)))), (1, (.sa (.one (iv .i64 s)))), (5, (.sa (.one (iv .i64 x)))), (6, (.sa (.one (iv .i64 (addK .i64 i (1))))))]) [(some (SO.mem w MK.whole 31 2 (Ct.lst [[(iv .i64 n), (SC.ref 1)]]))), (some (SO.own w2 MK.row 47 4 (Ct.tab m [(Col.ints .u32 c0), (Col.ints .u16 c1), (Col.ints .u16 c2), (Col.ints .i64 c3)])))] (kBlock 0 (kSeq (ev cxD1 (M + 57) 2 21 (codeAt Try.prog 21 [1, 1, 1])) (kRet (Cx.P cxD1) [(ResultVar.tmp 4)] 2 k))))))))) (k (.sa (.one (iv .i64 x))) [(some (SO.mem w MK.whole 31 2 (Ct.lst [[(iv .i64 n), (SC.ref 1)]]))), (some (SO.own w2 MK.row 47 4 (Ct.tab m [(Col.ints .u32 c0), (Col.ints .u16 c1), (Col.ints .u16 c2), (Col.ints .i64 c3)])))]))) := by kernel_rfl
end Go.Ev
end
