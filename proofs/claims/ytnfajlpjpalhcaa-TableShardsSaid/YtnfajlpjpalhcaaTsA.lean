/- Table: texts TbJ, TbD, TbPD, TbK, TbF, TbG, TbT0, TbT1, TbH, TbE, TbS, TbP, TbOD, ToT, TqT, TbL, TbO, one behind the other. No conditions. -/
import Derived.Test.YtnfajlpjpalhcaaEvD
import Derived.Test.YtnfajlpjpalhcaaProg
import Derived.Shelf.SlSortCmp.WholeK
set_option linter.unusedVariables false
set_option linter.unusedSimpArgs false
section
namespace Go.Ev
open Go
section maps
variable {α : Al} {kk : List IntKind} {es : List VE} {rs xs ps : List MapEntry} {cl : Nat}
theorem MvOk.start (h : MOk kk xs cl) : MvOk α kk [] xs xs [] cl :=
  ⟨by simp, rfl, List.Pairwise.nil, by simp, h.ints, h.apart, by simp, h.born, h.young⟩
theorem MvOk.tell (m : MvOk α kk es rs xs ps cl) {k : List Int} (hk : k.length = kk.length) (hn : ∀ e ∈ es, e.key ≠ k) :
    ((∀ x ∈ xs, x.key ≠ keyV kk k) ∧ MvOk α kk (⟨k, none, 0⟩ :: es) rs xs ps cl) ∨
    ∃ x rs', x ∈ xs ∧ x.key = keyV kk k ∧ rs.Perm (x :: rs') ∧ ∀ v : SA, v.rep α x.val → MvOk α kk (⟨k, some v, x.born⟩ :: es) rs' xs (x :: ps) cl := by
  have hkeys : ∀ (v : Option SA) (b : Nat), List.Pairwise (fun a b : VE => a.key ≠ b.key) ((⟨k, v, b⟩ : VE) :: es) := fun v b => List.pairwise_cons.2 ⟨fun e he h => hn e he h.symm, m.keys⟩
  have hlens : ∀ (v : Option SA) (b : Nat), ∀ e ∈ (⟨k, v, b⟩ : VE) :: es, e.key.length = kk.length := fun v b e he => by
    rcases List.mem_cons.1 he with rfl | he
    · exact hk
    · exact m.lens e he
  by_cases hx : ∃ x ∈ rs, x.key = keyV kk k
  · right
    obtain ⟨x, hx, hxk⟩ := hx
    obtain ⟨l1, l2, rfl⟩ := List.append_of_mem hx
    have hp : (l1 ++ x :: l2).Perm (x :: (l1 ++ l2)) := List.perm_middle
    have hap := List.pairwise_cons.1 ((hp.pairwise_iff (fun h => Ne.symm h)).1 m.apart)
    refine ⟨x, l1 ++ l2, m.perm.mem_iff.2 (by simp), hxk, hp, fun v hv => ⟨?_, ⟨x, ps, rfl, hxk, rfl, hv, m.rep⟩, hkeys _ _, hlens _ _, fun y hy => m.ints y (hp.mem_iff.2 (List.mem_cons_of_mem _ hy)), hap.2, fun e he y hy => ?_, m.born, m.young⟩⟩
    · refine m.perm.trans ?_
      refine (List.Perm.append_left ps hp).trans ?_
      simp only [List.cons_append]; exact (List.perm_middle (l₁ := ps) (a := x) (l₂ := l1 ++ l2))
    · rcases List.mem_cons.1 he with rfl | he
      · rw [← hxk]; exact fun h => hap.1 y hy h.symm
      · exact m.off e he y (hp.mem_iff.2 (List.mem_cons_of_mem _ hy))
  · left
    have hrs : ∀ x ∈ rs, x.key ≠ keyV kk k := fun x h1 h2 => hx ⟨x, h1, h2⟩
    refine ⟨fun x h1 h2 => ?_, ⟨m.perm, m.rep, hkeys _ _, hlens _ _, m.ints, m.apart, fun e he y hy => ?_, m.born, m.young⟩⟩
    · rcases List.mem_append.1 (m.perm.mem_iff.1 h1) with h | h
      · obtain ⟨e, a1, a2, _⟩ := m.rep.mem x h
        exact hn e a1 (keyV_inj (m.lens e a1) hk (a2.symm.trans h2))
      · exact hrs x h h2
    · rcases List.mem_cons.1 he with rfl | he
      · exact hrs y hy
      · exact m.off e he y hy
theorem VesRep.apart : ∀ {es : List VE} {ps : List MapEntry}, VesRep α kk es ps → es.Pairwise (fun a b => a.key ≠ b.key) → (∀ e ∈ es, e.key.length = kk.length) → ps.Pairwise fun a b => a.key ≠ b.key
  | [], ps, h, _, _ => by rw [show ps = [] from h]; exact List.Pairwise.nil
  | ⟨key, none, _⟩ :: r, ps, h, hk, hl => VesRep.apart (es := r) h (List.pairwise_cons.1 hk).2 fun e he => hl e (by simp [he])
  | ⟨key, some v, _⟩ :: r, ps, ⟨p, q, h1, h2, _, _, h4⟩, hk, hl => by
    rw [h1]
    refine List.pairwise_cons.2 ⟨fun y hy h => ?_, VesRep.apart h4 (List.pairwise_cons.1 hk).2 fun e he => hl e (by simp [he])⟩
    obtain ⟨e, a1, a2, _⟩ := h4.mem y hy
    exact (List.pairwise_cons.1 hk).1 e a1 (keyV_inj (hl _ (by simp)) (hl e (by simp [a1])) (h2.symm.trans (h.trans a2)))
theorem MvOk.mok (m : MvOk α kk es rs xs ps cl) : MOk kk xs cl := by
  refine ⟨fun x hx => ?_, ?_, m.born, m.young⟩
  · rcases List.mem_append.1 (m.perm.mem_iff.1 hx) with h | h
    · obtain ⟨e, a1, a2, _⟩ := m.rep.mem x h
      exact ⟨e.key, m.lens e a1, a2⟩
    · exact m.ints x h
  · refine (m.perm.pairwise_iff (fun h => Ne.symm h)).2 (List.pairwise_append.2 ⟨m.rep.apart m.keys m.lens, m.apart, fun a ha b hb => ?_⟩)
    obtain ⟨e, a1, a2, _⟩ := m.rep.mem a ha
    rw [a2]; exact fun h => m.off e a1 b hb h.symm
end maps
def FlatO (so : SO) : Prop := ∀ w d b, (so.lies w d b → b = d.blk) ∧ ¬ Ice w d so b
theorem R_flat {α : Al} {st : St} {w : World} (hg : ∀ o so, st.get o = some so → ∃ d, α o = some d ∧ Good α w d so ∧ FlatO so)
    (hsep : ∀ o o' so so' d d', o ≠ o' → st.get o = some so → st.get o' = some so' → α o = some d → α o' = some d' → d.blk ≠ d'.blk)
    (hnone : ∀ o, st.length ≤ o → α o = none) (hcell : ∀ o d, α o = some d → Ev.isCell d.val = true) : R α st w := by
  refine ⟨fun o so h => (hg o so h).imp fun d h => ⟨h.1, h.2.1⟩, fun o o' so so' d d' b hne ho ho' hd hd' _ hl hf => ?_, fun o so d b ho hd _ _ hi => ?_, hnone, hcell⟩
  · obtain ⟨e, h1, _, h2⟩ := hg o so ho
    obtain ⟨e', h1', _, h2'⟩ := hg o' so' ho'
    rw [hd] at h1; cases h1
    rw [hd'] at h1'; cases h1'
    have x1 := (h2 w d b).1 hl
    rcases hf with hf | hf
    · exact hsep o o' so so' d d' hne ho ho' hd hd' (x1.symm.trans ((h2' w d' b).1 hf))
    · exact (h2' w d' b).2 hf
  · obtain ⟨e, h1, _, h2⟩ := hg o so ho
    rw [hd] at h1; cases h1
    exact (h2 w d b).2 hi
theorem flat_mv {wb : Bool} {kk : List IntKind} {es : List VE} {rs : List MapEntry} {cl h : Nat} : FlatO (.mv wb kk es rs cl h) := fun _ _ _ => ⟨fun h => h, fun h => h⟩
theorem flat_own {wb : Bool} {T m : Nat} {ct : Ct} (hc : ∀ (i j : Nat) (k : IntKind) (xs : List Int), (ct.get i)[j]? ≠ some (SC.dat k xs)) : FlatO (.own wb .row T m ct) := fun w d b => ⟨fun h => h.2, fun h => by
  obtain ⟨_, i, j, k, xs, v, h1, h2, _⟩ := h
  exact hc i j k xs h2⟩
def mapDen (b : Nat) : Den := ⟨b, 0, 0, 0, .map (some b), true⟩
def tbObj (wb : Bool) : SO := .mem wb .whole 62 1 (.lst [[.ref 1]])
def tbRow (wb : Bool) (n : Nat) (vs : List Value) (i : Nat) : SO := .own wb .row 58 1 (.at1 n vs i [.ref 2])
def tbSt (wb : Bool) (n : Nat) (vs : List Value) (i : Nat) (es : List VE) (rs : List MapEntry) (cl : Nat) : St := [some (tbObj wb), some (tbRow wb n vs i), some (.mv wb kK es rs cl 0)]
def tbAl (b0 : Nat × Nat) (rb ro rc n bi : Nat) : Al := fun o => match o with
  | 0 => some (tbDen b0)
  | 1 => some ⟨rb, ro, 1, rc, .slice (some ⟨rb, ro, none⟩) n rc, true⟩
  | 2 => some (mapDen bi)
  | _ => none
def mapVs (bs : List Nat) : List Value := bs.map fun b => .map (some b)
theorem flat_tb {wb : Bool} : FlatO (tbObj wb) := fun w d b => ⟨fun h => h, fun h => by
  obtain ⟨i, j, k, xs, v, h1, h2, _⟩ := h
  simp only [Ct.get, getL_eq] at h2
  match i with
  | 0 => simp at h2; match j, h2 with
    | 0, h2 => simp at h2
    | n + 1, h2 => simp at h2
  | i + 1 => simp at h2⟩
theorem flat_row {wb : Bool} {n : Nat} {vs : List Value} {i : Nat} : FlatO (tbRow wb n vs i) := flat_own fun i' j k' ys h => by
  rw [Ct.at1_get] at h
  split at h
  · match j, h with
    | 0, h => simp at h
    | n + 1, h => simp at h
  · match j, h with
    | 0, h => simp at h
    | n + 1, h => simp at h
theorem tbSt_get {wb : Bool} {n i cl o : Nat} {vs : List Value} {es : List VE} {rs : List MapEntry} {so : SO} (h : (tbSt wb n vs i es rs cl).get o = some so) : (o = 0 ∧ so = tbObj wb) ∨ (o = 1 ∧ so = tbRow wb n vs i) ∨ (o = 2 ∧ so = .mv wb kK es rs cl 0) := by
  match o with
  | 0 => simp [St.get_eq, tbSt] at h; exact .inl ⟨rfl, h.symm⟩
  | 1 => simp [St.get_eq, tbSt] at h; exact .inr (.inl ⟨rfl, h.symm⟩)
  | 2 => simp [St.get_eq, tbSt] at h; exact .inr (.inr ⟨rfl, h.symm⟩)
  | n + 3 => simp [St.get_eq, tbSt] at h
theorem tb_R {w : World} {wb : Bool} {b0 : Nat × Nat} {rb ro rc : Nat} {bs : List Nat} {ms : List (List MapEntry × Nat)} {i bi : Nat} {m : List MapEntry × Nat} {es : List VE} {rs ps : List MapEntry}
    (hp : TbHeap w b0 rb ro rc bs ms) (hb : bs[i]? = some bi) (hm : ms[i]? = some m) (mv : MvOk (tbAl b0 rb ro rc bs.length bi) kK es rs m.1 ps m.2) (hd : (tbBlks b0 rb bs).Nodup) :
    R (tbAl b0 rb ro rc bs.length bi) (tbSt wb bs.length (mapVs bs) i es rs m.2) w := by
  have hbm : bi ∈ bs := List.mem_of_getElem? hb
  simp only [tbBlks, List.nodup_cons, List.mem_cons, not_or] at hd
  obtain ⟨⟨n1, n2⟩, n3, _⟩ := hd
  have n4 : b0.1 ≠ bi := fun e => n2 (e ▸ hbm)
  have n5 : rb ≠ bi := fun e => n3 (e ▸ hbm)
  refine R_flat (fun o so h => ?_) (fun o o' so so' d d' hne ho ho' hdd hdd' => ?_) (fun o ho => ?_) (fun o d h => ?_)
  · rcases tbSt_get h with ⟨rfl, rfl⟩ | ⟨rfl, rfl⟩ | ⟨rfl, rfl⟩
    · obtain ⟨cs, q1, q2, q3, q4⟩ := hp.h0
      refine ⟨⟨b0.1, b0.2, 1, 1, .pointer (some ⟨b0.1, b0.2, none⟩), true⟩, rfl, ⟨rfl, by omega, cs, (0, 0), q1, ⟨q3, .inl rfl⟩, by simp [q2], by simp [Ct.len], fun _ => by simp [Ct.len], fun j hj => ?_⟩, flat_tb⟩
      simp only [Ct.len, List.length_cons, List.length_nil] at hj
      obtain rfl : j = 0 := by omega
      refine ⟨rfl, fun j c hj => ?_⟩
      simp only [Ct.get, getL_eq, List.getElem?_cons_zero, Option.getD_some] at hj
      match j with
      | 0 => simp at hj; subst hj; exact ⟨_, rfl, by simpa using q4, rfl⟩
      | n + 1 => simp at hj
    · obtain ⟨cs, fz, q1, q2, q3, q4, q5⟩ := hp.h1
      refine ⟨_, rfl, ⟨rfl, by omega, .inr ⟨rfl, rfl, q4, cs, fz, q1, ⟨q2.1, q2.2.imp id fun x => ⟨rfl, x⟩⟩, by simpa using q3, fun j hj => ?_⟩⟩, flat_row⟩
      have hj : j < bs.length := hj
      have hcell := q5 j bs[j] (List.getElem?_eq_getElem hj)
      rw [Ct.at1_get]
      by_cases hji : j = i
      · rw [if_pos hji]
        subst hji
        have hcell := q5 j bi hb
        refine ⟨rfl, fun j' c hj' => ?_⟩
        match j' with
        | 0 => simp at hj'; subst hj'; exact ⟨.map (some bi), rfl, by simpa using hcell, rfl⟩
        | n + 1 => simp at hj'
      · rw [if_neg hji]
        refine ⟨rfl, fun j' c hj' => ?_⟩
        match j' with
        | 0 =>
          simp at hj'; subst hj'
          have hv : (mapVs bs)[j]?.getD (Value.bool false) = .map (some bs[j]) := by rw [mapVs, List.getElem?_map, List.getElem?_eq_getElem hj]; rfl
          exact ⟨.map (some bs[j]), by rw [hv]; rfl, by simpa using hcell, rfl⟩
        | n + 1 => simp at hj'
    · exact ⟨_, rfl, ⟨rfl, _, _, hp.h3 i bi m hb hm, mv⟩, flat_mv⟩
  · rcases tbSt_get ho with ⟨rfl, rfl⟩ | ⟨rfl, rfl⟩ | ⟨rfl, rfl⟩ <;> rcases tbSt_get ho' with ⟨rfl, rfl⟩ | ⟨rfl, rfl⟩ | ⟨rfl, rfl⟩
    all_goals first
      | exact absurd rfl hne
      | (cases hdd; cases hdd'; simp only [mapDen]; assumption)
      | (cases hdd; cases hdd'; simp only [mapDen]; apply Ne.symm; assumption)
  · have ho : 3 ≤ o := ho
    match o with
    | n + 3 => rfl
    | 0 | 1 | 2 => omega
  · match o with
    | 0 => cases h; rfl
    | 1 => cases h; rfl
    | 2 => cases h; rfl
    | n + 3 => cases h
end Go.Ev
end
section
namespace Go.Spec
open Go Go.Ev
end Go.Spec
namespace Go.Ev
open Go Go.Proofs Go.Spec
def kA (p f g : Int) : SA := .agg [.raw (.int .u32 p), .raw (.int .u16 f), .raw (.int .u16 g)]
def tbO (wb : Bool) : Option SO := some (.mem wb .whole 62 1 (.lst [[.ref 1]]))
def tbR (wb : Bool) (n : Nat) (vs : List Value) (i : Nat) : Option SO := some (.own wb .row 58 1 (.at1 n vs i [.ref 2]))
def mvK (wb : Bool) (es : List VE) (rs : List MapEntry) (c : Nat) : Option SO := some (.mv wb [.u32, .u16, .u16] es rs c 0)
noncomputable def cxT0 : Cx := mkCx Try.prog [] [] []
def wrT0 : List (FuncId × Nat) := [(8, 2), (13, 2)]
noncomputable def cxT1 : Cx := mkCx Try.prog [] [] wrT0
end Go.Ev
end
section
namespace Go.Spec
open Go Go.Ev
def told (k : Kx) (o : Option Int) : List (Kx × Int) := o.toList.map fun v => (k, v)
def setS (l : List (Kx × Int)) (k : Kx) (o : Option Int) : List (Kx × Int) := (l.filter fun e => !decide (e.1 = k)) ++ told k o
def tbSet (D : AD) (i : Nat) (k : Kx) (o : Option Int) : AD := ⟨D.sh.set i (setS (D.sh.getD i []) k o)⟩
def lookS (l : List (Kx × Int)) (k : Kx) : Option Int := (l.find? fun e => decide (e.1 = k)).map (·.2)
def shI (n : Nat) (p f g : Int) : Int := remK (IntKind.wrap .i64 (shrK .u32 (addK .u32 (addK .u32 (mulK .u32 p (2654435761)) (mulK .u32 (IntKind.wrap .u32 f) (65599))) (mulK .u32 (IntKind.wrap .u32 g) (31))) (16))) ((n : Nat) : Int)
def shN (D : TbD) (k : Kx) : Nat := (shI D.sh.length k.1 k.2.1 k.2.2).toNat
def getT (D : TbD) (k : Kx) : Option Int := lookS (D.sh.getD (shN D k) []) k
def getI (D : TbD) (p f g : Int) : Int := (getT D (p, f, g)).getD 0
def getB (D : TbD) (p f g : Int) : Bool := (getT D (p, f, g)).isSome
def setT (D : TbD) (k : Kx) (o : Option Int) : TbD := tbSet D (shN D k) k o
def cntT (D : TbD) (s : Int) : Int := if 0 ≤ s ∧ s < (D.sh.length : Int) then (((D.sh.getD s.toNat []).length : Nat) : Int) else 0
end Go.Spec
namespace Go.Ev
open Go Go.Proofs Go.Spec
def sTShard : SumT := fun args st k => match args with
  | [.one (.raw (.pointer none)), .agg [.raw (.int .u32 p), .raw (.int .u16 f), .raw (.int .u16 g)]] => (match st with
    | [] => k (.sa (.one (.raw (.int .i64 0)))) []
    | _ => False)
  | [.one (.ref 0), .agg [.raw (.int .u32 p), .raw (.int .u16 f), .raw (.int .u16 g)]] => (match st with
    | [some (.abs w 0 D)] => k (.sa (.one (.raw (.int .i64 (shI D.sh.length p f g))))) [some (.abs w 0 D)]
    | _ => False)
  | _ => False
def sTShards : SumT := fun args st k => match args with
  | [.one (.raw (.pointer none))] => (match st with
    | [] => k (.sa (.one (.raw (.int .i64 0)))) []
    | _ => False)
  | [.one (.ref 0)] => (match st with
    | [some (.abs w 0 D)] => k (.sa (.one (.raw (.int .i64 ((D.sh.length : Nat) : Int))))) [some (.abs w 0 D)]
    | _ => False)
  | _ => False
def sTCount : SumT := fun args st k => match args with
  | [.one (.raw (.pointer none)), .one (.raw (.int .i64 s))] => (match st with
    | [] => k (.sa (.one (.raw (.int .i64 0)))) []
    | _ => False)
  | [.one (.ref 0), .one (.raw (.int .i64 s))] => (match st with
    | [some (.abs w 0 D)] => k (.sa (.one (.raw (.int .i64 (cntT D s))))) [some (.abs w 0 D)]
    | _ => False)
  | _ => False
def sTGet : SumT := fun args st k => match args with
  | [.one (.raw (.pointer none)), .agg [.raw (.int .u32 p), .raw (.int .u16 f), .raw (.int .u16 g)]] => (match st with
    | [] => k (.tup [.one (.raw (.int .i64 0)), .one (.raw (.bool false))]) []
    | _ => False)
  | [.one (.ref 0), .agg [.raw (.int .u32 p), .raw (.int .u16 f), .raw (.int .u16 g)]] => (match st with
    | [some (.abs w 0 D)] => k (.tup [.one (.raw (.int .i64 (getI D p f g))), .one (.raw (.bool (getB D p f g)))]) [some (.abs w 0 D)]
    | _ => False)
  | _ => False
def sTDrop : SumT := fun args st k => match args with
  | [.one (.raw (.pointer none)), .agg [.raw (.int .u32 p), .raw (.int .u16 f), .raw (.int .u16 g)]] => (match st with
    | [] => k (.sa (.one (.raw (.bool false)))) []
    | _ => False)
  | [.one (.ref 0), .agg [.raw (.int .u32 p), .raw (.int .u16 f), .raw (.int .u16 g)]] => (match st with
    | [some (.abs true 0 D)] => k (.sa (.one (.raw (.bool (getB D p f g))))) [some (.abs true 0 (setT D (p, f, g) none))]
    | _ => False)
  | _ => False
def sTPut : SumT := fun args st k => match args with
  | [.one (.raw (.pointer none)), .agg [.raw (.int .u32 p), .raw (.int .u16 f), .raw (.int .u16 g)], .one (.raw (.int .i64 u))] => (match st with
    | [] => k (.tup []) []
    | _ => False)
  | [.one (.ref 0), .agg [.raw (.int .u32 p), .raw (.int .u16 f), .raw (.int .u16 g)], .one (.raw (.int .i64 u))] => (match st with
    | [some (.abs true 0 D)] => k (.tup []) [some (.abs true 0 (setT D (p, f, g) (some u)))]
    | _ => False)
  | _ => False
end Go.Ev
end
section
namespace Go.Ev
open Go Go.Spec
theorem perm_lift {A B : Type} {f : A → B} {l m : List B} (h : l.Perm m) : ∀ {a : List A}, m = a.map f → ∃ a' : List A, a'.Perm a ∧ a'.map f = l := by
  induction h with
  | nil => intro a e; exact ⟨[], by cases a with | nil => exact .nil | cons x r => (cases e), rfl⟩
  | cons x _ ih =>
    intro a e
    cases a with
    | nil => cases e
    | cons y r =>
      simp only [List.map_cons, List.cons.injEq] at e
      obtain ⟨a', h1, h2⟩ := ih e.2
      exact ⟨y :: a', h1.cons y, by simp [h2, e.1]⟩
  | swap x y t =>
    intro a e
    match a, e with
    | u :: v :: r, e =>
      simp only [List.map_cons, List.cons.injEq] at e
      exact ⟨v :: u :: r, .swap u v r, by simp [e]⟩
    | [], e => cases e
    | [_], e => simp at e
  | trans _ _ ih1 ih2 =>
    intro a e
    obtain ⟨a', h1, h2⟩ := ih2 e
    obtain ⟨a'', h3, h4⟩ := ih1 h2.symm
    exact ⟨a'', h3.trans h1, h4⟩
theorem map_one {A B : Type} {f : A → B} (hf : ∀ x y, f x = f y → x = y) : ∀ {a b : List A}, a.map f = b.map f → a = b
  | [], [], _ => rfl
  | x :: a, y :: b, h => by
    simp only [List.map_cons, List.cons.injEq] at h
    rw [hf x y h.1, map_one hf h.2]
  | [], _ :: _, h => by cases h
  | _ :: _, [], h => by cases h
def entV (e : Kx × Int) : Value × Value := (keyK e.1, Value.int .i64 e.2)
theorem entsV_eq {es : List (Kx × Int)} : entsV es = es.map entV := rfl
theorem keyK_inj {a b : Kx} (h : keyK a = keyK b) : a = b := by
  have := keyV_inj (kk := kK) (a := [a.1, a.2.1, a.2.2]) (b := [b.1, b.2.1, b.2.2]) rfl rfl h
  simp only [List.cons.injEq, and_true] at this
  exact Prod.ext this.1 (Prod.ext this.2.1 this.2.2)
theorem entV_inj {a b : Kx × Int} (h : entV a = entV b) : a = b := by
  simp only [entV, Prod.mk.injEq, Value.int.injEq, true_and] at h
  exact Prod.ext (keyK_inj h.1) h.2
def ke (k : Kx) (o : Option Int) (b : Nat) : VE := ⟨[k.1, k.2.1, k.2.2], o.map fun v => .one (.raw (.int .i64 v)), b⟩
theorem told_ps {α : Al} {k : Kx} {o : Option Int} {b : Nat} {ps : List MapEntry} (h : VesRep α kK [ke k o b] ps) : entsM ps = entsV (told k o) := by
  cases o with
  | none => rw [show ps = [] from h]; rfl
  | some v =>
    obtain ⟨p, r, rfl, h1, _, h2, h3⟩ := h
    rw [show r = [] from h3]
    simp only [entsM, entsV, told, List.map_cons, List.map_nil, Option.toList]
    rw [h1]
    simp only [SA.rep, SC.val?, Option.some.injEq] at h2
    rw [← h2]; rfl
theorem rest_perm {α : Al} {k : Kx} {o : Option Int} {b cl : Nat} {rs xs ps : List MapEntry} {old : List (Kx × Int)} (m : MvOk α kK [ke k o b] rs xs ps cl) (h : (entsM xs).Perm (entsV old)) :
    ∃ rest, old.Perm (told k o ++ rest) ∧ entsM rs = entsV rest ∧ ∀ e ∈ rest, e.1 ≠ k := by
  have h1 : (entsM xs).Perm (entsV (told k o) ++ entsM rs) := by
    have := m.perm.map (fun x : MapEntry => (x.key, x.val))
    rw [List.map_append] at this
    rw [← told_ps m.rep]; exact this
  obtain ⟨a', h2, h3⟩ := perm_lift (f := entV) (h1.symm.trans h) rfl
  obtain ⟨a1, a2, rfl, h4, h5⟩ := List.map_eq_append_iff.1 h3
  have e1 : a1 = told k o := by
    refine map_one (f := entV) (fun x y hxy => entV_inj hxy) ?_
    rw [h4]; rfl
  subst e1
  refine ⟨a2, h2.symm, h5.symm, fun e he hk => ?_⟩
  have : entV e ∈ entsM rs := by rw [← h5]; exact List.mem_map_of_mem he
  obtain ⟨x, hx, hxe⟩ := List.mem_map.1 this
  have hkey : x.key = keyK e.1 := congrArg Prod.fst hxe
  exact m.off (ke k o b) (by simp) x hx (by rw [hkey, hk]; rfl)
theorem setS_perm {l rest : List (Kx × Int)} {k : Kx} {o o' : Option Int} (h : l.Perm (told k o ++ rest)) (hr : ∀ e ∈ rest, e.1 ≠ k) : (setS l k o').Perm (told k o' ++ rest) := by
  have h1 : (l.filter fun e => !decide (e.1 = k)).Perm rest := by
    refine (h.filter _).trans ?_
    rw [List.filter_append]
    have t0 : (told k o).filter (fun e => !decide (e.1 = k)) = [] := by cases o <;> simp [told]
    have t1 : rest.filter (fun e => !decide (e.1 = k)) = rest := List.filter_eq_self.2 fun e he => by simpa using hr e he
    rw [t0, t1]; exact .refl _
  exact (h1.append_right _).trans List.perm_append_comm
theorem new_perm {α α' : Al} {k : Kx} {o o' : Option Int} {b b' cl cl' : Nat} {rs xs ps xs' ps' : List MapEntry} {old : List (Kx × Int)} (m : MvOk α kK [ke k o b] rs xs ps cl) (m' : MvOk α' kK [ke k o' b'] rs xs' ps' cl') (h : (entsM xs).Perm (entsV old)) :
    (entsM xs').Perm (entsV (setS old k o')) := by
  obtain ⟨rest, h1, h2, h3⟩ := rest_perm m h
  have h4 : (entsM xs').Perm (entsV (told k o') ++ entsM rs) := by
    have := m'.perm.map (fun x : MapEntry => (x.key, x.val))
    rw [List.map_append] at this
    rw [← told_ps m'.rep]; exact this
  rw [h2] at h4
  refine h4.trans ?_
  have := (setS_perm (o' := o') h1 h3).map entV
  rw [List.map_append] at this
  exact this.symm
end Go.Ev
end
section
namespace Go.Ev
open Go Go.Spec
structure TSplit (α : Al) (D : AD) (w : World) (wb ww : Bool) (i : Nat) (es : List VE) (α0 : Al) (n : Nat) (vs : List Value) (rs : List MapEntry) (cl : Nat) : Prop where
  hR0 : R α [some (.abs wb 0 D)] w
  ex : ∃ d b0 rb ro rc bs ms bi m ps, α 0 = some d ∧ d = tbDen b0 ∧ TbOk D w b0 rb ro rc bs ms ∧ bs[i]? = some bi ∧ ms[i]? = some m ∧ α0 = tbAl b0 rb ro rc bs.length bi ∧ MvOk α0 kK es rs m.1 ps m.2 ∧ n = bs.length ∧ vs = mapVs bs ∧ cl = m.2
section
variable {α α0 : Al} {D : AD} {w : World} {wb ww : Bool} {i n cl : Nat} {es : List VE} {vs : List Value} {rs : List MapEntry}
theorem TSplit.R (h : TSplit α D w wb ww i es α0 n vs rs cl) : Go.Ev.R α0 (tbSt ww n vs i es rs cl) w := by
  obtain ⟨d, b0, rb, ro, rc, bs, ms, bi, m, ps, hd, hv, hk, hb, hm, rfl, mv, rfl, rfl, rfl⟩ := h.ex
  exact tb_R hk.hp hb hm mv hk.dist
theorem TSplit.arg (h : TSplit α D w wb ww i es α0 n vs rs cl) {v : Value} (hv : (SA.one (.ref 0)).rep α v) : (SA.one (.ptr 0 0 0)).rep α0 v := by
  obtain ⟨d, b0, rb, ro, rc, bs, ms, bi, m, ps, hd, hvv, hk, hb, hm, rfl, _⟩ := h.ex
  simp only [SA.rep, SC.val?, hd, Option.some.injEq] at hv
  rw [← hv, hvv]
  rfl
theorem TSplit.fin {k : Kx} {o o' : Option Int} {b b' cl' h' : Nat} {α' : Al} {st' : St} {w' : World} (h : TSplit α D w true true i [ke k o b] α0 n vs rs cl)
    (hto : To α0 (tbSt true n vs i [ke k o b] rs cl) w α' st' w') (g0 : st'.get 0 = some (tbObj true)) (g1 : st'.get 1 = some (tbRow true n vs i)) (g2 : st'.get 2 = some (.mv true kK [ke k o' b'] rs cl' h')) :
    To α [some (.abs true 0 D)] w α [some (.abs true 0 (tbSet D i k o'))] w' := by
  have hR0 := h.hR0
  obtain ⟨d, b0, rb, ro, rc, bs, ms, bi, m, ps, hd, hv, hk, hb, hm, rfl, mv, rfl, rfl, rfl⟩ := h.ex
  have a0 : α' 0 = some ⟨b0.1, b0.2, 1, 1, .pointer (some ⟨b0.1, b0.2, none⟩), true⟩ := hto.ext 0 (by simp [tbSt])
  have a1 : α' 1 = some ⟨rb, ro, 1, rc, .slice (some ⟨rb, ro, none⟩) bs.length rc, true⟩ := hto.ext 1 (by simp [tbSt])
  have a2 : α' 2 = some (mapDen bi) := hto.ext 2 (by simp [tbSt])
  have hbm : bi ∈ bs := List.mem_of_getElem? hb
  have hil : i < bs.length := (List.getElem?_eq_some_iff.1 hb).1
  have hwr : ∀ x, Wr (tbAl b0 rb ro rc bs.length bi) (tbSt true bs.length (mapVs bs) i [ke k o b] rs m.2) w x → x = b0.1 ∨ x = rb ∨ x = bi := by
    rintro x ⟨o, so, e, u1, u2, _, u3⟩
    rcases tbSt_get u1 with ⟨rfl, rfl⟩ | ⟨rfl, rfl⟩ | ⟨rfl, rfl⟩
    · cases u2; exact .inl ((flat_tb w _ x).1 u3)
    · cases u2; exact .inr (.inl ((flat_row w _ x).1 u3))
    · cases u2; exact .inr (.inr ((flat_mv w _ x).1 u3))
  obtain ⟨q2, hq2, _, xs', ps', y2, z2⟩ := hto.rep.good 2 _ g2
  rw [a2] at hq2; cases hq2
  have hdist := hk.dist
  simp only [tbBlks, List.nodup_cons, List.mem_cons, not_or] at hdist
  obtain ⟨⟨n1, n2⟩, n3, n4⟩ := hdist
  have hother : ∀ j bj, bs[j]? = some bj → j ≠ i → w'.heap[bj]? = w.heap[bj]? := fun j bj hj hne => by
    have hjm : bj ∈ bs := List.mem_of_getElem? hj
    refine hto.kept bj (hk.lt (by simp [tbBlks, hjm])) fun hw => ?_
    rcases hwr bj hw with e | e | e
    · exact n2 (e ▸ hjm)
    · exact n3 (e ▸ hjm)
    · refine hne ?_
      have h1 := (List.getElem?_eq_some_iff.1 hj)
      have h2 := (List.getElem?_eq_some_iff.1 hb)
      obtain ⟨l1, e1⟩ := h1
      obtain ⟨l2, e2⟩ := h2
      refine Decidable.byContradiction fun hne => ?_
      rcases Nat.lt_or_gt_of_ne hne with hlt | hlt
      · exact List.pairwise_iff_getElem.1 n4 j i l1 l2 hlt (by rw [e1, e2, e])
      · exact List.pairwise_iff_getElem.1 n4 i j l2 l1 hlt (by rw [e1, e2, e])
  have hheap : TbHeap w' b0 rb ro rc bs (ms.set i (xs', cl')) := by
    refine ⟨?_, ?_, by simp [hk.hp.h2], fun j bj mj hj hmj => ?_⟩
    · obtain ⟨q0, hq0, _, _, cs, fz, u1, u2, u3, _, _, u4⟩ := hto.rep.good 0 _ g0
      rw [a0] at hq0; cases hq0
      obtain ⟨_, u5⟩ := u4 0 (by simp [Ct.len])
      have hfz : fz = (0, 0) := by
        rcases u2.2 with h | ⟨h, _⟩
        · exact h
        · cases h
      obtain ⟨v, v1, v2, _⟩ := u5 0 (.ref 1) (by simp [Ct.get])
      simp only [CellOk, SC.val?, a1, Option.some.injEq] at v1
      rw [hfz] at u1
      exact ⟨cs, u1, by simp only [Nat.one_mul] at u3; omega, u2.1, by rw [v1]; simpa using v2⟩
    · obtain ⟨q1, hq1, _, _, ⟨u0, _⟩ | ⟨_, _, u1, cs, fz, u2, u3, u4, u5⟩⟩ := hto.rep.good 1 _ g1
      · rw [a1] at hq1; cases hq1; cases u0
      · rw [a1] at hq1; cases hq1
        refine ⟨cs, fz, u2, ⟨u3.1, u3.2.imp id fun x => x.2⟩, by simpa using u4, u1, fun j bj hj => ?_⟩
        have hjl : j < bs.length := (List.getElem?_eq_some_iff.1 hj).1
        obtain ⟨_, u6⟩ := u5 j hjl
        rw [Ct.at1_get] at u6
        by_cases hji : j = i
        · rw [if_pos hji] at u6
          subst hji
          obtain ⟨v, v1, v2, _⟩ := u6 0 (.ref 2) (by simp)
          simp only [CellOk, SC.val?, a2, Option.some.injEq, mapDen] at v1
          rw [hb] at hj; cases hj
          rw [v1]; simpa using v2
        · rw [if_neg hji] at u6
          obtain ⟨v, v1, v2, _⟩ := u6 0 (.raw (getL (.bool false) (mapVs bs) j)) (by simp)
          simp only [CellOk, SC.val?, Option.some.injEq] at v1
          have hvv : getL (Value.bool false) (mapVs bs) j = .map (some bj) := by rw [getL_eq, mapVs, List.getElem?_map, hj]; rfl
          rw [hvv] at v1
          rw [v1]; simpa using v2
    · by_cases hji : j = i
      · subst hji
        rw [hb] at hj; cases hj
        rw [List.getElem?_set_self (by rw [hk.hp.h2]; exact hil)] at hmj
        cases hmj; exact y2
      · rw [List.getElem?_set_ne (Ne.symm hji)] at hmj
        rw [hother j bj hj hji]
        exact hk.hp.h3 j bj mj hj hmj
  have hgood : TbOk (tbSet D i k o') w' b0 rb ro rc bs (ms.set i (xs', cl')) := by
    refine ⟨hheap, by simp [tbSet, hk.len], hk.pos, fun x hx => ?_, fun j mj ej hmj hej => ?_, hk.dist⟩
    · rcases List.mem_or_eq_of_mem_set hx with hx | rfl
      · exact hk.mok x hx
      · exact z2.mok
    · by_cases hji : j = i
      · subst hji
        rw [List.getElem?_set_self (by rw [hk.hp.h2]; exact hil)] at hmj
        cases hmj
        simp only [tbSet] at hej
        rw [List.getElem?_set_self (by rw [hk.len]; exact hil)] at hej
        cases hej
        have hil2 : j < D.sh.length := by rw [hk.len]; exact hil
        have hs : D.sh[j]? = some (D.sh.getD j []) := by rw [List.getD_eq_getElem?_getD, List.getElem?_eq_getElem hil2]; rfl
        exact new_perm mv z2 (hk.ent j m _ hm hs)
      · rw [List.getElem?_set_ne (Ne.symm hji)] at hmj
        simp only [tbSet] at hej
        rw [List.getElem?_set_ne (Ne.symm hji)] at hej
        exact hk.ent j mj ej hmj hej
  have hget : ∀ o so, St.get [some (.abs true 0 (tbSet D i k o'))] o = some so → o = 0 ∧ so = .abs true 0 (tbSet D i k o') := by
    intro o so h
    cases o with
    | zero => simp [St.get_eq] at h; exact ⟨rfl, h.symm⟩
    | succ n => simp [St.get_eq] at h
  have hold : ∀ x, x ∈ tbBlks b0 rb bs → Wr α [some (.abs true 0 D)] w x := fun x hx => ⟨0, _, d, rfl, hd, rfl, (absLies_iff (D := D) hv hk.hp).2 hx⟩
  have hg' : absGood 0 (tbSet D i k o') w' d := ⟨b0, rb, ro, rc, bs, _, hv, hgood⟩
  refine ⟨⟨fun o so h => ?_, fun o o2 so so2 dd dd' x hne h h2 _ _ _ _ _ => ?_, fun o so dd x h _ _ _ hi => ?_, fun o ho => hR0.none o ho, hR0.cell⟩, fun _ _ => rfl, Nat.le_refl _, fun o so dd x h h2 h3 h4 => ?_, fun o so dd x h _ _ hi => ?_, fun x hx hw => ?_, fun x hx hnw => ?_, hto.size, hto.tape, hto.os, hto.output⟩
  · obtain ⟨rfl, rfl⟩ := hget o so h
    exact ⟨d, hd, hg'⟩
  · obtain ⟨rfl, rfl⟩ := hget o so h
    obtain ⟨rfl, rfl⟩ := hget o2 so2 h2
    exact absurd rfl hne
  · obtain ⟨rfl, rfl⟩ := hget o so h
    exact hi
  · obtain ⟨rfl, rfl⟩ := hget o so h
    rw [hd] at h2; cases h2
    exact .inl (hold x ((absLies_iff (D := tbSet D i k o') hv hheap).1 h4))
  · obtain ⟨rfl, rfl⟩ := hget o so h
    exact hi.elim
  · obtain ⟨o, so, dd, h, h2, _, h4⟩ := hw
    obtain ⟨rfl, rfl⟩ := hget o so h
    rw [hd] at h2; cases h2
    exact hold x ((absLies_iff (D := tbSet D i k o') hv hheap).1 h4)
  · refine hto.kept x hx fun hw => hnw (hold x ?_)
    rcases hwr x hw with rfl | rfl | rfl
    · simp [tbBlks]
    · simp [tbBlks]
    · simp [tbBlks, hbm]
end
end Go.Ev
end
section
namespace Go.Ev
open Go Go.Spec
section
variable {α α0 : Al} {D : AD} {w : World} {wb ww : Bool} {i n cl : Nat} {es : List VE} {vs : List Value} {rs : List MapEntry}
theorem TSplit.nowr (h : TSplit α D w wb false i es α0 n vs rs cl) : ∀ b, ¬ Wr α0 (tbSt false n vs i es rs cl) w b := by
  rintro b ⟨o, so, e, u1, u2, u3, _⟩
  rcases tbSt_get u1 with ⟨rfl, rfl⟩ | ⟨rfl, rfl⟩ | ⟨rfl, rfl⟩ <;> cases u3
theorem TSplit.kept {α' : Al} {st' : St} {w' : World} (h : TSplit α D w wb false i es α0 n vs rs cl)
    (hto : To α0 (tbSt false n vs i es rs cl) w α' st' w') : ∀ b, b < w.heap.size → w'.heap[b]? = w.heap[b]? := fun b hb => hto.kept b hb (h.nowr b)
theorem TSplit.same {α' : Al} {st' : St} {w' : World} (h : TSplit α D w wb false i es α0 n vs rs cl)
    (hto : To α0 (tbSt false n vs i es rs cl) w α' st' w') : To α [some (.abs wb 0 D)] w α [some (.abs wb 0 D)] w' := by
  have hkept := h.kept hto
  obtain ⟨d, b0, rb, ro, rc, bs, ms, bi, m, ps, hd, hv, hk, hb, hm, rfl, mv, rfl, rfl, rfl⟩ := h.ex
  have hg : absGood 0 D w d := ⟨b0, rb, ro, rc, bs, ms, hv, hk⟩
  have hg' : absGood 0 D w' d := absGood_congr (t := 0) hg (fun b hb => hkept b (absLies_lt (t := 0) hg hb)) hto.size
  have hll : ∀ b, absLies 0 D w' d b → absLies 0 D w d b := fun b hb => absLies_congr (t := 0) hg (fun b hb => hkept b (absLies_lt (t := 0) hg hb)) hb
  have hget : ∀ o so, St.get [some (.abs wb 0 D)] o = some so → o = 0 ∧ so = .abs wb 0 D := by
    intro o so h
    cases o with
    | zero => simp [St.get_eq] at h; exact ⟨rfl, h.symm⟩
    | succ n => simp [St.get_eq] at h
  refine ⟨⟨fun o so ho => ?_, fun o o' so so' dd dd' b hne ho ho' _ _ _ _ _ => ?_, fun o so dd b ho _ _ _ hi => ?_, fun o ho => h.hR0.none o ho, h.hR0.cell⟩, fun _ _ => rfl, Nat.le_refl _, fun o so dd b ho h2 h3 h4 => ?_, fun o so dd b ho _ _ hi => ?_, fun b hb hw => ?_, fun b hb hnw => hkept b hb, hto.size, hto.tape, hto.os, hto.output⟩
  · obtain ⟨rfl, rfl⟩ := hget o so ho
    exact ⟨d, hd, hg'⟩
  · obtain ⟨rfl, rfl⟩ := hget o so ho
    obtain ⟨rfl, rfl⟩ := hget o' so' ho'
    exact absurd rfl hne
  · obtain ⟨rfl, rfl⟩ := hget o so ho
    exact hi
  · obtain ⟨rfl, rfl⟩ := hget o so ho
    rw [hd] at h2; cases h2
    exact .inr ⟨by simp, _, ho, hll b h4⟩
  · obtain ⟨rfl, rfl⟩ := hget o so ho
    exact hi.elim
  · obtain ⟨o, so, dd, ho, h2, h5, h4⟩ := hw
    obtain ⟨rfl, rfl⟩ := hget o so ho
    rw [hd] at h2; cases h2
    exact ⟨0, _, d, ho, hd, h5, hll b h4⟩
theorem mkTSplit (hR : R α [some (.abs wb 0 D)] w) (hi : i < D.sh.length) : ∃ α0 vs rs cl, TSplit α D w wb ww i [] α0 D.sh.length vs rs cl ∧ (entsM rs).Perm (entsV (D.sh.getD i [])) := by
  obtain ⟨d, hd, b0, rb, ro, rc, bs, ms, hv, hk⟩ := hR.good 0 _ rfl
  have hib : i < bs.length := by rw [← hk.len]; exact hi
  have him : i < ms.length := by rw [hk.hp.h2]; exact hib
  refine ⟨_, _, _, _, ⟨hR, d, b0, rb, ro, rc, bs, ms, bs[i], ms[i], [], hd, hv, hk, List.getElem?_eq_getElem hib, List.getElem?_eq_getElem him, rfl, MvOk.start (hk.mok _ (List.getElem_mem him)), hk.len, rfl, rfl⟩, ?_⟩
  refine hk.ent i _ _ (List.getElem?_eq_getElem him) ?_
  rw [List.getD_eq_getElem?_getD, List.getElem?_eq_getElem hi]; rfl
theorem mkTSplitK (hR : R α [some (.abs wb 0 D)] w) (hi : i < D.sh.length) (k : Kx) : ∃ α0 vs rs cl o b, TSplit α D w wb ww i [ke k o b] α0 D.sh.length vs rs cl ∧ (o = none → ∀ e ∈ D.sh.getD i [], e.1 ≠ k) ∧ (∀ v, o = some v → (k, v) ∈ D.sh.getD i []) := by
  obtain ⟨α0, vs, rs, cl, h, hp⟩ := mkTSplit (ww := ww) hR hi
  obtain ⟨d, b0, rb, ro, rc, bs, ms, bi, m, ps, hd, hv, hk, hb, hm, rfl, mv, hn, rfl, rfl⟩ := h.ex
  have hps : ps = [] := mv.rep
  subst hps
  rcases mv.tell (k := [k.1, k.2.1, k.2.2]) rfl (by simp) with ⟨hno, m2⟩ | ⟨x, rs', hx, hxk, hperm, htell⟩
  · refine ⟨_, _, _, _, none, 0, ⟨hR, d, b0, rb, ro, rc, bs, ms, bi, m, [], hd, hv, hk, hb, hm, rfl, m2, hn, rfl, rfl⟩, fun _ e he hek => ?_, fun v h => by cases h⟩
    have h1 : entV e ∈ entsV (D.sh.getD i []) := List.mem_map_of_mem he
    obtain ⟨y, hy, hye⟩ := List.mem_map.1 (hp.mem_iff.2 h1)
    refine hno y (mv.perm.mem_iff.2 (by simp [hy])) ?_
    have := congrArg Prod.fst hye
    simp only [entV] at this
    rw [this, hek]; rfl
  · have hxr : x ∈ rs := hperm.mem_iff.2 (by simp)
    have h1 : (x.key, x.val) ∈ entsV (D.sh.getD i []) := hp.mem_iff.1 (List.mem_map_of_mem (f := fun x : MapEntry => (x.key, x.val)) hxr)
    obtain ⟨e, he, hee⟩ := List.mem_map.1 h1
    simp only [Prod.mk.injEq] at hee
    have hek : e.1 = k := keyK_inj (hee.1.trans hxk)
    refine ⟨_, _, _, _, some e.2, x.born, ⟨hR, d, b0, rb, ro, rc, bs, ms, bi, m, _, hd, hv, hk, hb, hm, rfl, htell (.one (.raw (.int .i64 e.2))) (by simp only [SA.rep, SC.val?]; rw [← hee.2]), hn, rfl, rfl⟩, fun h => by (cases h), fun v hv => ?_⟩
    cases hv
    have : (k, e.2) = e := by rw [← hek]
    rw [this]; exact he
end
end Go.Ev
end
section
namespace Go.Ev
open Go Go.Proofs Go.Spec
theorem t_shard (p f g : Int) (k : SV → St → Prop) (n i cl : Nat) (vs : List Value) (rs : List MapEntry) : evCall cxT0 (ev cxT0 60) 17 [.one (.ptr 0 0 0), kA p f g] [tbO false, tbR false n vs i, mvK false [] rs cl] k =
    (need (Bool.not (decide ((((n : Nat) : Int) = (0))))) (k (.sa (.one (iv .i64 (remK (IntKind.wrap .i64 (shrK .u32 (addK .u32 (addK .u32 (mulK .u32 p (2654435761)) (mulK .u32 (IntKind.wrap .u32 f) (65599))) (mulK .u32 (IntKind.wrap .u32 g) (31))) (16))) ((n : Nat) : Int))))) [(some (SO.mem false MK.whole 62 1 (Ct.lst [[(SC.ref 1)]]))), (some (SO.own false MK.row 58 1 (Ct.at1 n vs i [(SC.ref 2)]))), (some (SO.mv false [.u32, .u16, .u16] [] rs cl 0))])) := by kernel_rfl
theorem t_shards (k : SV → St → Prop) (n i cl : Nat) (vs : List Value) (rs : List MapEntry) : evCall cxT0 (ev cxT0 60) 7 [.one (.ptr 0 0 0)] [tbO false, tbR false n vs i, mvK false [] rs cl] k =
    (k (.sa (.one (iv .i64 ((n : Nat) : Int)))) [(some (SO.mem false MK.whole 62 1 (Ct.lst [[(SC.ref 1)]]))), (some (SO.own false MK.row 58 1 (Ct.at1 n vs i [(SC.ref 2)]))), (some (SO.mv false [.u32, .u16, .u16] [] rs cl 0))]) := by kernel_rfl
theorem t_count (s : Int) (k : SV → St → Prop) (n i cl : Nat) (vs : List Value) (rs : List MapEntry) : evCall cxT0 (ev cxT0 60) 20 [.one (.ptr 0 0 0), .one (.raw (.int .i64 s))] [tbO false, tbR false n vs i, mvK false [] rs cl] k =
    (branch (decide ((s < (0)))) (k (.sa (.one (iv .i64 (0)))) [(some (SO.mem false MK.whole 62 1 (Ct.lst [[(SC.ref 1)]]))), (some (SO.own false MK.row 58 1 (Ct.at1 n vs i [(SC.ref 2)]))), (some (SO.mv false [.u32, .u16, .u16] [] rs cl 0))]) (branch (decide ((s ≥ ((n : Nat) : Int)))) (k (.sa (.one (iv .i64 (0)))) [(some (SO.mem false MK.whole 62 1 (Ct.lst [[(SC.ref 1)]]))), (some (SO.own false MK.row 58 1 (Ct.at1 n vs i [(SC.ref 2)]))), (some (SO.mv false [.u32, .u16, .u16] [] rs cl 0))]) (need (decide (((0) ≤ s))) (need (decide ((s < ((n : Nat) : Int)))) (need (decide (((0 + (Int.toNat s)) < n))) (need (decide (((0 + (Int.toNat s)) = i))) (k (.sa (.one (iv .i64 (((0 + (List.length rs)) : Nat) : Int)))) [(some (SO.mem false MK.whole 62 1 (Ct.lst [[(SC.ref 1)]]))), (some (SO.own false MK.row 58 1 (Ct.at1 n vs i [(SC.ref 2)]))), (some (SO.mv false [.u32, .u16, .u16] [] rs cl 0))]))))))) := by kernel_rfl
theorem t_get (p f g : Int) (o : Option Int) (k : SV → St → Prop) (n i b cl : Nat) (vs : List Value) (rs : List MapEntry) (v : Int) : evCall cxT1 (ev cxT1 60) 11 [.one (.ptr 0 0 0), kA p f g] [tbO false, tbR false n vs i, mvK false [⟨[p, f, g], some (.one (.raw (.int .i64 v))), b⟩] rs cl] k =
    (need (Bool.not (decide ((((n : Nat) : Int) = (0))))) (need (decide (((0) ≤ (remK (IntKind.wrap .i64 (shrK .u32 (addK .u32 (addK .u32 (mulK .u32 p (2654435761)) (mulK .u32 (IntKind.wrap .u32 f) (65599))) (mulK .u32 (IntKind.wrap .u32 g) (31))) (16))) ((n : Nat) : Int))))) (need (decide (((remK (IntKind.wrap .i64 (shrK .u32 (addK .u32 (addK .u32 (mulK .u32 p (2654435761)) (mulK .u32 (IntKind.wrap .u32 f) (65599))) (mulK .u32 (IntKind.wrap .u32 g) (31))) (16))) ((n : Nat) : Int)) < ((n : Nat) : Int)))) (need (decide (((0 + (Int.toNat (remK (IntKind.wrap .i64 (shrK .u32 (addK .u32 (addK .u32 (mulK .u32 p (2654435761)) (mulK .u32 (IntKind.wrap .u32 f) (65599))) (mulK .u32 (IntKind.wrap .u32 g) (31))) (16))) ((n : Nat) : Int)))) < n))) (need (decide (((0 + (Int.toNat (remK (IntKind.wrap .i64 (shrK .u32 (addK .u32 (addK .u32 (mulK .u32 p (2654435761)) (mulK .u32 (IntKind.wrap .u32 f) (65599))) (mulK .u32 (IntKind.wrap .u32 g) (31))) (16))) ((n : Nat) : Int)))) = i))) (need ((eqK p p) && ((eqK f f) && (eqK g g))) (k (.tup [(.one (iv .i64 v)), (.one (bv true))]) [(some (SO.mem false MK.whole 62 1 (Ct.lst [[(SC.ref 1)]]))), (some (SO.own false MK.row 58 1 (Ct.at1 n vs i [(SC.ref 2)]))), (some (SO.mv false [.u32, .u16, .u16] [(VE.mk [p, f, g] (some (.one (iv .i64 v))) b)] rs cl 0))]))))))) := by kernel_rfl
theorem t_getN (p f g : Int) (o : Option Int) (k : SV → St → Prop) (n i b cl : Nat) (vs : List Value) (rs : List MapEntry) : evCall cxT1 (ev cxT1 60) 11 [.one (.ptr 0 0 0), kA p f g] [tbO false, tbR false n vs i, mvK false [⟨[p, f, g], none, b⟩] rs cl] k =
    (need (Bool.not (decide ((((n : Nat) : Int) = (0))))) (need (decide (((0) ≤ (remK (IntKind.wrap .i64 (shrK .u32 (addK .u32 (addK .u32 (mulK .u32 p (2654435761)) (mulK .u32 (IntKind.wrap .u32 f) (65599))) (mulK .u32 (IntKind.wrap .u32 g) (31))) (16))) ((n : Nat) : Int))))) (need (decide (((remK (IntKind.wrap .i64 (shrK .u32 (addK .u32 (addK .u32 (mulK .u32 p (2654435761)) (mulK .u32 (IntKind.wrap .u32 f) (65599))) (mulK .u32 (IntKind.wrap .u32 g) (31))) (16))) ((n : Nat) : Int)) < ((n : Nat) : Int)))) (need (decide (((0 + (Int.toNat (remK (IntKind.wrap .i64 (shrK .u32 (addK .u32 (addK .u32 (mulK .u32 p (2654435761)) (mulK .u32 (IntKind.wrap .u32 f) (65599))) (mulK .u32 (IntKind.wrap .u32 g) (31))) (16))) ((n : Nat) : Int)))) < n))) (need (decide (((0 + (Int.toNat (remK (IntKind.wrap .i64 (shrK .u32 (addK .u32 (addK .u32 (mulK .u32 p (2654435761)) (mulK .u32 (IntKind.wrap .u32 f) (65599))) (mulK .u32 (IntKind.wrap .u32 g) (31))) (16))) ((n : Nat) : Int)))) = i))) (need ((eqK p p) && ((eqK f f) && (eqK g g))) (k (.tup [(.one (iv .i64 (0))), (.one (bv false))]) [(some (SO.mem false MK.whole 62 1 (Ct.lst [[(SC.ref 1)]]))), (some (SO.own false MK.row 58 1 (Ct.at1 n vs i [(SC.ref 2)]))), (some (SO.mv false [.u32, .u16, .u16] [(VE.mk [p, f, g] Option.none b)] rs cl 0))]))))))) := by kernel_rfl
theorem t_put (p f g u : Int) (k : SV → St → Prop) (n i b cl : Nat) (vs : List Value) (rs : List MapEntry) (v : Int) : evCall cxT1 (ev cxT1 60) 8 [.one (.ptr 0 0 0), kA p f g, .one (.raw (.int .i64 u))] [tbO true, tbR true n vs i, mvK true [⟨[p, f, g], some (.one (.raw (.int .i64 v))), b⟩] rs cl] k =
    (need (Bool.not (decide ((((n : Nat) : Int) = (0))))) (need (decide (((0) ≤ (remK (IntKind.wrap .i64 (shrK .u32 (addK .u32 (addK .u32 (mulK .u32 p (2654435761)) (mulK .u32 (IntKind.wrap .u32 f) (65599))) (mulK .u32 (IntKind.wrap .u32 g) (31))) (16))) ((n : Nat) : Int))))) (need (decide (((remK (IntKind.wrap .i64 (shrK .u32 (addK .u32 (addK .u32 (mulK .u32 p (2654435761)) (mulK .u32 (IntKind.wrap .u32 f) (65599))) (mulK .u32 (IntKind.wrap .u32 g) (31))) (16))) ((n : Nat) : Int)) < ((n : Nat) : Int)))) (need (decide (((0 + (Int.toNat (remK (IntKind.wrap .i64 (shrK .u32 (addK .u32 (addK .u32 (mulK .u32 p (2654435761)) (mulK .u32 (IntKind.wrap .u32 f) (65599))) (mulK .u32 (IntKind.wrap .u32 g) (31))) (16))) ((n : Nat) : Int)))) < n))) (need (decide (((0 + (Int.toNat (remK (IntKind.wrap .i64 (shrK .u32 (addK .u32 (addK .u32 (mulK .u32 p (2654435761)) (mulK .u32 (IntKind.wrap .u32 f) (65599))) (mulK .u32 (IntKind.wrap .u32 g) (31))) (16))) ((n : Nat) : Int)))) = i))) (need ((eqK p p) && ((eqK f f) && (eqK g g))) (k (.tup []) [(obj 62 1 [(SC.ref 1)]), (some (SO.own true MK.row 58 1 (Ct.at1 n vs i [(SC.ref 2)]))), (some (SO.mv true [.u32, .u16, .u16] [(VE.mk [p, f, g] (some (.one (iv .i64 u))) b)] rs cl 0))]))))))) := by kernel_rfl
theorem t_putN (p f g u : Int) (k : SV → St → Prop) (n i b cl : Nat) (vs : List Value) (rs : List MapEntry) : evCall cxT1 (ev cxT1 60) 8 [.one (.ptr 0 0 0), kA p f g, .one (.raw (.int .i64 u))] [tbO true, tbR true n vs i, mvK true [⟨[p, f, g], none, b⟩] rs cl] k =
    (need (Bool.not (decide ((((n : Nat) : Int) = (0))))) (need (decide (((0) ≤ (remK (IntKind.wrap .i64 (shrK .u32 (addK .u32 (addK .u32 (mulK .u32 p (2654435761)) (mulK .u32 (IntKind.wrap .u32 f) (65599))) (mulK .u32 (IntKind.wrap .u32 g) (31))) (16))) ((n : Nat) : Int))))) (need (decide (((remK (IntKind.wrap .i64 (shrK .u32 (addK .u32 (addK .u32 (mulK .u32 p (2654435761)) (mulK .u32 (IntKind.wrap .u32 f) (65599))) (mulK .u32 (IntKind.wrap .u32 g) (31))) (16))) ((n : Nat) : Int)) < ((n : Nat) : Int)))) (need (decide (((0 + (Int.toNat (remK (IntKind.wrap .i64 (shrK .u32 (addK .u32 (addK .u32 (mulK .u32 p (2654435761)) (mulK .u32 (IntKind.wrap .u32 f) (65599))) (mulK .u32 (IntKind.wrap .u32 g) (31))) (16))) ((n : Nat) : Int)))) < n))) (need (decide (((0 + (Int.toNat (remK (IntKind.wrap .i64 (shrK .u32 (addK .u32 (addK .u32 (mulK .u32 p (2654435761)) (mulK .u32 (IntKind.wrap .u32 f) (65599))) (mulK .u32 (IntKind.wrap .u32 g) (31))) (16))) ((n : Nat) : Int)))) = i))) (need ((eqK p p) && ((eqK f f) && (eqK g g))) (k (.tup []) [(obj 62 1 [(SC.ref 1)]), (some (SO.own true MK.row 58 1 (Ct.at1 n vs i [(SC.ref 2)]))), (some (SO.mv true [.u32, .u16, .u16] [(VE.mk [p, f, g] (some (.one (iv .i64 u))) cl)] rs (cl + 1) 0))]))))))) := by kernel_rfl
theorem t_drop (p f g : Int) (k : SV → St → Prop) (n i b cl : Nat) (vs : List Value) (rs : List MapEntry) (v : Int) : evCall cxT1 (ev cxT1 60) 13 [.one (.ptr 0 0 0), kA p f g] [tbO true, tbR true n vs i, mvK true [⟨[p, f, g], some (.one (.raw (.int .i64 v))), b⟩] rs cl] k =
    (need (Bool.not (decide ((((n : Nat) : Int) = (0))))) (need (decide (((0) ≤ (remK (IntKind.wrap .i64 (shrK .u32 (addK .u32 (addK .u32 (mulK .u32 p (2654435761)) (mulK .u32 (IntKind.wrap .u32 f) (65599))) (mulK .u32 (IntKind.wrap .u32 g) (31))) (16))) ((n : Nat) : Int))))) (need (decide (((remK (IntKind.wrap .i64 (shrK .u32 (addK .u32 (addK .u32 (mulK .u32 p (2654435761)) (mulK .u32 (IntKind.wrap .u32 f) (65599))) (mulK .u32 (IntKind.wrap .u32 g) (31))) (16))) ((n : Nat) : Int)) < ((n : Nat) : Int)))) (need (decide (((0 + (Int.toNat (remK (IntKind.wrap .i64 (shrK .u32 (addK .u32 (addK .u32 (mulK .u32 p (2654435761)) (mulK .u32 (IntKind.wrap .u32 f) (65599))) (mulK .u32 (IntKind.wrap .u32 g) (31))) (16))) ((n : Nat) : Int)))) < n))) (need (decide (((0 + (Int.toNat (remK (IntKind.wrap .i64 (shrK .u32 (addK .u32 (addK .u32 (mulK .u32 p (2654435761)) (mulK .u32 (IntKind.wrap .u32 f) (65599))) (mulK .u32 (IntKind.wrap .u32 g) (31))) (16))) ((n : Nat) : Int)))) = i))) (need ((eqK p p) && ((eqK f f) && (eqK g g))) (need (Bool.not (decide ((((n : Nat) : Int) = (0))))) (need (decide (((0) ≤ (remK (IntKind.wrap .i64 (shrK .u32 (addK .u32 (addK .u32 (mulK .u32 p (2654435761)) (mulK .u32 (IntKind.wrap .u32 f) (65599))) (mulK .u32 (IntKind.wrap .u32 g) (31))) (16))) ((n : Nat) : Int))))) (need (decide (((remK (IntKind.wrap .i64 (shrK .u32 (addK .u32 (addK .u32 (mulK .u32 p (2654435761)) (mulK .u32 (IntKind.wrap .u32 f) (65599))) (mulK .u32 (IntKind.wrap .u32 g) (31))) (16))) ((n : Nat) : Int)) < ((n : Nat) : Int)))) (need (decide (((0 + (Int.toNat (remK (IntKind.wrap .i64 (shrK .u32 (addK .u32 (addK .u32 (mulK .u32 p (2654435761)) (mulK .u32 (IntKind.wrap .u32 f) (65599))) (mulK .u32 (IntKind.wrap .u32 g) (31))) (16))) ((n : Nat) : Int)))) < n))) (need (decide (((0 + (Int.toNat (remK (IntKind.wrap .i64 (shrK .u32 (addK .u32 (addK .u32 (mulK .u32 p (2654435761)) (mulK .u32 (IntKind.wrap .u32 f) (65599))) (mulK .u32 (IntKind.wrap .u32 g) (31))) (16))) ((n : Nat) : Int)))) = i))) (need ((eqK p p) && ((eqK f f) && (eqK g g))) (k (.sa (.one (bv true))) [(obj 62 1 [(SC.ref 1)]), (some (SO.own true MK.row 58 1 (Ct.at1 n vs i [(SC.ref 2)]))), (some (SO.mv true [.u32, .u16, .u16] [(VE.mk [p, f, g] Option.none b)] rs cl 0))]))))))))))))) := by kernel_rfl
theorem t_dropN (p f g : Int) (k : SV → St → Prop) (n i b cl : Nat) (vs : List Value) (rs : List MapEntry) : evCall cxT1 (ev cxT1 60) 13 [.one (.ptr 0 0 0), kA p f g] [tbO true, tbR true n vs i, mvK true [⟨[p, f, g], none, b⟩] rs cl] k =
    (need (Bool.not (decide ((((n : Nat) : Int) = (0))))) (need (decide (((0) ≤ (remK (IntKind.wrap .i64 (shrK .u32 (addK .u32 (addK .u32 (mulK .u32 p (2654435761)) (mulK .u32 (IntKind.wrap .u32 f) (65599))) (mulK .u32 (IntKind.wrap .u32 g) (31))) (16))) ((n : Nat) : Int))))) (need (decide (((remK (IntKind.wrap .i64 (shrK .u32 (addK .u32 (addK .u32 (mulK .u32 p (2654435761)) (mulK .u32 (IntKind.wrap .u32 f) (65599))) (mulK .u32 (IntKind.wrap .u32 g) (31))) (16))) ((n : Nat) : Int)) < ((n : Nat) : Int)))) (need (decide (((0 + (Int.toNat (remK (IntKind.wrap .i64 (shrK .u32 (addK .u32 (addK .u32 (mulK .u32 p (2654435761)) (mulK .u32 (IntKind.wrap .u32 f) (65599))) (mulK .u32 (IntKind.wrap .u32 g) (31))) (16))) ((n : Nat) : Int)))) < n))) (need (decide (((0 + (Int.toNat (remK (IntKind.wrap .i64 (shrK .u32 (addK .u32 (addK .u32 (mulK .u32 p (2654435761)) (mulK .u32 (IntKind.wrap .u32 f) (65599))) (mulK .u32 (IntKind.wrap .u32 g) (31))) (16))) ((n : Nat) : Int)))) = i))) (need ((eqK p p) && ((eqK f f) && (eqK g g))) (k (.sa (.one (bv false))) [(obj 62 1 [(SC.ref 1)]), (some (SO.own true MK.row 58 1 (Ct.at1 n vs i [(SC.ref 2)]))), (some (SO.mv true [.u32, .u16, .u16] [(VE.mk [p, f, g] Option.none b)] rs cl 0))]))))))) := by kernel_rfl
end Go.Ev
end
section
namespace Go.Ev
open Go Go.Proofs Go.Spec
theorem t_shard0 (p f g : Int) (k : SV → St → Prop) : evCall cxT0 (ev cxT0 60) 17 [.one (.raw (.pointer none)), kA p f g] [] k =
    (k (.sa (.one (iv .i64 (0)))) []) := by kernel_rfl
theorem t_shards0 (k : SV → St → Prop) : evCall cxT0 (ev cxT0 60) 7 [.one (.raw (.pointer none))] [] k =
    (k (.sa (.one (iv .i64 (0)))) []) := by kernel_rfl
theorem t_count0 (s : Int) (k : SV → St → Prop) : evCall cxT0 (ev cxT0 60) 20 [.one (.raw (.pointer none)), .one (.raw (.int .i64 s))] [] k =
    (branch (decide ((s < (0)))) (k (.sa (.one (iv .i64 (0)))) []) (branch (decide ((s ≥ (0)))) (k (.sa (.one (iv .i64 (0)))) []) False)) := by kernel_rfl
theorem t_get0 (p f g : Int) (k : SV → St → Prop) : evCall cxT1 (ev cxT1 60) 11 [.one (.raw (.pointer none)), kA p f g] [] k =
    (k (.tup [(.one (iv .i64 (0))), (.one (bv false))]) []) := by kernel_rfl
theorem t_drop0 (p f g : Int) (k : SV → St → Prop) : evCall cxT1 (ev cxT1 60) 13 [.one (.raw (.pointer none)), kA p f g] [] k =
    (k (.sa (.one (bv false))) []) := by kernel_rfl
theorem t_put0 (p f g u : Int) (k : SV → St → Prop) : evCall cxT1 (ev cxT1 60) 8 [.one (.raw (.pointer none)), kA p f g, .one (.raw (.int .i64 u))] [] k =
    (k (.tup []) []) := by kernel_rfl
end Go.Ev
end
section
namespace Go.Ev
open Go Go.Proofs Go.Spec
attribute [local irreducible] ev evCall branch need again
theorem namesT : namesB Try.prog = true := by kernel_rfl
theorem mixedT : Try.prog.follows .mixedOrders = true := by kernel_rfl
theorem cxT0_ok : CxOk Try.prog cxT0 := mkCx_ok namesT mixedT (by simp)
theorem cxT1_ok : CxOk Try.prog cxT1 := mkCx_ok namesT mixedT (by simp)
def FinT (n : Nat) (vs : List Value) (i : Nat) (k : Kx) (o' : Option Int) (rs : List MapEntry) (V : SV) (v : SV) (st : St) : Prop :=
  v = V ∧ st.get 0 = some (tbObj true) ∧ st.get 1 = some (tbRow true n vs i) ∧ ∃ b' cl' h', st.get 2 = some (.mv true kK [ke k o' b'] rs cl' h')
theorem tb_call {cx : Cx} (hx : CxOk Try.prog cx) {N : Nat} {g : FuncId} {α α0 : Al} {i n cl b : Nat} {D : AD} {w : World} {vs : List Value} {rs : List MapEntry} {k : Kx} {o o' : Option Int}
    (hS : TSplit α D w true true i [ke k o b] α0 n vs rs cl) {a : List SA} {vals : List Value} (hv : RepsA α (.one (.ref 0) :: a) vals) (ha : ∀ vs, RepsA α a vs → RepsA α0 a vs) {V : SV} (hV : ∀ β val, SV.rep β V val → SV.rep α V val)
    {K : SV → St → Prop} (hk : K V [some (.abs true 0 (tbSet D i k o'))])
    (hT : evCall cx (ev cx N) g (.one (.ptr 0 0 0) :: a) (tbSt true n vs i [ke k o b] rs cl) (FinT n vs i k o' rs V)) (hb : g < big := by decide) :
    CallsIn Fence.wide 0 Try.prog g vals.toArray w (CallPost α [some (.abs true 0 D)] w K) := by
  have hC : CallOk Try.prog (evCall cx (ev cx N)) := evCall_ok (run := ev cx N) hx (ev_sound hx N).1
  match vals, hv with
  | v0 :: vs', ⟨h0, h1⟩ =>
    refine ((hC.1 g _ _ _ hb hT).2 α0 w (v0 :: vs') hS.R ⟨hS.arg h0, ha vs' h1⟩).mono fun e w' ⟨v, st', α', val, he, hv, ⟨hvV, g0, g1, b', cl', h', g2⟩, hto⟩ => ?_
    subst hvV
    exact ⟨v, _, α, val, he, hV _ _ hv, hk, hS.fin hto g0 g1 g2⟩
theorem tb_look {cx : Cx} (hx : CxOk Try.prog cx) {N : Nat} {g : FuncId} {α α0 : Al} {i n cl : Nat} {D : AD} {w : World} {wb : Bool} {vs : List Value} {rs : List MapEntry} {es : List VE}
    (hS : TSplit α D w wb false i es α0 n vs rs cl) {a : List SA} {vals : List Value} (hv : RepsA α (.one (.ref 0) :: a) vals) (ha : ∀ vs, RepsA α a vs → RepsA α0 a vs) {V : SV} (hV : ∀ β val, SV.rep β V val → SV.rep α V val)
    {K : SV → St → Prop} (hk : K V [some (.abs wb 0 D)])
    (hT : evCall cx (ev cx N) g (.one (.ptr 0 0 0) :: a) (tbSt false n vs i es rs cl) (fun v _ => v = V)) (hb : g < big := by decide) :
    CallsIn Fence.wide 0 Try.prog g vals.toArray w (CallPost α [some (.abs wb 0 D)] w K) := by
  have hC : CallOk Try.prog (evCall cx (ev cx N)) := evCall_ok (run := ev cx N) hx (ev_sound hx N).1
  match vals, hv with
  | v0 :: vs', ⟨h0, h1⟩ =>
    refine ((hC.1 g _ _ _ hb hT).2 α0 w (v0 :: vs') hS.R ⟨hS.arg h0, ha vs' h1⟩).mono fun e w' ⟨v, st', α', val, he, hv, hvV, hto⟩ => ?_
    subst hvV
    exact ⟨v, _, α, val, he, hV _ _ hv, hk, hS.same hto⟩
theorem repsA_k {α β : Al} {p f g : Int} : ∀ vs, RepsA α [kA p f g] vs → RepsA β [kA p f g] vs
  | [a], ⟨⟨us, h2, h3⟩, _⟩ => by
    match us, h2 with
    | [u, v, x], ⟨g1, g2, g3, _⟩ => exact ⟨⟨[u, v, x], ⟨g1, g2, g3, trivial⟩, h3⟩, trivial⟩
  | [], h => h.elim
  | _ :: _ :: _, h => h.2.elim
end Go.Ev
end
section
namespace Go.Spec
open Go Go.Ev
end Go.Spec
namespace Go.Ev
open Go Go.Proofs Go.Spec
theorem look_one {l : List (Kx × Int)} {k : Kx} {v : Int} (hn : (l.map (·.1)).Nodup) (h : (k, v) ∈ l) : lookS l k = some v := by
  induction l with
  | nil => cases h
  | cons x r ih =>
    simp only [List.map_cons, List.nodup_cons] at hn
    unfold lookS
    by_cases hx : x.1 = k
    · rw [List.find?_cons_of_pos (by simpa using hx)]
      rcases List.mem_cons.1 h with rfl | h
      · rfl
      · exact (hn.1 (by rw [hx]; exact List.mem_map_of_mem (f := (·.1)) h)).elim
    · rw [List.find?_cons_of_neg (by simpa using hx)]
      rcases List.mem_cons.1 h with rfl | h
      · exact (hx rfl).elim
      · exact ih hn.2 h
theorem look_none {l : List (Kx × Int)} {k : Kx} (h : ∀ e ∈ l, e.1 ≠ k) : lookS l k = none := by
  unfold lookS
  rw [List.find?_eq_none.2 fun e he => by simpa using h e he]; rfl
theorem sh_nodup {D : AD} {w : World} {b0 : Nat × Nat} {rb ro rc : Nat} {bs : List Nat} {ms : List (List MapEntry × Nat)} (hk : TbOk D w b0 rb ro rc bs ms) (i : Nat) : ((D.sh.getD i []).map (·.1)).Nodup := by
  by_cases hi : i < D.sh.length
  · have him : i < ms.length := by rw [hk.hp.h2, ← hk.len]; exact hi
    have hp := hk.ent i _ (D.sh.getD i []) (List.getElem?_eq_getElem him) (by rw [List.getD_eq_getElem?_getD, List.getElem?_eq_getElem hi]; rfl)
    have ha := (hk.mok _ (List.getElem_mem him)).apart
    have h1 : (entsM (ms[i]).1).Pairwise (fun a b => a.1 ≠ b.1) := List.pairwise_map.2 ha
    have h2 := (hp.pairwise_iff (fun h => Ne.symm h)).1 h1
    have h3 := List.pairwise_map.1 h2
    exact List.pairwise_map.2 (h3.imp fun h e => h (by rw [e]))
  · rw [List.getD_eq_getElem?_getD, List.getElem?_eq_none (by omega)]; exact List.nodup_nil
theorem mkTSplitL {α : Al} {i : Nat} {D : AD} {w : World} {wb ww : Bool} (hR : R α [some (.abs wb 0 D)] w) (hi : i < D.sh.length) (k : Kx) : ∃ α0 vs rs cl b, TSplit α D w wb ww i [ke k (lookS (D.sh.getD i []) k) b] α0 D.sh.length vs rs cl := by
  obtain ⟨d, hd, b0, rb, ro, rc, bs, ms, hv, hk⟩ := hR.good 0 _ rfl
  have hn := sh_nodup hk i
  obtain ⟨α0, vs, rs, cl, o, b, h, h1, h2⟩ := mkTSplitK (ww := ww) hR hi k
  have : lookS (D.sh.getD i []) k = o := by
    cases o with
    | none => exact look_none (h1 rfl)
    | some v => exact look_one hn (h2 v rfl)
  rw [this]
  exact ⟨α0, vs, rs, cl, b, h⟩
end Go.Ev
end
section
namespace Go.Spec
open Go Go.Ev
theorem remK_eq' (x y : Int) : remK x y = x.tmod y := by simp only [remK, Ev.fI_eq]
theorem shI_in {n : Nat} (hn : 0 < n) (p f g : Int) : 0 ≤ shI n p f g ∧ shI n p f g < n := by
  unfold shI
  rw [remK_eq', shrK_eq]
  generalize ha : addK .u32 (addK .u32 (mulK .u32 p (2654435761)) (mulK .u32 (IntKind.wrap .u32 f) (65599))) (mulK .u32 (IntKind.wrap .u32 g) (31)) = a
  have h0 : 0 ≤ a ∧ a < 4294967296 := by rw [← ha, addK_eq, IntKind.wrap_u32]; omega
  have h1 : a.fdiv (2 ^ (min (16 : Int).toNat (IntKind.u32).bits)) = a / 65536 := by
    rw [show min (16 : Int).toNat (IntKind.u32).bits = 16 from rfl, Int.fdiv_eq_ediv_of_nonneg _ (by decide)]; rfl
  have h2 : IntKind.wrap .i64 (a / 65536) = a / 65536 := Go.IntWalk.i64_in _ (by omega)
  rw [h1, h2]
  have hnn : 0 ≤ a / 65536 := by omega
  rw [Int.tmod_eq_emod_of_nonneg hnn]
  exact ⟨Int.emod_nonneg _ (by omega), Int.emod_lt_of_pos _ (by omega)⟩
end Go.Spec
namespace Go.Ev
open Go Go.Proofs Go.Spec
attribute [local irreducible] ev evCall branch need again
theorem tb_pos {α : Al} {D : AD} {w : World} {wb : Bool} (hR : R α [some (.abs wb 0 D)] w) : 0 < D.sh.length := by
  obtain ⟨d, hd, b0, rb, ro, rc, bs, ms, hv, hk⟩ := hR.good 0 _ rfl
  rw [hk.len]; exact hk.pos
theorem n0 {n : Nat} {p : Prop} (h : 0 < n) (hp : p) : need (Bool.not (decide (((n : Nat) : Int) = 0))) p := by
  rw [decide_eq_false (by omega)]; exact need_iff.2 ⟨rfl, hp⟩
theorem ndk3 {a b c : Int} {p : Prop} (hp : p) : need ((eqK a a) && ((eqK b b) && (eqK c c))) p := by
  rw [eqK_t.2 rfl, eqK_t.2 rfl, eqK_t.2 rfl]; exact need_iff.2 ⟨rfl, hp⟩
theorem repsA_kv {α β : Al} {p f g u : Int} : ∀ vs, RepsA α [kA p f g, .one (.raw (.int .i64 u))] vs → RepsA β [kA p f g, .one (.raw (.int .i64 u))] vs
  | [a, b], ⟨⟨us, h2, h3⟩, h4, _⟩ => by
    match us, h2 with
    | [u, v, x], ⟨g1, g2, g3, _⟩ => exact ⟨⟨[u, v, x], ⟨g1, g2, g3, trivial⟩, h3⟩, h4, trivial⟩
  | [], h => h.elim
  | [_], h => h.2.elim
  | _ :: _ :: _ :: _, h => h.2.2.elim
theorem repT0 {α β : Al} : ∀ val, SV.rep β (.tup []) val → SV.rep α (.tup []) val := by
  rintro val ⟨vs, h, rfl⟩
  match vs, h with
  | [], _ => exact ⟨[], trivial, rfl⟩
  | _ :: _, h => exact h.elim
theorem repTV {α β : Al} {v : Int} {b : Bool} : ∀ val, SV.rep β (.tup [.one (.raw (.int .i64 v)), .one (.raw (.bool b))]) val → SV.rep α (.tup [.one (.raw (.int .i64 v)), .one (.raw (.bool b))]) val := by
  rintro val ⟨vs, h, rfl⟩
  match vs, h with
  | [u, v], ⟨h1, h2, _⟩ => exact ⟨[u, v], ⟨h1, h2, trivial⟩, rfl⟩
theorem put_call {α : Al} {w : World} {vals : List Value} {p f g u : Int} {D : AD} {k : SV → St → Prop} (hR : R α [some (.abs true 0 D)] w) (hv : RepsA α [.one (.ref 0), kA p f g, .one (.raw (.int .i64 u))] vals)
    (hk : k (.tup []) [some (.abs true 0 (setT D (p, f, g) (some u)))]) : CallsIn Fence.wide 0 Try.prog 8 vals.toArray w (CallPost α [some (.abs true 0 D)] w k) := by
  have hp := tb_pos hR
  obtain ⟨s1, s2⟩ := shI_in hp p f g
  have hi : shN D (p, f, g) < D.sh.length := by unfold shN; simp only; omega
  obtain ⟨α0, vs, rs, cl, b, hS⟩ := mkTSplitL (ww := true) hR hi (p, f, g)
  refine tb_call cxT1_ok (N := 60) hS hv repsA_kv (fun _ => repT0) (V := .tup []) (o' := some u) hk ?_
  have e : 0 + (shI D.sh.length p f g).toNat = shN D (p, f, g) := by unfold shN; simp
  cases hl : lookS (D.sh.getD (shN D (p, f, g)) []) (p, f, g) with
  | some v =>
    show evCall cxT1 (ev cxT1 60) 8 _ [tbO true, tbR true D.sh.length vs (shN D (p, f, g)), mvK true [⟨[p, f, g], some (.one (.raw (.int .i64 v))), b⟩] rs cl] _
    rw [t_put]
    exact n0 hp (ndd s1 (ndd s2 (ndd (by show 0 + (shI D.sh.length p f g).toNat < _; omega) (ndd e (ndk3 ⟨rfl, rfl, rfl, _, _, _, rfl⟩)))))
  | none =>
    show evCall cxT1 (ev cxT1 60) 8 _ [tbO true, tbR true D.sh.length vs (shN D (p, f, g)), mvK true [⟨[p, f, g], none, b⟩] rs cl] _
    rw [t_putN]
    exact n0 hp (ndd s1 (ndd s2 (ndd (by show 0 + (shI D.sh.length p f g).toNat < _; omega) (ndd e (ndk3 ⟨rfl, rfl, rfl, _, _, _, rfl⟩)))))
theorem drop_call {α : Al} {w : World} {vals : List Value} {p f g : Int} {D : AD} {k : SV → St → Prop} (hR : R α [some (.abs true 0 D)] w) (hv : RepsA α [.one (.ref 0), kA p f g] vals)
    (hk : k (.sa (.one (.raw (.bool (getT D (p, f, g)).isSome)))) [some (.abs true 0 (setT D (p, f, g) none))]) : CallsIn Fence.wide 0 Try.prog 13 vals.toArray w (CallPost α [some (.abs true 0 D)] w k) := by
  have hp := tb_pos hR
  obtain ⟨s1, s2⟩ := shI_in hp p f g
  have hi : shN D (p, f, g) < D.sh.length := by unfold shN; simp only; omega
  obtain ⟨α0, vs, rs, cl, b, hS⟩ := mkTSplitL (ww := true) hR hi (p, f, g)
  refine tb_call cxT1_ok (N := 60) hS hv repsA_k (fun _ _ h => h) (V := .sa (.one (.raw (.bool (getT D (p, f, g)).isSome)))) (o' := none) hk ?_
  have e : 0 + (shI D.sh.length p f g).toNat = shN D (p, f, g) := by unfold shN; simp
  unfold getT
  have lt : 0 + (shI D.sh.length p f g).toNat < D.sh.length := by omega
  cases hl : lookS (D.sh.getD (shN D (p, f, g)) []) (p, f, g) with
  | some v =>
    show evCall cxT1 (ev cxT1 60) 13 _ [tbO true, tbR true D.sh.length vs (shN D (p, f, g)), mvK true [⟨[p, f, g], some (.one (.raw (.int .i64 v))), b⟩] rs cl] _
    rw [t_drop]
    exact n0 hp (ndd s1 (ndd s2 (ndd lt (ndd e (ndk3 (n0 hp (ndd s1 (ndd s2 (ndd lt (ndd e (ndk3 ⟨rfl, rfl, rfl, _, _, _, rfl⟩)))))))))))
  | none =>
    show evCall cxT1 (ev cxT1 60) 13 _ [tbO true, tbR true D.sh.length vs (shN D (p, f, g)), mvK true [⟨[p, f, g], none, b⟩] rs cl] _
    rw [t_dropN]
    exact n0 hp (ndd s1 (ndd s2 (ndd lt (ndd e (ndk3 ⟨rfl, rfl, rfl, _, _, _, rfl⟩)))))
theorem get_call {α : Al} {w : World} {wb : Bool} {vals : List Value} {p f g : Int} {D : AD} {k : SV → St → Prop} (hR : R α [some (.abs wb 0 D)] w) (hv : RepsA α [.one (.ref 0), kA p f g] vals)
    (hk : k (.tup [.one (.raw (.int .i64 ((getT D (p, f, g)).getD 0))), .one (.raw (.bool (getT D (p, f, g)).isSome))]) [some (.abs wb 0 D)]) : CallsIn Fence.wide 0 Try.prog 11 vals.toArray w (CallPost α [some (.abs wb 0 D)] w k) := by
  have hp := tb_pos hR
  obtain ⟨s1, s2⟩ := shI_in hp p f g
  have hi : shN D (p, f, g) < D.sh.length := by unfold shN; simp only; omega
  obtain ⟨α0, vs, rs, cl, b, hS⟩ := mkTSplitL (ww := false) hR hi (p, f, g)
  refine tb_look cxT1_ok (N := 60) hS hv repsA_k (fun _ => repTV) hk ?_
  have e : 0 + (shI D.sh.length p f g).toNat = shN D (p, f, g) := by unfold shN; simp
  unfold getT
  have lt : 0 + (shI D.sh.length p f g).toNat < D.sh.length := by omega
  cases hl : lookS (D.sh.getD (shN D (p, f, g)) []) (p, f, g) with
  | some v =>
    show evCall cxT1 (ev cxT1 60) 11 _ [tbO false, tbR false D.sh.length vs (shN D (p, f, g)), mvK false [⟨[p, f, g], some (.one (.raw (.int .i64 v))), b⟩] rs cl] _
    rw [t_get (o := none)]
    exact n0 hp (ndd s1 (ndd s2 (ndd lt (ndd e (ndk3 rfl)))))
  | none =>
    show evCall cxT1 (ev cxT1 60) 11 _ [tbO false, tbR false D.sh.length vs (shN D (p, f, g)), mvK false [⟨[p, f, g], none, b⟩] rs cl] _
    rw [t_getN (o := none)]
    exact n0 hp (ndd s1 (ndd s2 (ndd lt (ndd e (ndk3 rfl)))))
theorem repI {α β : Al} {v : Int} : ∀ val, SV.rep β (.sa (.one (.raw (.int .i64 v)))) val → SV.rep α (.sa (.one (.raw (.int .i64 v)))) val := fun _ h => h
theorem repsA_nil {α β : Al} : ∀ vs, RepsA α [] vs → RepsA β [] vs
  | [], _ => trivial
  | _ :: _, h => h.elim
theorem repsA_s {α β : Al} {u : Int} : ∀ vs, RepsA α [.one (.raw (.int .i64 u))] vs → RepsA β [.one (.raw (.int .i64 u))] vs
  | [_], ⟨h, _⟩ => ⟨h, trivial⟩
  | [], h => h.elim
  | _ :: _ :: _, h => h.2.elim
theorem shard_call {α : Al} {w : World} {wb : Bool} {vals : List Value} {p f g : Int} {D : AD} {k : SV → St → Prop} (hR : R α [some (.abs wb 0 D)] w) (hv : RepsA α [.one (.ref 0), kA p f g] vals)
    (hk : k (.sa (.one (.raw (.int .i64 (shI D.sh.length p f g))))) [some (.abs wb 0 D)]) : CallsIn Fence.wide 0 Try.prog 17 vals.toArray w (CallPost α [some (.abs wb 0 D)] w k) := by
  have hp := tb_pos hR
  obtain ⟨α0, vs, rs, cl, hS, _⟩ := mkTSplit (ww := false) hR hp
  refine tb_look cxT0_ok (N := 60) hS hv repsA_k (fun _ => repI) hk ?_
  show evCall cxT0 (ev cxT0 60) 17 _ [tbO false, tbR false D.sh.length vs 0, mvK false [] rs cl] _
  rw [t_shard]
  exact n0 hp rfl
theorem shards_call {α : Al} {w : World} {wb : Bool} {vals : List Value} {D : AD} {k : SV → St → Prop} (hR : R α [some (.abs wb 0 D)] w) (hv : RepsA α [.one (.ref 0)] vals)
    (hk : k (.sa (.one (.raw (.int .i64 ((D.sh.length : Nat) : Int))))) [some (.abs wb 0 D)]) : CallsIn Fence.wide 0 Try.prog 7 vals.toArray w (CallPost α [some (.abs wb 0 D)] w k) := by
  have hp := tb_pos hR
  obtain ⟨α0, vs, rs, cl, hS, _⟩ := mkTSplit (ww := false) hR hp
  refine tb_look cxT0_ok (N := 60) hS hv repsA_nil (fun _ => repI) hk ?_
  show evCall cxT0 (ev cxT0 60) 7 _ [tbO false, tbR false D.sh.length vs 0, mvK false [] rs cl] _
  rw [t_shards]
  rfl
theorem count_call {α : Al} {w : World} {wb : Bool} {vals : List Value} {s : Int} {D : AD} {k : SV → St → Prop} (hR : R α [some (.abs wb 0 D)] w) (hv : RepsA α [.one (.ref 0), .one (.raw (.int .i64 s))] vals)
    (hk : k (.sa (.one (.raw (.int .i64 (if 0 ≤ s ∧ s < (D.sh.length : Int) then (((D.sh.getD s.toNat []).length : Nat) : Int) else 0))))) [some (.abs wb 0 D)]) : CallsIn Fence.wide 0 Try.prog 20 vals.toArray w (CallPost α [some (.abs wb 0 D)] w k) := by
  have hp := tb_pos hR
  by_cases hs : 0 ≤ s ∧ s < (D.sh.length : Int)
  · rw [if_pos hs] at hk
    obtain ⟨α0, vs, rs, cl, hS, hperm⟩ := mkTSplit (ww := false) (i := s.toNat) hR (by omega)
    have hl : rs.length = (D.sh.getD s.toNat []).length := by have := hperm.length_eq; simpa [entsM, entsV] using this
    refine tb_look cxT0_ok (N := 60) hS hv repsA_s (fun _ => repI) hk ?_
    show evCall cxT0 (ev cxT0 60) 20 _ [tbO false, tbR false D.sh.length vs s.toNat, mvK false [] rs cl] _
    rw [t_count]
    refine brf (by omega) (brf (by omega) (ndd (by omega) (ndd (by omega) (ndd (by omega) (ndd (by omega) ?_)))))
    rw [← hl]
    show SV.sa (.one (.raw (.int .i64 (((0 + rs.length : Nat)) : Int)))) = _
    rw [Nat.zero_add]
  · rw [if_neg hs] at hk
    obtain ⟨α0, vs, rs, cl, hS, _⟩ := mkTSplit (ww := false) hR hp
    refine tb_look cxT0_ok (N := 60) hS hv repsA_s (fun _ => repI) hk ?_
    show evCall cxT0 (ev cxT0 60) 20 _ [tbO false, tbR false D.sh.length vs 0, mvK false [] rs cl] _
    rw [t_count]
    refine br (fun _ => rfl) (fun h => br (fun _ => rfl) (fun h2 => ?_))
    have h := of_decide_eq_false h
    have h2 := of_decide_eq_false h2
    exact (hs ⟨by omega, by omega⟩).elim
end Go.Ev
end
section
namespace Go.Spec
open Go Go.Ev
end Go.Spec
namespace Go.Ev
open Go Go.Proofs Go.Spec
attribute [local irreducible] ev evCall branch need again
theorem shardT_sum : SumOk Try.prog 17 sTShard := by
  refine fun args st => ⟨fun k h => ?_, fun k h α w vals hR hv => ?_⟩
  · unfold sTShard at h ⊢
    split at h
    · split at h
      · exact Lin.ret _ _ k h
      · exact h.elim
    · split at h
      · exact Lin.ret _ _ k h
      · exact h.elim
    · exact h.elim
  · unfold sTShard at h
    split at h
    · split at h
      · have hC : CallOk Try.prog (evCall cxT0 (ev cxT0 60)) := evCall_ok (run := ev cxT0 60) cxT0_ok (ev_sound cxT0_ok 60).1
        exact (hC.1 _ _ _ _ (by decide) (Eq.mpr (t_shard0 ..) h)).2 α w vals hR hv
      · exact h.elim
    · split at h
      · exact shard_call hR hv h
      · exact h.elim
    · exact h.elim
theorem shardsT_sum : SumOk Try.prog 7 sTShards := by
  refine fun args st => ⟨fun k h => ?_, fun k h α w vals hR hv => ?_⟩
  · unfold sTShards at h ⊢
    split at h
    · split at h
      · exact Lin.ret _ _ k h
      · exact h.elim
    · split at h
      · exact Lin.ret _ _ k h
      · exact h.elim
    · exact h.elim
  · unfold sTShards at h
    split at h
    · split at h
      · have hC : CallOk Try.prog (evCall cxT0 (ev cxT0 60)) := evCall_ok (run := ev cxT0 60) cxT0_ok (ev_sound cxT0_ok 60).1
        exact (hC.1 _ _ _ _ (by decide) (Eq.mpr (t_shards0 ..) h)).2 α w vals hR hv
      · exact h.elim
    · split at h
      · exact shards_call hR hv h
      · exact h.elim
    · exact h.elim
theorem countT_sum : SumOk Try.prog 20 sTCount := by
  refine fun args st => ⟨fun k h => ?_, fun k h α w vals hR hv => ?_⟩
  · unfold sTCount at h ⊢
    split at h
    · split at h
      · exact Lin.ret _ _ k h
      · exact h.elim
    · split at h
      · exact Lin.ret _ _ k h
      · exact h.elim
    · exact h.elim
  · unfold sTCount at h
    split at h
    · split at h
      · have hC : CallOk Try.prog (evCall cxT0 (ev cxT0 60)) := evCall_ok (run := ev cxT0 60) cxT0_ok (ev_sound cxT0_ok 60).1
        exact (hC.1 _ _ _ _ (by decide) (Eq.mpr (t_count0 ..) (br (fun _ => h) (fun h1 => br (fun _ => h) (fun h2 => by have h1 := of_decide_eq_false h1; have h2 := of_decide_eq_false h2; omega))))).2 α w vals hR hv
      · exact h.elim
    · split at h
      · exact count_call hR hv h
      · exact h.elim
    · exact h.elim
theorem getT_sum : SumOk Try.prog 11 sTGet := by
  refine fun args st => ⟨fun k h => ?_, fun k h α w vals hR hv => ?_⟩
  · unfold sTGet at h ⊢
    split at h
    · split at h
      · exact Lin.ret _ _ k h
      · exact h.elim
    · split at h
      · exact Lin.ret _ _ k h
      · exact h.elim
    · exact h.elim
  · unfold sTGet at h
    split at h
    · split at h
      · have hC : CallOk Try.prog (evCall cxT1 (ev cxT1 60)) := evCall_ok (run := ev cxT1 60) cxT1_ok (ev_sound cxT1_ok 60).1
        exact (hC.1 _ _ _ _ (by decide) (Eq.mpr (t_get0 ..) h)).2 α w vals hR hv
      · exact h.elim
    · split at h
      · exact get_call hR hv h
      · exact h.elim
    · exact h.elim
theorem dropT_sum : SumOk Try.prog 13 sTDrop := by
  refine fun args st => ⟨fun k h => ?_, fun k h α w vals hR hv => ?_⟩
  · unfold sTDrop at h ⊢
    split at h
    · split at h
      · exact Lin.ret _ _ k h
      · exact h.elim
    · split at h
      · exact Lin.ret _ _ k h
      · exact h.elim
    · exact h.elim
  · unfold sTDrop at h
    split at h
    · split at h
      · have hC : CallOk Try.prog (evCall cxT1 (ev cxT1 60)) := evCall_ok (run := ev cxT1 60) cxT1_ok (ev_sound cxT1_ok 60).1
        exact (hC.1 _ _ _ _ (by decide) (Eq.mpr (t_drop0 ..) h)).2 α w vals hR hv
      · exact h.elim
    · split at h
      · exact drop_call hR hv h
      · exact h.elim
    · exact h.elim
theorem putT_sum : SumOk Try.prog 8 sTPut := by
  refine fun args st => ⟨fun k h => ?_, fun k h α w vals hR hv => ?_⟩
  · unfold sTPut at h ⊢
    split at h
    · split at h
      · exact Lin.ret _ _ k h
      · exact h.elim
    · split at h
      · exact Lin.ret _ _ k h
      · exact h.elim
    · exact h.elim
  · unfold sTPut at h
    split at h
    · split at h
      · have hC : CallOk Try.prog (evCall cxT1 (ev cxT1 60)) := evCall_ok (run := ev cxT1 60) cxT1_ok (ev_sound cxT1_ok 60).1
        exact (hC.1 _ _ _ _ (by decide) (Eq.mpr (t_put0 ..) h)).2 α w vals hR hv
      · exact h.elim
    · split at h
      · exact put_call hR hv h
      · exact h.elim
    · exact h.elim
end Go.Ev
end
section
namespace Go.Spec
open Go Go.Ev
def cmpI (x y : Int) : Int := if x < y then -1 else if y < x then 1 else 0
def orI (a b c : Int) : Int := if a = 0 then (if b = 0 then c else b) else a
def ordK (x y : Kx) : Int := orI (cmpI x.1 y.1) (cmpI x.2.1 y.2.1) (cmpI x.2.2 y.2.2)
def ltK (x y : Kx) : Bool := decide (ordK x y < 0)
def insK (x : Kx) : List Kx → List Kx
  | [] => [x]
  | y :: r => match ltK y x with
    | true => y :: insK x r
    | false => x :: y :: r
def sortK : List Kx → List Kx
  | [] => []
  | x :: r => insK x (sortK r)
def sortT (D : AD) : List Kx := sortK ((D.sh.getD 0 []).map (·.1))
def colP (ks : List Kx) : List Int := ks.map (·.1)
def colF (ks : List Kx) : List Int := ks.map (·.2.1)
def colG (ks : List Kx) : List Int := ks.map (·.2.2)
def lenK (ks : List Kx) : Nat := ks.length
end Go.Spec
namespace Go.Ev
open Go Go.Proofs Go.Spec
def rowX (ks : List Kx) : Option SO := some (.own true .row 36 3 (.tab (lenK ks) [.ints .u32 (colP ks), .ints .u16 (colF ks), .ints .u16 (colG ks)]))
def sSortF : SumT := fun args st k => match args with
  | [.one (.ref 0), .one (.raw (.func (.func g) ⟨[]⟩ ⟨[]⟩))] => (match st with
    | [some (.abs true 1 D)] => need (decide (g = 26)) (need (decide (lenK (sortT D) * 8 ≤ 140737488355328)) (k (.tup []) [rowX (sortT D)]))
    | _ => False)
  | _ => False
def sCmp (q : IntKind) : SumT := fun args st k => match args with
  | [.one (.raw (.int k1 a)), .one (.raw (.int k2 b))] => (match st with
    | [] => need (decide (k1 = q ∧ k2 = q)) (k (.sa (.one (.raw (.int .i64 (cmpI a b))))) [])
    | _ => False)
  | _ => False
noncomputable def cxTo : Cx := mkCx Try.prog [(32, sCmp .u32), (33, sCmp .u16)] [] []
end Go.Ev
end
section
namespace Go.Ev
open Go Go.Proofs Go.Spec
theorem t_cmp32 (a b : Int) (k : SV → St → Prop) : evCall cxT0 (ev cxT0 60) 32 [.one (.raw (.int .u32 a)), .one (.raw (.int .u32 b))] [] k =
    (branch (Bool.not (eqK a a)) (branch (Bool.not (eqK b b)) (k (.sa (.one (iv .i64 (0)))) []) (k (.sa (.one (iv .i64 (-(1))))) [])) (branch (Bool.not (eqK b b)) (k (.sa (.one (iv .i64 (1)))) []) (branch (decide ((a < b))) (k (.sa (.one (iv .i64 (-(1))))) []) (branch (decide ((a > b))) (k (.sa (.one (iv .i64 (1)))) []) (k (.sa (.one (iv .i64 (0)))) []))))) := by kernel_rfl
theorem t_cmp16 (a b : Int) (k : SV → St → Prop) : evCall cxT0 (ev cxT0 60) 33 [.one (.raw (.int .u16 a)), .one (.raw (.int .u16 b))] [] k =
    (branch (Bool.not (eqK a a)) (branch (Bool.not (eqK b b)) (k (.sa (.one (iv .i64 (0)))) []) (k (.sa (.one (iv .i64 (-(1))))) [])) (branch (Bool.not (eqK b b)) (k (.sa (.one (iv .i64 (1)))) []) (branch (decide ((a < b))) (k (.sa (.one (iv .i64 (-(1))))) []) (branch (decide ((a > b))) (k (.sa (.one (iv .i64 (1)))) []) (k (.sa (.one (iv .i64 (0)))) []))))) := by kernel_rfl
theorem t_order (p f g p2 f2 g2 : Int) (k : SV → St → Prop) : evCall cxTo (ev cxTo 100) 26 [kA p f g, kA p2 f2 g2] [] k =
    (branch (Bool.not (eqK (Spec.cmpI p p2) (0))) (k (.sa (.one (iv .i64 (Spec.cmpI p p2)))) []) (branch (Bool.not (eqK (Spec.cmpI f f2) (0))) (k (.sa (.one (iv .i64 (Spec.cmpI f f2)))) []) (branch (Bool.not (eqK (Spec.cmpI g g2) (0))) (k (.sa (.one (iv .i64 (Spec.cmpI g g2)))) []) (k (.sa (.one (iv .i64 (0)))) [])))) := by kernel_rfl
end Go.Ev
end
section
namespace Go.Ev
open Go Go.Proofs Go.Spec
theorem t_sort0 (k : SV → St → Prop) : evCall cxT0 (ev cxT0 200) 29 [.one (.ref 0), .one (.raw (.func (.func 26) #[] #[]))] [some (.own true .row 36 3 (.lst []))] k =
    (k (.tup []) [(some (SO.own true MK.row 36 3 (Ct.lst [])))]) := by kernel_rfl
end Go.Ev
end
section
namespace Go.Proofs
open Go.Shelf
def Try.sortK_ren : Go.Shelf.Ren := ⟨fun | 6 => 29 | 15 => 37 | 14 => 36 | 28 => 48 | 29 => 49 | 20 => 40 | 21 => 41 | 22 => 42 | 23 => 43 | 24 => 44 | 25 => 45 | 26 => 46 | 27 => 47 | 46 => 50 | 47 => 51 | 48 => 52 | 49 => 53 | 50 => 54 | 57 => 55 | n => n, fun | 22 => 57 | 24 => 36 | 25 => 70 | 3 => 3 | 39 => 74 | 0 => 0 | 53 => 33 | 55 => 75 | 4 => 4 | 46 => 89 | 45 => 88 | 50 => 43 | 5 => 5 | 9 => 9 | 66 => 96 | 70 => 100 | 76 => 102 | 77 => 103 | n => n, fun | n => n⟩
theorem Try.sortK : Go.Proofs.SlLaysF0.n6 Try.prog Try.sortK_ren := {
  mixed := by kernel_rfl,
  f6 := ⟨Try.f29.name, by decide, Try.func29.trans (congrArg some (by kernel_rfl))⟩,
  f14 := ⟨Try.f36.name, by decide, Try.func36.trans (congrArg some (by kernel_rfl))⟩,
  f15 := Try.func37.trans (congrArg some (by kernel_rfl)),
  f20 := ⟨Try.f40.name, by decide, Try.func40.trans (congrArg some (by kernel_rfl))⟩,
  f21 := ⟨Try.f41.name, by decide, Try.func41.trans (congrArg some (by kernel_rfl))⟩,
  f22 := ⟨Try.f42.name, by decide, Try.func42.trans (congrArg some (by kernel_rfl))⟩,
  f23 := ⟨Try.f43.name, by decide, Try.func43.trans (congrArg some (by kernel_rfl))⟩,
  f24 := ⟨Try.f44.name, by decide, Try.func44.trans (congrArg some (by kernel_rfl))⟩,
  f25 := ⟨Try.f45.name, by decide, Try.func45.trans (congrArg some (by kernel_rfl))⟩,
  f26 := ⟨Try.f46.name, by decide, Try.func46.trans (congrArg some (by kernel_rfl))⟩,
  f27 := ⟨Try.f47.name, by decide, Try.func47.trans (congrArg some (by kernel_rfl))⟩,
  f28 := Try.func48.trans (congrArg some (by kernel_rfl)),
  f29 := Try.func49.trans (congrArg some (by kernel_rfl)),
  f46 := ⟨Try.f50.name, by decide, Try.func50.trans (congrArg some (by kernel_rfl))⟩,
  f47 := Try.func51.trans (congrArg some (by kernel_rfl)),
  f48 := Try.func52.trans (congrArg some (by kernel_rfl)),
  f49 := ⟨Try.f53.name, by decide, Try.func53.trans (congrArg some (by kernel_rfl))⟩,
  f50 := ⟨Try.f54.name, by decide, Try.func54.trans (congrArg some (by kernel_rfl))⟩,
  f57 := ⟨Try.f55.name, by decide, Try.func55.trans (congrArg some (by kernel_rfl))⟩,
  t0 := Try.underlying0,
  a0 := Try.isAgg0,
  z0 := Try.sizeOf0,
  v0 := Try.zeroValue0,
  t3 := Try.underlying3,
  a3 := Try.isAgg3,
  z3 := Try.sizeOf3,
  v3 := Try.zeroValue3,
  t4 := Try.underlying4,
  a4 := Try.isAgg4,
  z4 := Try.sizeOf4,
  v4 := Try.zeroValue4,
  t5 := Try.underlying5,
  a5 := Try.isAgg5,
  z5 := Try.sizeOf5,
  v5 := Try.zeroValue5,
  t9 := Try.underlying9,
  a9 := Try.isAgg9,
  z9 := Try.sizeOf9,
  v9 := Try.zeroValue9,
  t22 := Try.underlying57,
  a22 := Try.isAgg57,
  z22 := Try.sizeOf57,
  v22 := Try.zeroValue57,
  t25 := Try.underlying70,
  a25 := Try.isAgg70,
  z25 := Try.sizeOf70,
  v25 := Try.zeroValue70,
  t39 := Try.underlying74,
  a39 := Try.isAgg74,
  z39 := Try.sizeOf74,
  v39 := Try.zeroValue74,
  t45 := Try.underlying88,
  a45 := Try.isAgg88,
  z45 := Try.sizeOf88,
  v45 := Try.zeroValue88,
  t46 := Try.underlying89,
  a46 := Try.isAgg89,
  z46 := Try.sizeOf89,
  v46 := Try.zeroValue89,
  t50 := Try.underlying43,
  a50 := Try.isAgg43,
  z50 := Try.sizeOf43,
  v50 := Try.zeroValue43,
  t53 := Try.underlying33,
  a53 := Try.isAgg33,
  z53 := Try.sizeOf33,
  v53 := Try.zeroValue33,
  t55 := Try.underlying75,
  a55 := Try.isAgg75,
  z55 := Try.sizeOf75,
  v55 := Try.zeroValue75,
  t66 := Try.underlying96,
  a66 := Try.isAgg96,
  z66 := Try.sizeOf96,
  v66 := Try.zeroValue96,
  t70 := Try.underlying100,
  a70 := Try.isAgg100,
  z70 := Try.sizeOf100,
  v70 := Try.zeroValue100,
  t76 := Try.underlying102,
  a76 := Try.isAgg102,
  z76 := Try.sizeOf102,
  v76 := Try.zeroValue102,
  t77 := Try.underlying103,
  a77 := Try.isAgg103,
  z77 := Try.sizeOf103,
  v77 := Try.zeroValue103 }
end Go.Proofs
end
section
namespace Go.Ev
open Go Go.Proofs Go.Spec
open Go.Sort (grow SWO)
attribute [local irreducible] ev evCall branch need again
theorem brnn {x : Int} {p q : Prop} (h : q) : branch (Bool.not (eqK x x)) p q := by
  rw [eqK_t.2 rfl]; exact br (fun e => by cases e) fun _ => h
theorem linRet {v : SV} {s : St} : Lin (fun k => k v s) := Lin.ret _ _
theorem linNeed {b : Bool} {F : (SV → St → Prop) → Prop} (h : Lin F) : Lin (fun k => need b (F k)) := fun k hk => by
  obtain ⟨h1, hk⟩ := need_iff.1 hk
  obtain ⟨v, s, h2, h3⟩ := h k hk
  exact ⟨v, s, h2, fun k2 h4 => need_iff.2 ⟨h1, h3 k2 h4⟩⟩
theorem sCmp_lin {q : IntKind} {args : List SA} {st : St} : Lin (sCmp q args st) := by
  unfold sCmp
  split
  · split
    · exact linNeed linRet
    · exact fun _ h => h.elim
  · exact fun _ h => h.elim
theorem cmp32_sum : SumOk Try.prog 32 (sCmp .u32) := by
  refine sumOk_of cxT0_ok (fun args st => sCmp_lin) (fun args st k h => ⟨60, ?_⟩)
  unfold sCmp at h
  split at h
  · split at h
    · have hk := (need_iff.1 h).2
      obtain ⟨rfl, rfl⟩ := of_decide_eq_true (need_iff.1 h).1
      clear h
      rw [t_cmp32]
      unfold cmpI at hk
      refine brnn (brnn (br (fun e => ?_) (fun e => br (fun e2 => ?_) (fun e2 => ?_))))
      · have := of_decide_eq_true e; rw [if_pos (by omega)] at hk; exact hk
      · have := of_decide_eq_false e; have := of_decide_eq_true e2; rw [if_neg (by omega), if_pos (by omega)] at hk; exact hk
      · have := of_decide_eq_false e; have := of_decide_eq_false e2; rw [if_neg (by omega), if_neg (by omega)] at hk; exact hk
    · exact h.elim
  · exact h.elim
theorem cmp16_sum : SumOk Try.prog 33 (sCmp .u16) := by
  refine sumOk_of cxT0_ok (fun args st => sCmp_lin) (fun args st k h => ⟨60, ?_⟩)
  unfold sCmp at h
  split at h
  · split at h
    · have hk := (need_iff.1 h).2
      obtain ⟨rfl, rfl⟩ := of_decide_eq_true (need_iff.1 h).1
      clear h
      rw [t_cmp16]
      unfold cmpI at hk
      refine brnn (brnn (br (fun e => ?_) (fun e => br (fun e2 => ?_) (fun e2 => ?_))))
      · have := of_decide_eq_true e; rw [if_pos (by omega)] at hk; exact hk
      · have := of_decide_eq_false e; have := of_decide_eq_true e2; rw [if_neg (by omega), if_pos (by omega)] at hk; exact hk
      · have := of_decide_eq_false e; have := of_decide_eq_false e2; rw [if_neg (by omega), if_neg (by omega)] at hk; exact hk
    · exact h.elim
  · exact h.elim
theorem cxTo_ok : CxOk Try.prog cxTo := mkCx_ok namesT mixedT (by
  intro y h
  simp only [List.mem_cons, List.not_mem_nil, or_false] at h
  rcases h with rfl | rfl
  · exact cmp32_sum
  · exact cmp16_sum)
theorem grow_of_to {α α' : Al} {st' : St} {w w' : World} (h : To α [] w α' st' w') : ∃ q os', w' = grow (w.drewN q) os' := by
  have hk : ∀ b, b < w.heap.size → w'.heap[b]? = w.heap[b]? := fun b hb => h.kept b hb (by rintro ⟨o, so, d, h1, _⟩; cases o <;> simp [St.get, getL] at h1)
  refine ⟨w'.drawn - w.drawn, w'.heap.extract w.heap.size w'.heap.size, ?_⟩
  have h1 := h.tape.tape
  have h2 := h.tape.drawn
  have h3 := h.os
  have h4 := h.output
  have h5 := h.size
  obtain ⟨heap, tape, drawn, os, output⟩ := w
  obtain ⟨heap', tape', drawn', os', output'⟩ := w'
  simp only at h1 h2 h3 h4 h5 hk
  subst h1; subst h3; subst h4
  simp only [grow, World.drewN, World.mk.injEq, and_true]
  refine ⟨?_, trivial, by omega⟩
  apply Array.ext_getElem?
  intro i
  by_cases hi : i < heap.size
  · rw [Array.getElem?_append_left hi, hk i hi]
  · rw [Array.getElem?_append_right (by omega)]
    by_cases hi2 : i < heap'.size
    · rw [Array.getElem?_extract, if_pos (by omega), show heap.size + (i - heap.size) = i from by omega]
    · rw [Array.getElem?_eq_none (by omega), Array.getElem?_eq_none (by simp; omega)]
def encK (x : Kx) : List Value := [.int .u32 x.1, .int .u16 x.2.1, .int .u16 x.2.2]
theorem order_calls (x y : Kx) (W : World) : Calls Try.prog 26 #[.agg (encK x).toArray, .agg (encK y).toArray] W fun e w' => e = .returned (.int .i64 (ordK x y)) ∧ ∃ q os', w' = grow (W.drewN q) os' := by
  have hC : CallOk Try.prog (evCall cxTo (ev cxTo 100)) := evCall_ok (run := ev cxTo 100) cxTo_ok (ev_sound cxTo_ok 100).1
  have hT : evCall cxTo (ev cxTo 100) 26 [kA x.1 x.2.1 x.2.2, kA y.1 y.2.1 y.2.2] [] (fun v _ => v = .sa (.one (.raw (.int .i64 (ordK x y))))) := by
    rw [t_order]
    unfold ordK orI
    generalize cmpI x.1 y.1 = a
    generalize cmpI x.2.1 y.2.1 = b
    generalize cmpI x.2.2 y.2.2 = c
    have key : ∀ (x : Int) (p q : Prop), (x ≠ 0 → p) → (x = 0 → q) → branch (Bool.not (eqK x 0)) p q := fun x p q h1 h2 => br (fun e => h1 fun e2 => by rw [eqK_t.2 e2] at e; cases e) (fun e => h2 (eqK_t.1 (by simpa using e)))
    refine key _ _ _ (fun h => ?_) (fun h => key _ _ _ (fun h2 => ?_) (fun h2 => key _ _ _ (fun h3 => ?_) (fun h3 => ?_)))
    · rw [if_neg h]; rfl
    · rw [if_pos h, if_neg h2]; rfl
    · rw [if_pos h, if_pos h2]; rfl
    · rw [if_pos h, if_pos h2, h3]; rfl
  refine callsIn_wide.1 (((hC.1 26 _ _ _ (by decide) hT).2 (fun _ => none) W [.agg (encK x).toArray, .agg (encK y).toArray] (R.empty W) ⟨⟨encK x, ⟨rfl, rfl, rfl, trivial⟩, rfl⟩, ⟨encK y, ⟨rfl, rfl, rfl, trivial⟩, rfl⟩, trivial⟩).mono fun e w' ⟨v, st', α', val, he, hv, hvV, hto⟩ => ?_)
  subst hvV
  simp only [SV.rep, SA.rep, SC.val?, Option.some.injEq] at hv
  subst hv
  exact ⟨he, grow_of_to hto⟩
theorem cmpI_lt {x y : Int} : (cmpI x y < 0 ↔ x < y) ∧ (cmpI x y = 0 ↔ x = y) := by
  unfold cmpI
  split <;> (try split) <;> constructor <;> constructor <;> intro h <;> omega
theorem ltK_iff {x y : Kx} : ltK x y = true ↔ x.1 < y.1 ∨ (x.1 = y.1 ∧ (x.2.1 < y.2.1 ∨ (x.2.1 = y.2.1 ∧ x.2.2 < y.2.2))) := by
  unfold ltK ordK orI
  rw [decide_eq_true_iff]
  have h1 := @cmpI_lt x.1 y.1
  have h2 := @cmpI_lt x.2.1 y.2.1
  have h3 := @cmpI_lt x.2.2 y.2.2
  split
  · split
    · constructor <;> intro h <;> omega
    · constructor <;> intro h <;> omega
  · constructor <;> intro h <;> omega
theorem ltK_false {x y : Kx} : ltK x y = false ↔ ¬ (x.1 < y.1 ∨ (x.1 = y.1 ∧ (x.2.1 < y.2.1 ∨ (x.2.1 = y.2.1 ∧ x.2.2 < y.2.2)))) := by
  rw [← ltK_iff]; simp
theorem swoK : SWO ltK where
  irrefl x := by rw [ltK_false]; omega
  trans x y z h1 h2 := by rw [ltK_iff] at *; omega
  ntrans x y z h1 h2 := by rw [ltK_false] at *; omega
theorem oneK (x y : Kx) (h1 : ltK x y = false) (h2 : ltK y x = false) : x = y := by
  rw [ltK_false] at *
  obtain ⟨a, b, c⟩ := x
  obtain ⟨a', b', c'⟩ := y
  simp only at h1 h2
  simp only [Prod.mk.injEq]
  omega
end Go.Ev
end
