/- Ranging over a map: the iterator beside a state that nobody writes; operations one by one. No conditions. -/
import Derived.Test.YtefkhlicocadcaaEvD
import Derived.Maps.RangeRun
set_option linter.unusedVariables false
set_option linter.unusedSimpArgs false
namespace Go.Ev
open Go
variable {P : Program}

/-- Operations of a region, up to some place. -/
theorem evOps_pre {cx : Cx} {call : CallT} {r : Option Nat} {ops : Array Oper} {Q : Exit → Act → World → Prop} {more : List Nat} (hP : cx.P = P) (hN : OpsOk P cx) (hC : CallOk P call) :
    ∀ (pre : List Oper) (i : Nat), (∀ j o, pre[j]? = some o → ops[i + j]? = some o) → ∀ {fr : Fr} {st : St} {k : Fr → St → Prop} {α : Al} {a : Act} {w : World}, R α st w → FrOk α fr a.tmps →
      evOps cx call ops.toList pre fr st k → (∀ fr' st' α' a' w', k fr' st' → FrOk α' fr' a'.tmps → To α st w α' st' w' → a'.defers = a.defers → wpOpsIn (Wide r) 0 P ops Q more a' w') →
      wpOpsIn (Wide r) 0 P ops Q (List.range' i pre.length ++ more) a w
  | [], i, _, fr, st, k, α, a, w, hR, hf, h, hK => by
    simp only [evOps, forceV_eq] at h
    exact hK fr st α a w h hf (To.refl hR) rfl
  | o :: rest, i, hd, fr, st, k, α, a, w, hR, hf, h, hK => by
    have ho : ops[i]? = some o := by simpa using hd 0 o rfl
    simp only [evOps, forceV_eq] at h
    simp only [List.length_cons, List.range'_succ, List.cons_append]
    rw [wpOpsIn_cons]
    simp only [wpOpIn, ho]
    have hd' : ∀ j q, rest[j]? = some q → ops[i + 1 + j]? = some q := fun j q hj => by
      have := hd (j + 1) q (by simpa using hj)
      rw [show i + 1 + j = i + (j + 1) from by omega]; exact this
    rcases evGuard_sound hf h with ⟨hw, fr', hf', h⟩ | ⟨hw, fr', hf', h⟩
    · rw [if_pos hw]
      refine evOp_sound hP hN hC hR (evOperand_rep hf') h fun sv st' α' w' v hk hv hto => ?_
      refine evOps_pre hP hN hC rest (i + 1) hd' hto.rep ((hf'.mono (hto.le hR)).put hv) hk fun fr2 st2 α2 a2 w2 x1 x2 x3 x4 => ?_
      exact hK fr2 st2 α2 a2 w2 x1 x2 (hto.trans x3) (by rw [x4, put_defers_eq])
    · rw [if_neg (by rw [hw]; simp)]
      refine ⟨fun _ _ => trivial, ?_⟩
      refine evOps_pre hP hN hC rest (i + 1) hd' hR (hf'.put (sv := undefV) (v := undef) ⟨[], trivial, rfl⟩) h fun fr2 st2 α2 a2 w2 x1 x2 x3 x4 => ?_
      exact hK fr2 st2 α2 a2 w2 x1 x2 x3 (by rw [x4, put_defers_eq])
/-- One operation that answers a value. -/
theorem op_value {r : Option Nat} {ops : Array Oper} {Q : Exit → Act → World → Prop} {i : Nat} {rest : List Nat} {o : Oper} {a : Act} {w w' : World} {v : Value} (ho : ops[i]? = some o) (hg : o.guard = none)
    (hs : (o.semAt (Wide r).round a.eval).run P w = .ok (.value v) w') (h : wpOpsIn (Wide r) 0 P ops Q rest (a.put o.dst v) w') : wpOpsIn (Wide r) 0 P ops Q (i :: rest) a w := by
  rw [wpOpsIn_cons]
  simp only [wpOpIn, ho]
  rw [if_pos (by simp [Region.wanted, hg])]
  refine ⟨fun _ _ => trivial, ?_⟩
  rw [hs]
  exact h
theorem semAt_range {r : Option Nat} {o : Oper} {a : Act} {w w' : World} {T : TypeId} {x : Operand} {v : Value} (ho : o.op = .range T x) (h : (Instr.range T (a.eval x)).run P w = .ok v w') : (o.semAt r a.eval).run P w = .ok (.value v) w' := by
  obtain ⟨_, op, _, _, _, _⟩ := o
  subst ho
  cases r <;> simp [Oper.semAt, execOp, h]
theorem semAt_next {r : Option Nat} {o : Oper} {a : Act} {w w' : World} {x : Operand} {v : Value} (ho : o.op = .next x false) (h : (Instr.next (a.eval x) false o.type).run P w = .ok v w') : (o.semAt r a.eval).run P w = .ok (.value v) w' := by
  obtain ⟨_, op, _, _, _, _⟩ := o
  subst ho
  cases r <;> simp [Oper.semAt, execOp] at h ⊢ <;> simp [h]
theorem semAt_entry {r : Option Nat} {o : Oper} {a : Act} {w w' : World} {x : Operand} {v : Value} (ho : o.op = .entry x) (h : (Instr.entry (a.eval x)).run P w = .ok v w') : (o.semAt r a.eval).run P w = .ok (.value v) w' := by
  obtain ⟨_, op, _, _, _, _⟩ := o
  subst ho
  cases r <;> simp [Oper.semAt, execOp, h]
theorem semAt_extract {r : Option Nat} {o : Oper} {a : Act} {w : World} {x : Operand} {i : Nat} {vs : Array Value} {v : Value} (ho : o.op = .extract x i) (hx : a.eval x = .tuple vs) (hv : vs[i]? = some v) : (o.semAt r a.eval).run P w = .ok (.value v) w := by
  obtain ⟨_, op, _, _, _, _⟩ := o
  subst ho
  cases r <;> simp [Oper.semAt, execOp, Instr.extract, hx, hv]

/-- Behind the start of a walk over a map: what there was is as it was; the iterator is new. -/
structure RgF (w0 w : World) (ob : Obj) (it : Nat) (ds : List Deferred) : Prop where
  kept : ∀ b, b < w0.heap.size → w.heap[b]? = w0.heap[b]?
  size : w0.heap.size ≤ w.heap.size
  tape : w.tape = w0.tape
  os : w.os = w0.os
  output : w.output = w0.output
  ob : w.heap[it]? = some ob
  new : w0.heap.size ≤ it
  marks : ∃ ms : List Nat, ms.Nodup ∧ ds = ms.map (fun b => ({ target := .collected b, args := #[] } : Deferred)) ∧ ∀ b ∈ ms, w0.heap.size ≤ b ∧ w.heap[b]? = some (.deferred (some []))
def itDen (it : Nat) : Den := ⟨it, 0, 1, 1, .pointer (some ⟨it, 0, none⟩), true⟩
section
variable {α : Al} {st : St} {w0 w : World} {ob : Obj} {it : Nat} {ds : List Deferred}
theorem RgF.foot (hF : RgF w0 w ob it ds) (hR : R α st w0) {o : Nat} {so : SO} {d : Den} (ho : st.get o = some so) (hd : α o = some d) : Good α w d so ∧ (∀ b, Foot w d so b → Foot w0 d so b) ∧ (∀ b, Foot w0 d so b → b < w0.heap.size) ∧ Good α w0 d so := by
  obtain ⟨d', h1, h2⟩ := hR.good o so ho
  rw [hd] at h1; cases h1
  have hlt : ∀ b, Foot w0 d so b → b < w0.heap.size := fun b hb => h2.lt hb
  obtain ⟨g1, g2⟩ := h2.kept (Al.le.refl _) (fun b hb => hF.kept b (hlt b hb)) hF.size
  exact ⟨g1, g2, hlt, h2⟩
/-- The state, with the iterator beside it. -/
theorem RgF.to (hF : RgF w0 w ob it ds) (hR : R α st w0) : To α st w0 (α.add st.length (itDen it)) (st ++ [some (.box true ob)]) w := by
  have hsame : ∀ o, o < st.length → (α.add st.length (itDen it)) o = α o := fun o ho => Al.add_other (by omega)
  have hle : α.le (α.add st.length (itDen it)) := Al.le_add (hR.none _ (Nat.le_refl _))
  have hbox : (α.add st.length (itDen it)) st.length = some (itDen it) := Al.add_same
  have hcase : ∀ o so d, St.get (st ++ [some (.box true ob)]) o = some so → (α.add st.length (itDen it)) o = some d → (o < st.length ∧ st.get o = some so ∧ α o = some d) ∨ (o = st.length ∧ so = .box true ob ∧ d = itDen it) := fun o so d ho hd => by
    rcases St.get_append ho with h | ⟨rfl, h⟩
    · have hlt := St.get_lt h
      exact .inl ⟨hlt, h, by rw [← hsame o hlt]; exact hd⟩
    · cases h
      rw [hbox] at hd; cases hd
      exact .inr ⟨rfl, rfl, rfl⟩
  refine ⟨⟨fun o so ho => ?_, fun o o' so so' d d' b hne ho ho' hd hd' hw hl hf => ?_, fun o so d b ho hd hw hl hi => ?_, fun o ho => ?_, fun o d hd => ?_⟩, hsame, by simp, fun o so d b ho hd hb hl => ?_, fun o so d b ho hd hb hi => ?_, fun b hb hw => ?_, fun b hb _ => hF.kept b hb, hF.size, hF.tape, hF.os, hF.output⟩
  · rcases St.get_append ho with h | ⟨rfl, h⟩
    · obtain ⟨d, h1, _⟩ := hR.good o so h
      exact ⟨d, hle _ _ h1, ((hF.foot hR h h1).1).congr hle (fun _ _ => rfl) (Nat.le_refl _)⟩
    · cases h
      exact ⟨_, hbox, rfl, hF.ob⟩
  · rcases hcase o so d ho hd with ⟨_, h1, h2⟩ | ⟨rfl, rfl, rfl⟩ <;> rcases hcase o' so' d' ho' hd' with ⟨_, h1', h2'⟩ | ⟨rfl, rfl, rfl⟩
    · obtain ⟨_, f1, _, _⟩ := hF.foot hR h1 h2
      obtain ⟨_, f2, _, _⟩ := hF.foot hR h1' h2'
      have hl0 : so.lies w0 d b := SO.lies_congr (α := α) (hF.foot hR h1 h2).2.2.2 (fun c hc => hF.kept c ((hF.foot hR h1 h2).2.2.1 c hc)) hl
      exact hR.sep o o' so so' d d' b hne h1 h1' h2 h2' hw hl0 (f2 b hf)
    · obtain ⟨_, f1, f2, _⟩ := hF.foot hR h1 h2
      have := f2 b (f1 b (.inl hl))
      rcases hf with hf | hf
      · have hf : b = it := hf
        have := hF.new; omega
      · exact hf.elim
    · obtain ⟨_, f1, f2, _⟩ := hF.foot hR h1' h2'
      have := f2 b (f1 b hf)
      have hl : b = it := hl
      have := hF.new; omega
    · exact hne rfl
  · rcases hcase o so d ho hd with ⟨_, h1, h2⟩ | ⟨rfl, rfl, rfl⟩
    · have hk : ∀ c, Foot w0 d so c → w.heap[c]? = w0.heap[c]? := fun c hc => hF.kept c ((hF.foot hR h1 h2).2.2.1 c hc)
      exact hR.self o so d b h1 h2 hw (SO.lies_congr (α := α) (hF.foot hR h1 h2).2.2.2 hk hl) (Ice.congr hk hi)
    · exact hi
  · simp only [List.length_append, List.length_cons, List.length_nil] at ho
    rw [Al.add_other (by omega)]; exact hR.none o (by omega)
  · by_cases h : o = st.length
    · subst h; rw [hbox] at hd; cases hd; rfl
    · rw [Al.add_other h] at hd; exact hR.cell o d hd
  · rcases hcase o so d ho hd with ⟨h0, h1, h2⟩ | ⟨rfl, rfl, rfl⟩
    · exact .inr ⟨h0, so, h1, SO.lies_congr (α := α) (hF.foot hR h1 h2).2.2.2 (fun c hc => hF.kept c ((hF.foot hR h1 h2).2.2.1 c hc)) hl⟩
    · have hl : b = it := hl
      have := hF.new; omega
  · rcases hcase o so d ho hd with ⟨h0, h1, h2⟩ | ⟨rfl, rfl, rfl⟩
    · exact .inr ⟨o, so, d, h1, h2, Ice.congr (fun c hc => hF.kept c ((hF.foot hR h1 h2).2.2.1 c hc)) hi⟩
    · exact hi.elim
  · obtain ⟨o, so, d, ho, hd, hw, hl⟩ := hw
    rcases hcase o so d ho hd with ⟨h0, h1, h2⟩ | ⟨rfl, rfl, rfl⟩
    · exact ⟨o, so, d, h1, h2, hw, SO.lies_congr (α := α) (hF.foot hR h1 h2).2.2.2 (fun c hc => hF.kept c ((hF.foot hR h1 h2).2.2.1 c hc)) hl⟩
    · have hl : b = it := hl
      have := hF.new; omega
theorem RgF.mk' (hF : RgF w0 w ob it ds) (hR : R α st w0) (hob : ob ≠ .deferred (some [])) : MarksOk w0 (α.add st.length (itDen it)) (st ++ [some (.box true ob)]) w ds := by
  obtain ⟨ms, h1, h2, h3⟩ := hF.marks
  refine ⟨ms, h1, h2, fun b hb => ⟨(h3 b hb).1, (h3 b hb).2, fun o so d ho hd hf => ?_⟩⟩
  rcases St.get_append ho with h | ⟨rfl, h⟩
  · have hd' : α o = some d := by rw [← hd]; exact (Al.add_other (by have := St.get_lt h; omega)).symm
    obtain ⟨_, f1, f2, _⟩ := hF.foot hR h hd'
    have := f2 b (f1 b hf)
    have := (h3 b hb).1
    omega
  · cases h
    rw [Al.add_same] at hd; cases hd
    rcases hf with hf | hf
    · have hf : b = it := hf
      subst hf
      have := (h3 _ hb).2
      rw [hF.ob] at this
      exact hob (Option.some.inj this)
    · exact hf.elim
/-- The same without the iterator. -/
theorem RgF.back {α' : Al} {st' : St} {w' : World} {j : Nat} (hR : R α st w0) (hn : ∀ b, ¬ Wr α st w0 b) (hto : To α st w0 α' st' w') (hm : MarksOk w0 α' st' w' ds) (hlt : st.length ≤ j) (hj : st'.get j = some (.box true ob)) :
    ∃ it', α' j = some ⟨it', (α' j).elim 0 (·.off), (α' j).elim 0 (·.m), (α' j).elim 0 (·.cap), .pointer (some ⟨it', 0, none⟩), (α' j).elim true (·.live)⟩ ∧ RgF w0 w' ob it' ds := by
  obtain ⟨d, hd, h1, h2⟩ := hto.rep.good j _ hj
  refine ⟨d.blk, by rw [hd]; obtain ⟨b, o, m, c, v, l⟩ := d; simp only at h1; subst h1; rfl, fun b hb => hto.kept b hb (hn b), hto.size, hto.tape, hto.os, hto.output, h2, ?_, ?_⟩
  · by_cases hb : d.blk < w0.heap.size
    · exfalso
      rcases hto.lies j _ d d.blk hj hd hb rfl with h | ⟨h, _⟩
      · exact hn _ h
      · omega
    · omega
  · obtain ⟨ms, h3, h4, h5⟩ := hm
    exact ⟨ms, h3, h4, fun b hb => ⟨(h5 b hb).1, (h5 b hb).2.1⟩⟩
/-- The state, as it was. -/
theorem RgF.to0 (hF : RgF w0 w ob it ds) (hR : R α st w0) : To α st w0 α st w := by
  have hk : ∀ {o so d}, st.get o = some so → α o = some d → ∀ c, Foot w0 d so c → w.heap[c]? = w0.heap[c]? := fun h1 h2 c hc => hF.kept c ((hF.foot hR h1 h2).2.2.1 c hc)
  refine ⟨⟨fun o so ho => ?_, fun o o' so so' d d' b hne ho ho' hd hd' hw hl hf => ?_, fun o so d b ho hd hw hl hi => ?_, hR.none, hR.cell⟩, fun _ _ => rfl, Nat.le_refl _, fun o so d b ho hd hb hl => ?_, fun o so d b ho hd hb hi => ?_, fun b hb hw => ?_, fun b hb _ => hF.kept b hb, hF.size, hF.tape, hF.os, hF.output⟩
  · obtain ⟨d, h1, _⟩ := hR.good o so ho
    exact ⟨d, h1, (hF.foot hR ho h1).1⟩
  · exact hR.sep o o' so so' d d' b hne ho ho' hd hd' hw (SO.lies_congr (α := α) (hF.foot hR ho hd).2.2.2 (hk ho hd) hl) ((hF.foot hR ho' hd').2.1 b hf)
  · exact hR.self o so d b ho hd hw (SO.lies_congr (α := α) (hF.foot hR ho hd).2.2.2 (hk ho hd) hl) (Ice.congr (hk ho hd) hi)
  · exact .inr ⟨St.get_lt ho, so, ho, SO.lies_congr (α := α) (hF.foot hR ho hd).2.2.2 (hk ho hd) hl⟩
  · exact .inr ⟨o, so, d, ho, hd, Ice.congr (hk ho hd) hi⟩
  · obtain ⟨o, so, d, ho, hd, hw, hl⟩ := hw
    exact ⟨o, so, d, ho, hd, hw, SO.lies_congr (α := α) (hF.foot hR ho hd).2.2.2 (hk ho hd) hl⟩
/-- The function's end. -/
theorem RgF.leave {fn : Func} {tmps : Array Value} {S : Ending → World → Prop} (hF : RgF w0 w ob it ds) (hR : R α st w0) (h : ∀ w', To α st w0 α st w' → ∃ v, (results fn tmps).run P w' = .ok v w' ∧ S (.returned v) w') :
    LeavesInM Fence.wide 0 P fn tmps S ds .returning w := by
  obtain ⟨ms, h1, h2, h3⟩ := hF.marks
  rw [h2]
  refine leaves_marks ms w h1 (hF.to0 hR) (fun b hb => ⟨(h3 b hb).1, (h3 b hb).2, fun o so d ho hd hf => ?_⟩) h
  obtain ⟨_, f1, f2, _⟩ := hF.foot hR ho hd
  have := f2 b (f1 b hf)
  have := (h3 b hb).1
  omega
/-- How it begins. -/
theorem RgF.start {α' : Al} {st' : St} {w' : World} (hn : ∀ b, ¬ Wr α st w0 b) (hto : To α st w0 α' st' w') (hm : MarksOk w0 α' st' w' ds) : RgF w0 (w'.alloc ob) ob w'.heap.size ds := by
  have hk : ∀ b, b < w'.heap.size → (w'.alloc ob).heap[b]? = w'.heap[b]? := fun b hb => by
    show (w'.heap.push ob)[b]? = _
    rw [Array.getElem?_push, if_neg (by omega)]
  refine ⟨fun b hb => (hk b (by have := hto.size; omega)).trans (hto.kept b hb (hn b)), ?_, hto.tape, hto.os, hto.output, ?_, hto.size, ?_⟩
  · show _ ≤ (w'.heap.push ob).size
    have := hto.size
    simp; omega
  · show (w'.heap.push ob)[w'.heap.size]? = _
    simp
  · obtain ⟨ms, h1, h2, h3⟩ := hm
    exact ⟨ms, h1, h2, fun b hb => ⟨(h3 b hb).1, (hk b (Array.getElem?_eq_some_iff.1 (h3 b hb).2.1).1).trans (h3 b hb).2.1⟩⟩
/-! frames told by their slots -/
theorem frmFrom_get (l : List (Nat × SV)) : ∀ (n i t : Nat), (frmFrom l i n)[t]? = if t < n then some (frmAt (i + t) l) else none
  | 0, i, t => by simp [frmFrom]
  | n + 1, i, 0 => by simp [frmFrom]
  | n + 1, i, t + 1 => by
    simp only [frmFrom, List.getElem?_cons_succ, frmFrom_get l n (i + 1) t]
    by_cases h : t < n
    · rw [if_pos h, if_pos (by omega), show i + 1 + t = i + (t + 1) from by omega]
    · rw [if_neg h, if_neg (by omega)]
theorem frm_get {l : List (Nat × SV)} {n t : Nat} {sv : SV} : (frm n l).get t = some sv ↔ t < n ∧ frmAt t l = some sv := by
  rw [Fr.get_eq]
  simp only [frm, frmFrom_get, Nat.zero_add]
  by_cases h : t < n
  · rw [if_pos h]; simp [h]
  · rw [if_neg h]; simp [h]
theorem frm_length {l : List (Nat × SV)} {n : Nat} : (frm n l).length = n := by
  have : ∀ (n i : Nat), (frmFrom l i n).length = n := by
    intro n
    induction n with
    | zero => intro i; rfl
    | succ n ih => intro i; simp [frmFrom, ih]
  exact this n 0
theorem frmAt_mem {t : Nat} {sv : SV} : ∀ {l : List (Nat × SV)}, frmAt t l = some sv → (t, sv) ∈ l
  | [], h => by cases h
  | (j, v) :: r, h => by
    simp only [frmAt] at h
    split at h
    · rename_i hb
      have := Nat.eq_of_beq_eq_true hb
      cases h; subst this; simp
    · exact List.mem_cons_of_mem _ (frmAt_mem h)
theorem FrOk.ofL {n : Nat} {l : List (Nat × SV)} {tmps : Array Value} (hs : tmps.size = n) (h : ∀ p ∈ l, ∃ v, tmps[p.1]? = some v ∧ SV.rep α p.2 v) : FrOk α (frm n l) tmps :=
  ⟨by rw [frm_length, hs], fun t sv ht => h (t, sv) (frmAt_mem (frm_get.1 ht).2)⟩
theorem FrOk.atL {n : Nat} {l : List (Nat × SV)} {tmps : Array Value} (hf : FrOk α (frm n l) tmps) {t : Nat} {sv : SV} (ht : frmAt t l = some sv) (hlt : t < n) : ∃ v, tmps[t]? = some v ∧ SV.rep α sv v := hf.2 t sv (frm_get.2 ⟨hlt, ht⟩)
theorem FrOk.sizeL {n : Nat} {l : List (Nat × SV)} {tmps : Array Value} (hf : FrOk α (frm n l) tmps) : tmps.size = n := by rw [← hf.1, frm_length]
/-- A piece of code beside the iterator. -/
theorem box_piece {cx : Cx} (hx : CxOk P cx) {n f : Nat} {c : Code} {fr : Fr} {k : Exit → Fr → St → Prop} {Q : Exit → Act → World → Prop} {a : Act} (hob : ob ≠ .deferred (some [])) (hF : RgF w0 w ob it a.defers) (hR : R α st w0)
    (hf : FrOk (α.add st.length (itDen it)) fr a.tmps) (h : ev cx n st.length f c fr (st ++ [some (.box true ob)]) k)
    (hK : ∀ ex fr' st' α' a' w', k ex fr' st' → FrOk α' fr' a'.tmps → To α st w0 α' st' w' → MarksOk w0 α' st' w' a'.defers → Q ex a' w') : c.wpIn (Wide none) 0 P Q a w :=
  (ev_sound hx n).1 (fun _ => rfl) (hF.to hR) hf (hF.mk' hR hob) h fun ex fr' st' α' a' w' hk hf' hto hm => hK ex fr' st' α' a' w' hk hf' hto hm
end
end Go.Ev
