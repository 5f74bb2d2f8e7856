/- Part B of a checked reader of the program form: what it computes on an abstract state is what the model does, in any order of a region. No conditions. -/
import Derived.Test.YtmgdjbppmndlnaaEvA
import Derived.RangeFuncRecord
import Derived.LoopNIn
import Derived.Below
import Derived.IntWalk
import Derived.WalkKit
import Derived.ProofKit
import Derived.ChangeOld
set_option linter.unusedSimpArgs false
set_option linter.unusedVariables false
/- THE ENGINE, part 11: maps; len, cap. -/
namespace Go.Ev
open Go
variable {P : Program} {α : Al} {st : St} {w : World}

theorem SA.raw?_spec {a : SA} {v u : Value} (h : a.raw? = some v) (hr : a.rep α u) : u = v := by
  unfold SA.raw? at h
  split at h
  · cases h; simp only [SA.rep, SC.val?, Option.some.injEq] at hr; exact hr.symm
  · simp at h
  · split at h
    · rename_i vs hv
      cases h
      obtain ⟨us, r, rfl⟩ := hr
      rw [rawL_spec hv r]
    · simp at h

theorem evFind_sound {kt : TypeId} {d : TypeDesc} {x : Value} : ∀ {es : List SE} {xs : List MapEntry} {i : Nat} {K : Option (Nat × SE) → Prop}, EntsRep α es xs → evFind P kt d x es i K →
    ∃ r res, K r ∧ (plainKey d = true → Instr.findNow d x xs i = some res) ∧ (plainKey d = false → (Instr.findAsking kt x xs i).run P w = .ok res w) ∧
      ((r = none ∧ res = none) ∨ ∃ n en xe, r = some (i + n, en) ∧ es[n]? = some en ∧ xs[n]? = some xe ∧ evSame P kt d x en.key = some true ∧ res = some (i + n, xe.val))
  | [], [], i, K, _, h => ⟨none, none, h, fun _ => rfl, fun _ => by simp [Instr.findAsking], .inl ⟨rfl, rfl⟩⟩
  | e :: es, xe :: xs, i, K, hr, h => by
    obtain ⟨⟨h1, h2, h3⟩, hr⟩ := hr
    simp only [evFind] at h
    split at h
    · rename_i b hb
      rcases branch_or h with ⟨rfl, h⟩ | ⟨rfl, h⟩
      · refine ⟨_, some (i, xe.val), h, fun hp => ?_, fun hp => ?_, .inr ⟨0, e, xe, rfl, rfl, rfl, hb, rfl⟩⟩
        · simp only [evSame, hp] at hb
          simp [Instr.findNow, h1, hb]
        · simp only [evSame, hp] at hb
          simp [Instr.findAsking, h1, pureSem_run hb]
      · obtain ⟨r, res, g1, g2, g3, g4⟩ := evFind_sound hr h
        refine ⟨r, res, g1, fun hp => ?_, fun hp => ?_, ?_⟩
        · have hb' := hb
          simp only [evSame, hp] at hb'
          simp [Instr.findNow, h1, hb', g2 hp]
        · have hb' := hb
          simp only [evSame, hp] at hb'
          simp [Instr.findAsking, h1, pureSem_run hb', g3 hp]
        · rcases g4 with g4 | ⟨n, en, xe', a1, a2, a3, a4, a5⟩
          · exact .inl g4
          · exact .inr ⟨n + 1, en, xe', by rw [a1, show i + 1 + n = i + (n + 1) from by omega], by simpa using a2, by simpa using a3, a4, by rw [a5, show i + 1 + n = i + (n + 1) from by omega]⟩
    · exact h.elim
  | [], _ :: _, _, _, hr, _ => hr.elim
  | _ :: _, [], _, _, hr, _ => hr.elim

theorem sameNow_other {d : TypeDesc} {a b : Value} (h : plainKey d = false) : Instr.sameNow d a b = none := by
  cases d <;> first | (simp [plainKey] at h; done) | rfl

theorem findKey_run {kt : TypeId} {d : TypeDesc} {x : Value} {xs : List MapEntry} {res : Option (Nat × Value)} (hu : P.underlying kt = some d)
    (h1 : plainKey d = true → Instr.findNow d x xs 0 = some res) (h2 : plainKey d = false → (Instr.findAsking kt x xs 0).run P w = .ok res w) : (Instr.findKey kt x xs).run P w = .ok res w := by
  simp only [Instr.findKey, Sem.run_bind, run_under hu, Result.andThen_ok]
  cases hp : plainKey d with
  | true => rw [h1 hp]; rfl
  | false =>
    cases xs with
    | nil =>
      have := h2 hp
      simp [Instr.findAsking] at this
      subst this
      rfl
    | cons e r =>
      simp only [Instr.findNow, sameNow_other hp]
      exact h2 hp

theorem okKey_run {b : Bool} {kt : TypeId} {x : Value} (h : okKey P b kt x = true) (w : World) : (Instr.checkKey b 10000 kt x).run P w = .ok () w := by
  unfold okKey at h
  split at h
  · rename_i u hu; cases u; exact pureSem_run hu w
  · simp at h

theorem EntsRep.length : ∀ {es : List SE} {xs : List MapEntry}, EntsRep α es xs → xs.length = es.length
  | [], [], _ => rfl
  | _ :: _, _ :: _, h => by simp [EntsRep.length h.2]
  | [], _ :: _, h => h.elim
  | _ :: _, [], h => h.elim
theorem EntsRep.get : ∀ {es : List SE} {xs : List MapEntry}, EntsRep α es xs → ∀ {n : Nat} {en : SE}, es[n]? = some en → ∃ xe, xs[n]? = some xe ∧ xe.key = en.key ∧ xe.born = en.born ∧ en.val.rep α xe.val
  | [], [], _, _, _, h => by simp at h
  | e :: es, x :: xs, hr, 0, en, h => by simp at h; subst h; exact ⟨x, rfl, hr.1⟩
  | e :: es, x :: xs, hr, n + 1, en, h => by simpa using EntsRep.get hr.2 (by simpa using h)
  | [], _ :: _, h, _, _, _ => h.elim
  | _ :: _, [], h, _, _, _ => h.elim
theorem EntsRep.snoc : ∀ {es : List SE} {xs : List MapEntry} {e : SE} {x : MapEntry}, EntsRep α es xs → x.key = e.key → x.born = e.born → e.val.rep α x.val → EntsRep α (es ++ [e]) (xs ++ [x])
  | [], [], _, _, _, h1, h2, h3 => ⟨⟨h1, h2, h3⟩, trivial⟩
  | _ :: _, _ :: _, _, _, hr, h1, h2, h3 => ⟨hr.1, EntsRep.snoc hr.2 h1 h2 h3⟩
  | [], _ :: _, _, _, h, _, _, _ => h.elim
  | _ :: _, [], _, _, h, _, _, _ => h.elim
theorem EntsRep.setVal : ∀ {es : List SE} {xs : List MapEntry} {n : Nat} {x : Value} {v : SA} {u : Value}, EntsRep α es xs → v.rep α u → EntsRep α (setVal es n x v) (xs.modify n fun e => { e with key := x, val := u })
  | [], [], _, _, _, _, _, _ => by simp [Ev.setVal, EntsRep]
  | e :: es, y :: xs, 0, x, v, u, hr, hv => by simp only [Ev.setVal, List.modify_cons, if_true]; exact ⟨⟨rfl, hr.1.2.1, hv⟩, hr.2⟩
  | e :: es, y :: xs, n + 1, x, v, u, hr, hv => by
    simp only [Ev.setVal, List.modify_succ_cons]
    exact ⟨hr.1, EntsRep.setVal hr.2 hv⟩
  | [], _ :: _, _, _, _, _, h, _ => h.elim
  | _ :: _, [], _, _, _, _, h, _ => h.elim
theorem EntsRep.setKey : ∀ {es : List SE} {xs : List MapEntry} {n : Nat} {x : Value}, EntsRep α es xs → EntsRep α (setKey es n x) (xs.modify n fun e => { e with key := x })
  | [], [], _, _, _ => by simp [Ev.setKey, EntsRep]
  | e :: es, y :: xs, 0, x, hr => by simp only [Ev.setKey, List.modify_cons, if_true]; exact ⟨⟨rfl, hr.1.2.1, hr.1.2.2⟩, hr.2⟩
  | e :: es, y :: xs, n + 1, x, hr => by
    simp only [Ev.setKey, List.modify_succ_cons]
    exact ⟨hr.1, EntsRep.setKey hr.2⟩
  | [], _ :: _, _, _, h => h.elim
  | _ :: _, [], _, _, h => h.elim
theorem EntsRep.erase : ∀ {es : List SE} {xs : List MapEntry} {n : Nat}, EntsRep α es xs → EntsRep α (eraseAt es n) (xs.eraseIdx n)
  | [], [], _, _ => by simp [Ev.eraseAt, EntsRep]
  | e :: es, y :: xs, 0, hr => by simp only [Ev.eraseAt, List.eraseIdx_cons_zero]; exact hr.2
  | e :: es, y :: xs, n + 1, hr => by simp only [Ev.eraseAt, List.eraseIdx_cons_succ]; exact ⟨hr.1, EntsRep.erase hr.2⟩
  | [], _ :: _, _, h => h.elim
  | _ :: _, [], _, h => h.elim

/-- A map's block turned. -/
theorem map_upd (hR : R α st w) {o : Nat} {d : Den} {es es' : List SE} {cl cl' : Nat} {xs' : List MapEntry} (hst : st.get o = some (.mp true es cl)) (hd : α o = some d) (hlt : d.blk < w.heap.size)
    (hv : d.val = .map (some d.blk)) (hr : EntsRep α es' xs') :
    To α st w α (st.put o (some (.mp true es' cl'))) { w with heap := w.heap.setIfInBounds d.blk (.map xs'.toArray cl') } :=
  To.upd hR hst hd rfl rfl (by simp) (fun b hb => by simp [Array.getElem?_setIfInBounds]; intro e; exact absurd e.symm hb) rfl rfl rfl ⟨hv, xs', by simp [Array.getElem?_setIfInBounds, hlt], hr⟩

theorem run_getObj_map {r cl : Nat} {xs : Array MapEntry} (h : w.heap[r]? = some (.map xs cl)) : (getObj r).run P w = .ok (.map xs cl) w := by
  simp [getObj, Sem.run, h]
theorem run_setObj_map {r cl cl' : Nat} {xs xs' : Array MapEntry} (h : w.heap[r]? = some (.map xs cl)) : (setObj r (.map xs' cl')).run P w = .ok () { w with heap := w.heap.setIfInBounds r (.map xs' cl') } := by
  simp [setObj, Sem.run, h]

theorem isNil_eq {β γ : Type} {es : List β} {xs : List γ} (h : xs.length = es.length) : isNil es = xs.toArray.isEmpty := by
  cases es <;> cases xs <;> first | rfl | simp at h

theorem evLookup_sound {T : TypeId} {m ix : SA} {mv iv : Value} {ok : Bool} {k : SV → Prop} (hR : R α st w) (hm : m.rep α mv) (hi : ix.rep α iv) (h : evLookup P T st m ix ok k) :
    ∃ sv v, (Instr.lookup T mv iv ok).run P w = .ok v w ∧ sv.rep α v ∧ k sv := by
  unfold evLookup at h
  split at h
  · rename_i kt e x hu hx
    have hiv := SA.raw?_spec hx hi
    subst hiv
    split at h
    · rename_i z d hz hd
      have fin : ∀ (r : Option (Nat × SE)) (v : Value) (b : Bool), evFound z ok k r →
          ((r = none ∧ v = z ∧ b = false) ∨ ∃ n en, r = some (n, en) ∧ en.val.rep α v ∧ b = true) →
          ∃ sv : SV, sv.rep α (if ok = true then .tuple #[v, .bool b] else v) ∧ k sv := by
        intro r v b h hc
        rcases hc with ⟨rfl, rfl, rfl⟩ | ⟨n, en, rfl, hv, rfl⟩
        · cases ok with
          | true => exact ⟨.tup [SA.ofValue v, .one (.raw (.bool false))], ⟨[v, .bool false], ⟨SA.rep_ofValue v, rfl, trivial⟩, rfl⟩, h⟩
          | false => exact ⟨.sa (SA.ofValue v), SA.rep_ofValue v, h⟩
        · cases ok with
          | true => exact ⟨.tup [en.val, .one (.raw (.bool true))], ⟨[v, .bool true], ⟨hv, rfl, trivial⟩, rfl⟩, h⟩
          | false => exact ⟨.sa en.val, hv, h⟩
      split at h
      · -- nil
        simp only [SA.rep, SC.val?, Option.some.injEq] at hm
        subst hm
        split at h
        · rename_i hk
          obtain ⟨sv, h1, h2⟩ := fin none z false h (.inl ⟨rfl, rfl, rfl⟩)
          refine ⟨sv, _, ?_, h1, h2⟩
          simp [Instr.lookup, run_under hu, okKey_run hk, Instr.findKey, run_under hd, Instr.findNow, run_zero hz]
        · exact h.elim
      · rename_i o
        split at h
        · rename_i wr es cl hst
          split at h
          · rename_i hk
            obtain ⟨dn, hdn, g1, xs, g2, g3⟩ := hR.good o _ hst
            simp only [SA.rep, SC.val?, hdn, Option.some.injEq] at hm
            rw [g1] at hm
            subst hm
            obtain ⟨r, res, f1, f2, f3, f4⟩ := evFind_sound (w := w) g3 h
            have hfind := findKey_run hd f2 f3
            have hemp := isNil_eq g3.length
            rw [hemp] at hk
            rcases f4 with ⟨rfl, rfl⟩ | ⟨n, en, xe, rfl, a2, a3, a4, rfl⟩
            · obtain ⟨sv, h1, h2⟩ := fin none z false f1 (.inl ⟨rfl, rfl, rfl⟩)
              refine ⟨sv, _, ?_, h1, h2⟩
              simp only [Instr.lookup, Sem.run_bind, run_under hu, Result.andThen_ok, run_getObj_map g2, Sem.run_pure, okKey_run hk, hfind, run_zero hz]
            · obtain ⟨xe', b1, b2, b3, b4⟩ := g3.get a2
              rw [a3] at b1; cases b1
              obtain ⟨sv, h1, h2⟩ := fin (some (0 + n, en)) xe.val true f1 (.inr ⟨_, en, rfl, b4, rfl⟩)
              refine ⟨sv, _, ?_, h1, h2⟩
              simp only [Instr.lookup, Sem.run_bind, run_under hu, Result.andThen_ok, run_getObj_map g2, Sem.run_pure, okKey_run hk, hfind]
          · exact h.elim
        · exact h.elim
      · exact h.elim
    · exact h.elim
  · exact h.elim

theorem bytes_eq {a b : ByteArray} (h : (a == b) = true) : a = b := by
  cases a with | mk a => cases b with | mk b => exact congrArg _ (eq_of_beq (show (a == b) = true from h))
theorem bytes_refl (a : ByteArray) : (a == a) = true := by
  cases a with | mk a => exact (beq_self_eq_true a : (a == a) = true)

theorem stays_run {kt : TypeId} {d : TypeDesc} {old x : Value} {p : Prop} (hs : evSame P kt d x old = some true) (h : evStays d old x p) : (Instr.keyThatStays old x).run P w = .ok x w ∧ p := by
  unfold evStays at h
  split at h
  · rename_i hp
    refine ⟨?_, h⟩
    simp only [evSame, hp] at hs
    have : Instr.sameBits 10000 old x = true := by
      unfold Instr.sameNow at hs
      split at hs
      · split at hs
        · rename_i hk; subst hk
          simp at hs
          subst hs
          simp [Instr.sameBits]
        · simp at hs
      · have he := bytes_eq (Option.some.inj hs); subst he; simp [Instr.sameBits, bytes_refl]
      · have he := eq_of_beq (Option.some.inj hs); subst he; simp [Instr.sameBits]
      · simp at hs
    simp [Instr.keyThatStays, this]
  · obtain ⟨hb, h⟩ := need_iff.1 h
    exact ⟨by simp [Instr.keyThatStays, hb], h⟩

theorem evMapUpdate_sound {T : TypeId} {m ix v : SA} {mv iv vv : Value} {k : St → Prop} (hR : R α st w) (hm : m.rep α mv) (hi : ix.rep α iv) (hv : v.rep α vv) (h : evMapUpdate P T st m ix v k) :
    ∃ w' st', (Instr.mapUpdate T mv iv vv).run P w = .ok () w' ∧ k st' ∧ To α st w α st' w' := by
  unfold evMapUpdate at h
  split at h
  · rename_i kt e x hu hx
    have hiv := SA.raw?_spec hx hi
    subst hiv
    split at h
    · rename_i d o hd
      split at h
      · rename_i es cl hst
        split at h
        · rename_i hk
          obtain ⟨dn, hdn, g1, xs, g2, g3⟩ := hR.good o _ hst
          have hlt : dn.blk < w.heap.size := (Array.getElem?_eq_some_iff.1 g2).1
          simp only [SA.rep, SC.val?, hdn, Option.some.injEq] at hm
          rw [g1] at hm
          subst hm
          obtain ⟨r, res, f1, f2, f3, f4⟩ := evFind_sound (w := w) g3 h
          unfold evUpdWith at f1
          have hfind := findKey_run hd f2 f3
          rcases f4 with ⟨rfl, rfl⟩ | ⟨n, en, xe, rfl, a2, a3, a4, rfl⟩
          · refine ⟨_, _, ?_, f1, map_upd (cl' := cl + 1) hR hst hdn hlt g1 (g3.snoc (e := { key := iv, val := v, born := cl }) (x := { key := iv, val := vv, born := cl }) rfl rfl hv)⟩
            simp only [Instr.mapUpdate, Sem.run_bind, run_under hu, Result.andThen_ok, run_getObj_map g2, okKey_run hk, hfind, run_setObj_map g2]
            simp
          · obtain ⟨xe', b1, b2, b3, b4⟩ := g3.get a2
            rw [a3] at b1; cases b1
            obtain ⟨hst2, f1⟩ := stays_run (w := w) a4 f1
            refine ⟨_, _, ?_, f1, map_upd (cl' := cl) hR hst hdn hlt g1 (g3.setVal (n := 0 + n) (x := iv) hv)⟩
            have hkey : ((xs.toArray[0 + n]?).map (·.key)).getD iv = en.key := by simp [a3, b2]
            simp only [Instr.mapUpdate, Sem.run_bind, run_under hu, Result.andThen_ok, run_getObj_map g2, okKey_run hk, hfind, hkey, hst2, run_setObj_map g2]
            simp
        · exact h.elim
      · exact h.elim
    · exact h.elim
  · exact h.elim

theorem evDelete_sound {T ty : TypeId} {m ix : SA} {mv iv : Value} {k : St → Prop} (hR : R α st w) (hm : m.rep α mv) (hi : ix.rep α iv) (h : evDelete P T st m ix k) (ts : List TypeId) :
    ∃ w' st', (Builtin.delete_ (T :: ts).toArray ty #[mv, iv]).run P w = .ok (.tuple #[]) w' ∧ k st' ∧ To α st w α st' w' := by
  unfold evDelete at h
  split at h
  · rename_i kt e x hu hx
    have hiv := SA.raw?_spec hx hi
    subst hiv
    split at h
    · rename_i d o hd
      split at h
      · rename_i es cl hst
        split at h
        · rename_i hk
          obtain ⟨dn, hdn, g1, xs, g2, g3⟩ := hR.good o _ hst
          have hlt : dn.blk < w.heap.size := (Array.getElem?_eq_some_iff.1 g2).1
          simp only [SA.rep, SC.val?, hdn, Option.some.injEq] at hm
          rw [g1] at hm
          subst hm
          rw [isNil_eq g3.length] at hk
          obtain ⟨r, res, f1, f2, f3, f4⟩ := evFind_sound (w := w) g3 h
          unfold evDelWith at f1
          have hfind := findKey_run hd f2 f3
          have hck := okKey_run (P := P) (b := xs.isEmpty) (by simpa using hk) w
          rcases f4 with ⟨rfl, rfl⟩ | ⟨n, en, xe, rfl, a2, a3, a4, rfl⟩
          · have hto := map_upd (cl' := cl) hR hst hdn hlt g1 g3
            have hput : st.put o (some (.mp true es cl)) = st := by
              rw [St.put_eq]
              have hlt := St.get_lt hst
              rw [St.get_eq, List.getElem?_eq_getElem hlt] at hst
              simp at hst
              rw [← hst]
              exact List.set_getElem_self hlt
            rw [hput] at hto
            refine ⟨_, _, ?_, f1, hto⟩
            simp only [Builtin.delete_]
            simp [run_underlying hu, run_getObj_map g2, hck, hfind, run_setObj_map g2]
          · refine ⟨_, _, ?_, f1, map_upd (cl' := cl) hR hst hdn hlt g1 (g3.erase (n := 0 + n))⟩
            simp only [Builtin.delete_]
            simp [run_underlying hu, run_getObj_map g2, hck, hfind, run_setObj_map g2]
        · exact h.elim
      · exact h.elim
    · exact h.elim
  · exact h.elim

theorem evMapEntry_sound {T : TypeId} {m ix : SA} {mv iv : Value} {k : SV → St → Prop} (hR : R α st w) (hm : m.rep α mv) (hi : ix.rep α iv) (h : evMapEntry P T st m ix k) :
    Got P α st w (Instr.mapEntry T mv iv) k := by
  unfold evMapEntry at h
  split at h
  · rename_i kt e x hu hx
    have hiv := SA.raw?_spec hx hi
    subst hiv
    split at h
    · rename_i d o z hd hz
      split at h
      · rename_i es cl hst
        split at h
        · rename_i hk
          obtain ⟨dn, hdn, g1, xs, g2, g3⟩ := hR.good o _ hst
          have hlt : dn.blk < w.heap.size := (Array.getElem?_eq_some_iff.1 g2).1
          simp only [SA.rep, SC.val?, hdn, Option.some.injEq] at hm
          rw [g1] at hm
          subst hm
          obtain ⟨r, res, f1, f2, f3, f4⟩ := evFind_sound (w := w) g3 h
          unfold evEntryWith at f1
          have hfind := findKey_run hd f2 f3
          rcases f4 with ⟨rfl, rfl⟩ | ⟨n, en, xe, rfl, a2, a3, a4, rfl⟩
          · refine ⟨.tuple #[z, .int .i64 cl], _, α, .tup [SA.ofValue z, .one (.raw (.int .i64 cl))], _, ?_, ⟨[z, .int .i64 cl], ⟨SA.rep_ofValue z, rfl, trivial⟩, rfl⟩, f1,
              map_upd (cl' := cl + 1) hR hst hdn hlt g1 (g3.snoc (e := { key := iv, val := SA.ofValue z, born := cl }) (x := { key := iv, val := z, born := cl }) rfl rfl (SA.rep_ofValue z))⟩
            simp only [Instr.mapEntry, Sem.run_bind, run_under hu, Result.andThen_ok, run_getObj_map g2, okKey_run hk, hfind, run_setObj_map g2, run_zero hz]
            simp [goInt]
          · obtain ⟨xe', b1, b2, b3, b4⟩ := g3.get a2
            rw [a3] at b1; cases b1
            obtain ⟨hst2, f1⟩ := stays_run (w := w) a4 f1
            refine ⟨.tuple #[xe.val, .int .i64 en.born], _, α, .tup [en.val, .one (.raw (.int .i64 en.born))], _, ?_, ⟨[xe.val, .int .i64 en.born], ⟨b4, rfl, trivial⟩, rfl⟩, f1, map_upd (cl' := cl) hR hst hdn hlt g1 (g3.setKey (n := 0 + n) (x := iv))⟩
            have hkey : ((xs.toArray[0 + n]?).map (·.key)).getD iv = en.key := by simp [a3, b2]
            simp only [Instr.mapEntry, Sem.run_bind, run_under hu, Result.andThen_ok, run_getObj_map g2, okKey_run hk, hfind, hkey, hst2, run_setObj_map g2]
            simp [goInt, a3, b3]
        · exact h.elim
      · exact h.elim
    · exact h.elim
  · exact h.elim

theorem setBorn_spec {b : Int} {v : SA} {u : Value} (hv : v.rep α u) : ∀ {es es' : List SE} {xs : List MapEntry}, EntsRep α es xs → setBorn es b v = some es' →
    ∃ n, xs.findIdx? (fun e => (e.born : Int) == b) = some n ∧ EntsRep α es' (xs.modify n fun e => { e with val := u })
  | [], _, [], _, h => by simp [setBorn] at h
  | e :: es, es', x :: xs, hr, h => by
    simp only [setBorn] at h
    split at h
    · rename_i he
      have he : (e.born : Int) = b := by simpa using he
      cases h
      refine ⟨0, ?_, ?_⟩
      · simp [List.findIdx?_cons, hr.1.2.1, he]
      · simp only [List.modify_cons, if_true]
        exact ⟨⟨hr.1.1, hr.1.2.1, hv⟩, hr.2⟩
    · rename_i he
      have he : ¬ (e.born : Int) = b := by simpa using he
      split at h
      · rename_i l hl
        cases h
        obtain ⟨n, h1, h2⟩ := setBorn_spec hv hr.2 hl
        refine ⟨n + 1, ?_, ?_⟩
        · simp [List.findIdx?_cons, hr.1.2.1, he, h1]
        · simp only [List.modify_succ_cons]
          exact ⟨hr.1, h2⟩
      · simp at h
  | [], _, _ :: _, hr, _ => hr.elim
  | _ :: _, _, [], hr, _ => hr.elim

theorem evEntryStore_sound {T : TypeId} {m s v : SA} {mv sv vv : Value} {k : St → Prop} (hR : R α st w) (hm : m.rep α mv) (hs : s.rep α sv) (hv : v.rep α vv) (h : evEntryStore st m s v k) :
    ∃ w' st', (Instr.entryStore T mv sv vv).run P w = .ok () w' ∧ k st' ∧ To α st w α st' w' := by
  unfold evEntryStore at h
  split at h
  · rename_i o kk b
    split at h
    · rename_i es cl hst
      split at h
      · rename_i es' hes
        obtain ⟨dn, hdn, g1, xs, g2, g3⟩ := hR.good o _ hst
        have hlt : dn.blk < w.heap.size := (Array.getElem?_eq_some_iff.1 g2).1
        simp only [SA.rep, SC.val?, hdn, Option.some.injEq] at hm hs
        rw [g1] at hm
        subst hm; subst hs
        obtain ⟨n, h1, h2⟩ := setBorn_spec hv g3 hes
        refine ⟨_, _, ?_, h, map_upd (cl' := cl) hR hst hdn hlt g1 h2⟩
        simp only [Instr.entryStore, Sem.run_bind, Result.andThen_ok, run_getObj_map g2, asInt, asIntOf, Sem.run_pure]
        simp [h1, run_setObj_map g2]
      · exact h.elim
    · exact h.elim
  · exact h.elim

/-! ### len, cap -/
theorem evLen_sound {T ty : TypeId} {x : SA} {xv : Value} {k : SV → Prop} (hR : R α st w) (hx : x.rep α xv) (h : evLen P T st x k) :
    ∃ sv v, (Builtin.len_ #[T] ty #[xv]).run P w = .ok v w ∧ sv.rep α v ∧ k sv := by
  unfold evLen at h
  split at h
  · rename_i e o i n c hu
    simp only [SA.rep, SC.val?] at hx
    split at hx <;> simp at hx
    subst hx
    exact ⟨.sa (.one (.raw (.int .i64 n))), .int .i64 n, by simp only [Builtin.len_]; simp [run_underlying hu, goInt], rfl, h⟩
  · rename_i e a n c hu
    simp only [SA.rep, SC.val?, Option.some.injEq] at hx
    subst hx
    exact ⟨.sa (.one (.raw (.int .i64 n))), .int .i64 n, by simp only [Builtin.len_]; simp [run_underlying hu, goInt], rfl, h⟩
  · rename_i e q hu
    split at h
    · rename_i o L hst
      obtain ⟨d, hd, e', a, c, g1, g2, g3⟩ := hR.good q _ hst
      simp only [SA.rep, SC.val?, hd, Option.some.injEq] at hx
      rw [g2] at hx
      subst hx
      exact ⟨.sa (.one (.raw (.int .i64 0))), .int .i64 0, by simp only [Builtin.len_]; simp [run_underlying hu, goInt], rfl, h⟩
    · exact h.elim
  · rename_i s hu
    simp only [SA.rep, SC.val?, Option.some.injEq] at hx
    subst hx
    exact ⟨.sa (.one (.raw (.int .i64 s.size))), .int .i64 s.size, by simp only [Builtin.len_]; simp [run_underlying hu, goInt], rfl, h⟩
  · rename_i n e hu
    exact ⟨.sa (.one (.raw (.int .i64 n))), .int .i64 n, by simp only [Builtin.len_]; simp [run_underlying hu, goInt], rfl, h⟩
  · rename_i arr hu
    split at h
    · rename_i n e hu2
      exact ⟨.sa (.one (.raw (.int .i64 n))), .int .i64 n, by simp only [Builtin.len_]; simp [run_underlying hu, run_underlying hu2, goInt], rfl, h⟩
    · exact h.elim
  · rename_i a b hu
    simp only [SA.rep, SC.val?, Option.some.injEq] at hx
    subst hx
    exact ⟨.sa (.one (.raw (.int .i64 0))), .int .i64 0, by simp only [Builtin.len_]; simp [run_underlying hu, goInt], rfl, h⟩
  · rename_i a b o hu
    split at h
    · rename_i wr es cl hst
      obtain ⟨dn, hdn, g1, xs, g2, g3⟩ := hR.good o _ hst
      simp only [SA.rep, SC.val?, hdn, Option.some.injEq] at hx
      rw [g1] at hx
      subst hx
      have hl := g3.length
      refine ⟨.sa (.one (.raw (.int .i64 (lenL es)))), .int .i64 (lenL es), ?_, rfl, h⟩
      simp only [Builtin.len_]
      simp [run_underlying hu, run_getObj_map g2, goInt, hl]
    · exact h.elim
  · exact h.elim

theorem evCap_sound {T ty : TypeId} {x : SA} {xv : Value} {k : SV → Prop} (hR : R α st w) (hx : x.rep α xv) (h : evCap P T st x k) :
    ∃ sv v, (Builtin.cap_ #[T] ty #[xv]).run P w = .ok v w ∧ sv.rep α v ∧ k sv := by
  unfold evCap at h
  split at h
  · rename_i e o i n c hu
    simp only [SA.rep, SC.val?] at hx
    split at hx <;> simp at hx
    subst hx
    exact ⟨.sa (.one (.raw (.int .i64 c))), .int .i64 c, by simp only [Builtin.cap_]; simp [run_underlying hu, goInt], rfl, h⟩
  · rename_i e o i n hu
    split at h
    · rename_i wb T' m ct hst
      obtain ⟨d, hd, hg⟩ := hR.good o _ hst
      have hcap : ct.len = d.cap := by
        obtain ⟨_, _, cs, fz, h5, h6, h7, h8, h9, h10⟩ := hg
        exact h9 rfl
      simp only [SA.rep, SC.val?, hd, Option.some.injEq, Option.getD_none] at hx
      subst hx
      refine ⟨.sa (.one (.raw (.int .i64 ((ct.len - i : Nat) : Int)))), .int .i64 ((ct.len - i : Nat) : Int), ?_, rfl, h⟩
      simp only [Builtin.cap_]
      simp [run_underlying hu, goInt, hcap]
    · exact h.elim
  · rename_i e a n c hu
    simp only [SA.rep, SC.val?, Option.some.injEq] at hx
    subst hx
    exact ⟨.sa (.one (.raw (.int .i64 c))), .int .i64 c, by simp only [Builtin.cap_]; simp [run_underlying hu, goInt], rfl, h⟩
  · exact h.elim

end Go.Ev

/- THE ENGINE, part 12: any one operation. -/
namespace Go.Ev
open Go
variable {P : Program} {α : Al} {st : St} {w : World}

/-- The fence that shuts out nothing, in a round or in none. -/
def Wide (r : Option Nat) : Fence := { fn := fun _ => True, depth := none, alive := false, round := r }
theorem wide_none : Wide none = Fence.wide := rfl

/-- What a call leaves. -/
def CallPost (α : Al) (st : St) (w : World) (k : SV → St → Prop) : Ending → World → Prop := fun e w' =>
  ∃ v st' α' val, e = .returned val ∧ SV.rep α' v val ∧ k v st' ∧ To α st w α' st' w'

def CallOk (P : Program) (call : CallT) : Prop :=
  (∀ g args st k, g < big → call g args st k → (∃ fn c, P.funcs[g]? = some fn ∧ fn.body = some c) ∧
    ∀ α w vals, R α st w → RepsA α args vals → CallsIn Fence.wide 0 P g vals.toArray w (CallPost α st w k)) ∧
  (∀ q args st k, call (big + q) args st k → ∀ α w vals (r : Option Nat), R α st w → RepsA α args vals → ∃ d l, α q = some d ∧ d.val = .func (.yield d.blk) #[] #[] ∧ w.heap[d.blk]? = some (.loop l) ∧
    vals.length = l.params.size ∧
    RoundIn (Wide r) 0 P d.blk l.fn ((l.params.zip vals.toArray).foldl (fun tmps (t, a) => tmps.setIfInBounds t a) l.tmps) l.assign l.body w (CallPost α st w k))

/-- No function with a body bears the name that the model answers by itself. -/
def NamesOk (P : Program) : Prop := ∀ (f : Nat) (fn : Func), P.funcs[f]? = some fn → fn.body.isSome = true → (fn.name == "runtime.NumGoroutine") = false

theorem rhoSA_rep {ρ : Operand → Option SV} {μ : Operand → Value} (hρ : ∀ x sv, ρ x = some sv → sv.rep α (μ x)) {x : Operand} {a : SA} (h : rhoSA ρ x = some a) : a.rep α (μ x) := by
  unfold rhoSA at h
  split at h
  · rename_i b hb; cases h; exact hρ x _ hb
  · simp at h
theorem rhoSAs_rep {ρ : Operand → Option SV} {μ : Operand → Value} (hρ : ∀ x sv, ρ x = some sv → sv.rep α (μ x)) : ∀ {xs : List Operand} {l : List SA}, rhoSAs ρ xs = some l → RepsA α l (xs.map μ)
  | [], l, h => by simp [rhoSAs] at h; subst h; trivial
  | x :: xs, l, h => by
    simp only [rhoSAs] at h
    split at h
    · rename_i a r ha hr; cases h; exact ⟨rhoSA_rep hρ ha, rhoSAs_rep hρ hr⟩
    · simp at h
theorem rhoParts_rep {ρ : Operand → Option SV} {μ : Operand → Value} (hρ : ∀ x sv, ρ x = some sv → sv.rep α (μ x)) : ∀ {xs : List (Nat × Operand)} {l : List (Nat × SA)}, rhoParts ρ xs = some l → RepsP α l (xs.map fun p => (p.1, μ p.2))
  | [], l, h => by simp [rhoParts] at h; subst h; trivial
  | x :: xs, l, h => by
    simp only [rhoParts] at h
    split at h
    · rename_i a r ha hr; cases h; exact ⟨⟨rfl, rhoSA_rep hρ ha⟩, rhoParts_rep hρ hr⟩
    · simp at h
theorem rhoOpt_rep {ρ : Operand → Option SV} {μ : Operand → Value} (hρ : ∀ x sv, ρ x = some sv → sv.rep α (μ x)) {x : Option Operand} {l : Option SA} (h : rhoOpt ρ x = some l) : RepO α l (x.map μ) := by
  cases x with
  | none => simp [rhoOpt] at h; subst h; trivial
  | some x =>
    simp only [rhoOpt] at h
    split at h
    · rename_i a ha; cases h; exact rhoSA_rep hρ ha
    · simp at h

/-- What an operation that answers a value comes to. -/
def ValOp (P : Program) (α : Al) (st : St) (w : World) (s : Sem Next) (k : SV → St → Prop) : Prop :=
  ∃ v w' α' sv st', s.run P w = .ok (.value v) w' ∧ SV.rep α' sv v ∧ k sv st' ∧ To α st w α' st' w'
theorem ValOp.of_got {s : Sem Value} {k : SV → St → Prop} (h : Got P α st w s k) : ValOp P α st w (do pure (.value (← s))) k := by
  obtain ⟨v, w', α', sv, st', h1, h2⟩ := h
  exact ⟨v, w', α', sv, st', by simp [h1], h2⟩
theorem ValOp.of_same {s : Sem Value} {k : SV → St → Prop} (hR : R α st w) (h : ∃ sv v, s.run P w = .ok v w ∧ SV.rep α sv v ∧ k sv st) : ValOp P α st w (do pure (.value (← s))) k := by
  obtain ⟨sv, v, h1, h2, h3⟩ := h
  exact ⟨v, w, α, sv, st, by simp [h1], h2, h3, To.refl hR⟩
theorem ValOp.of_sa {s : Sem Value} {k : SV → St → Prop} {a : SA} (hR : R α st w) (h : ∃ v, s.run P w = .ok v w ∧ a.rep α v) (hk : k (.sa a) st) : ValOp P α st w (do pure (.value (← s))) k := by
  obtain ⟨v, h1, h2⟩ := h
  exact ⟨v, w, α, .sa a, st, by simp [h1], h2, hk, To.refl hR⟩

theorem rawAll_spec : ∀ {l : List SA} {vs us : List Value}, rawAll l = some vs → RepsA α l us → us = vs
  | [], vs, us, h, r => by
    simp [rawAll] at h; subst h
    cases us with | nil => rfl | cons _ _ => exact r.elim
  | a :: l, vs, us, h, r => by
    unfold rawAll at h
    split at h
    · rename_i heq; simp at heq
    · rename_i v r' heq
      simp only [List.cons.injEq] at heq
      obtain ⟨rfl, rfl⟩ := heq
      split at h
      · rename_i l' hl
        cases h
        cases us with
        | nil => exact r.elim
        | cons u us =>
          have h1 := r.1
          simp [SA.rep, SC.val?] at h1
          subst h1
          rw [rawAll_spec hl r.2]
      · simp at h
    · simp at h

theorem evBuiltin_sound {b : Builtin} {ts : Array TypeId} {T : TypeId} {consts : Array Bool} {args : List SA} {vals : Array Value} {k : SV → St → Prop} (hR : R α st w) (ha : RepsA α args vals.toList)
    (h : evBuiltin P b ts.toList T args st k) : ValOp P α st w (builtin b ts T consts vals) k := by
  have one : ∀ {x : SA}, args = [x] → ∃ v, vals = #[v] ∧ x.rep α v := by
    rintro x rfl
    cases vals with | mk l =>
    match l, ha with
    | [v], ha => exact ⟨v, rfl, ha.1⟩
  have two : ∀ {x y : SA}, args = [x, y] → ∃ v u, vals = #[v, u] ∧ x.rep α v ∧ y.rep α u := by
    rintro x y rfl
    cases vals with | mk l =>
    match l, ha with
    | [v, u], ha => exact ⟨v, u, rfl, ha.1, ha.2.1⟩
  have tone : ∀ {t}, ts.toList = [t] → ts = #[t] := fun h => by rw [← Array.toArray_toList (xs := ts), h]
  have ttwo : ∀ {t u}, ts.toList = [t, u] → ts = #[t, u] := fun h => by rw [← Array.toArray_toList (xs := ts), h]
  have tcons : ∀ {t r}, ts.toList = t :: r → ts = (t :: r).toArray := fun h => by rw [← Array.toArray_toList (xs := ts), h]
  unfold evBuiltin at h
  split at h
  · rename_i t x hts
    obtain ⟨v, rfl, hv⟩ := one rfl
    rw [tone hts]
    exact ValOp.of_same hR (evLen_sound hR hv h)
  · rename_i t x hts
    obtain ⟨v, rfl, hv⟩ := one rfl
    rw [tone hts]
    exact ValOp.of_same hR (evCap_sound hR hv h)
  · rename_i t t2 a x hts
    obtain ⟨v, u, rfl, hv, hu⟩ := two rfl
    rw [ttwo hts]
    exact ValOp.of_got (evAppend_sound hR hv hu h)
  · rename_i t r d x hts
    obtain ⟨v, u, rfl, hv, hu⟩ := two rfl
    have := evCopy_sound (T2 := 0) (ty := T) hR hv hu h
    rw [tcons hts]
    refine ValOp.of_got ?_
    obtain ⟨v', w', α', sv, st', h1, h2⟩ := this
    refine ⟨v', w', α', sv, st', ?_, h2⟩
    rw [← h1]
    simp only [Builtin.copy_]
    simp
  · rename_i t x hts
    obtain ⟨v, rfl, hv⟩ := one rfl
    rw [tone hts]
    exact ValOp.of_got (evClear_sound hR hv h)
  · rename_i t r m x hts
    obtain ⟨v, u, rfl, hv, hu⟩ := two rfl
    rw [tcons hts]
    obtain ⟨w', st', h1, h2, h3⟩ := evDelete_sound (ty := T) hR hv hu h r
    exact ⟨.tuple #[], w', α, .tup [], st', by simp [builtin, h1], ⟨[], trivial, rfl⟩, h2, h3⟩
  · obtain ⟨vs, hvs, h⟩ := opt_iff.1 h
    obtain ⟨r, hr, h⟩ := opt_iff.1 h
    have := rawAll_spec hvs ha
    refine ValOp.of_same hR ⟨.sa (.one (.raw r)), r, ?_, rfl, h⟩
    have h1 := pureSem_run hr w
    rw [← this] at h1
    simpa [Builtin.min_] using h1
  · obtain ⟨vs, hvs, h⟩ := opt_iff.1 h
    obtain ⟨r, hr, h⟩ := opt_iff.1 h
    have := rawAll_spec hvs ha
    refine ValOp.of_same hR ⟨.sa (.one (.raw r)), r, ?_, rfl, h⟩
    have h1 := pureSem_run hr w
    rw [← this] at h1
    simpa [Builtin.max_] using h1
  · exact h.elim

set_option maxHeartbeats 4000000 in
/-- ANY ONE OPERATION. -/
theorem evOp_sound {cx : Cx} {call : CallT} {r : Option Nat} {ρ : Operand → Option SV} {o : Oper} {a : Act} {k : SV → St → Prop} {next : Act → World → Prop} {Q : Exit → Act → World → Prop}
    (hP : cx.P = P) (hN : NamesOk P) (hC : CallOk P call) (hR : R α st w) (hρ : ∀ x sv, ρ x = some sv → sv.rep α (a.eval x)) (h : evOp cx call ρ st o k)
    (hnext : ∀ sv st' α' w' v, k sv st' → SV.rep α' sv v → To α st w α' st' w' → next (a.put o.dst v) w') : o.wpIn (Wide r) 0 P a w next Q := by
  subst hP
  refine ⟨fun _ _ => trivial, ?_⟩
  have val : ∀ {k}, ValOp cx.P α st w (execOp a.eval o) k → (∀ sv st' α' w' v, k sv st' → SV.rep α' sv v → To α st w α' st' w' → next (a.put o.dst v) w') → (∀ c, o.op ≠ .defer c) →
      o.uponIn (Wide r) 0 cx.P a next Q ((o.semAt (Wide r).round a.eval).run cx.P w) := by
    intro k ⟨v, w', α', sv, st', h1, h2, h3, h4⟩ hn hd
    rw [Oper.semAt_eq _ _ _ hd, h1]
    exact hn sv st' α' w' v h3 h2 h4
  have skip : (∃ w' st', (execOp a.eval o).run cx.P w = .ok .skip w' ∧ k undefV st' ∧ To α st w α st' w') → (∀ c, o.op ≠ .defer c) →
      o.uponIn (Wide r) 0 cx.P a next Q ((o.semAt (Wide r).round a.eval).run cx.P w) := by
    intro ⟨w', st', h1, h3, h4⟩ hd
    rw [Oper.semAt_eq _ _ _ hd, h1]
    exact hnext undefV st' α w' undef h3 ⟨[], trivial, rfl⟩ h4
  obtain ⟨dst, op, ty, pos, after, guard⟩ := o
  unfold evOp at h
  dsimp only at h hnext val skip ⊢
  split at h
  · -- move
    rename_i x
    obtain ⟨v, hv, h⟩ := opt_iff.1 h
    exact val ⟨_, w, α, v, st, rfl, hρ _ _ hv, h, To.refl hR⟩ hnext (by simp)
  · rename_i x
    obtain ⟨v, hv, h⟩ := opt_iff.1 h
    exact val ⟨_, w, α, v, st, rfl, hρ _ _ hv, h, To.refl hR⟩ hnext (by simp)
  · -- pick
    rename_i c x y
    obtain ⟨cv, hc, h⟩ := opt_iff.1 h
    have hcr := rhoSA_rep hρ hc
    unfold evPick at h
    split at h
    · rename_i t
      simp only [SA.rep, SC.val?, Option.some.injEq] at hcr
      rcases branch_or h with ⟨rfl, h⟩ | ⟨rfl, h⟩
      · obtain ⟨v, hv, h⟩ := opt_iff.1 h
        exact val ⟨_, w, α, v, st, by simp [execOp, ← hcr, asBool], hρ _ _ hv, h, To.refl hR⟩ hnext (by simp)
      · obtain ⟨v, hv, h⟩ := opt_iff.1 h
        exact val ⟨_, w, α, v, st, by simp [execOp, ← hcr, asBool], hρ _ _ hv, h, To.refl hR⟩ hnext (by simp)
    · exact h.elim
  · -- alloc
    rename_i T
    obtain ⟨z, hz, h⟩ := opt_iff.1 h
    exact val (ValOp.of_got (evAlloc_sound hR hz h)) hnext (by simp)
  · rename_i T x
    obtain ⟨b, hb, h⟩ := opt_iff.1 h
    exact val (ValOp.of_got (evBox_sound hR (rhoSA_rep hρ hb) h)) hnext (by simp)
  · -- build
    rename_i T ps
    obtain ⟨parts, hp, h⟩ := opt_iff.1 h
    obtain ⟨cs, hcs, h⟩ := opt_iff.1 h
    have hpr := rhoParts_rep hρ hp
    exact val (ValOp.of_sa hR (evBuild_sound (vs := ps.map fun (i, x) => (i, a.eval x)) hR (by simpa using hpr) hcs) h) hnext (by simp)
  · rename_i T n ps
    obtain ⟨parts, hp, h⟩ := opt_iff.1 h
    have hpr := rhoParts_rep hρ hp
    exact val (ValOp.of_got (evBuildSlice_sound (ps := ps.map fun (i, x) => (i, a.eval x)) hR (by simpa using hpr) h)) hnext (by simp)
  · -- load
    rename_i T x
    obtain ⟨b, hb, h⟩ := opt_iff.1 h
    exact val (ValOp.of_same hR (evLoad_sound hR (rhoSA_rep hρ hb) h)) hnext (by simp)
  · rename_i T x y
    obtain ⟨b, hb, h⟩ := opt_iff.1 h
    obtain ⟨c, hc, h⟩ := opt_iff.1 h
    obtain ⟨w', st', h1, h2, h3⟩ := evStore_sound hR (rhoSA_rep hρ hb) (rhoSA_rep hρ hc) h
    exact skip ⟨w', st', by simp [execOp, h1], h2, h3⟩ (by simp)
  · -- nilCheck
    rename_i x
    obtain ⟨b, hb, h⟩ := opt_iff.1 h
    obtain ⟨c, hc, h⟩ := opt_iff.1 h
    obtain ⟨h1, h2⟩ := evNilCheck_sound hR (rhoSA_rep hρ hb) hc
    have h3 : execOp a.eval ⟨dst, .nilCheck x, ty, pos, after, guard⟩ = nilSem (a.eval x) := by
      simp only [execOp]
      rfl
    exact val ⟨_, w, α, .sa c, st, by rw [h3]; exact h2, h1, h, To.refl hR⟩ hnext (by simp)
  · -- binOp
    rename_i op' T x y u
    obtain ⟨b, hb, h⟩ := opt_iff.1 h
    obtain ⟨c, hc, h⟩ := opt_iff.1 h
    exact val (ValOp.of_same hR (evBin_sound hR (rhoSA_rep hρ hb) (rhoSA_rep hρ hc) h)) hnext (by simp)
  · -- unOp
    rename_i op' T x
    obtain ⟨b, hb, h⟩ := opt_iff.1 h
    have hbr := rhoSA_rep hρ hb
    unfold evUn at h
    split at h
    · rename_i v
      obtain ⟨r', hr, h⟩ := opt_iff.1 h
      simp only [SA.rep, SC.val?, Option.some.injEq] at hbr
      exact val (ValOp.of_same hR ⟨.sa (.one (.raw r')), r', by rw [← hbr]; exact pureSem_run hr w, rfl, h⟩) hnext (by simp)
    · exact h.elim
  · rename_i T T' x
    obtain ⟨b, hb, h⟩ := opt_iff.1 h
    exact val (ValOp.of_got (evConvert_sound hR (rhoSA_rep hρ hb) h)) hnext (by simp)
  · -- makeFunc
    rename_i fn first cap
    obtain ⟨fs, hf, h⟩ := opt_iff.1 h
    obtain ⟨cs, hc, h⟩ := opt_iff.1 h
    exact val (ValOp.of_got (makeFunc_sound (fv := first.map a.eval) (cv := cap.map a.eval) hR (by simpa using rhoSAs_rep hρ hf) (by simpa using rhoSAs_rep hρ hc) h)) hnext (by simp)
  · -- makeMap
    rename_i T r'
    split at h
    · exact val (ValOp.of_got (makeMap_sound (T := T) hR h)) hnext (by simp)
    · rename_i x
      obtain ⟨b, hb, h⟩ := opt_iff.1 h
      have hbr := rhoSA_rep hρ hb
      unfold evMakeMap at h
      split at h
      · rename_i y z kk q hu
        simp only [SA.rep, SC.val?, Option.some.injEq] at hbr
        have := ValOp.of_got (makeMap_sound' (T := T) (kk := kk) (z := q) hR hu h)
        exact val (by simpa [execOp, ← hbr] using this) hnext (by simp)
      · exact h.elim
  · -- slice
    rename_i T x lo hi mx
    split at h
    · obtain ⟨b, hb, h⟩ := opt_iff.1 h
      obtain ⟨l, hl, h⟩ := opt_iff.1 h
      obtain ⟨q, hq, h⟩ := opt_iff.1 h
      exact val (ValOp.of_got (evSlice_sound hR (rhoSA_rep hρ hb) (rhoOpt_rep hρ hl) (rhoOpt_rep hρ hq) h)) hnext (by simp)
    · rename_i y
      obtain ⟨b, hb, h⟩ := opt_iff.1 h
      obtain ⟨l, hl, h⟩ := opt_iff.1 h
      obtain ⟨q, hq, h⟩ := opt_iff.1 h
      obtain ⟨z, hz, g⟩ := opt_iff.1 h
      have hqr := rhoOpt_rep hρ hq
      unfold evSliceMax at g
      cases q with
      | none => exact g.elim
      | some q' =>
        cases hi with
        | none => exact hqr.elim
        | some hi' =>
          exact val (ValOp.of_got (evSlice3_sound (hv := a.eval hi') (mv := a.eval y) hR (rhoSA_rep hρ hb) (rhoOpt_rep hρ hl) hqr (rhoSA_rep hρ hz) g)) hnext (by simp)
  · rename_i S x f
    obtain ⟨b, hb, h⟩ := opt_iff.1 h
    obtain ⟨c, hc, h⟩ := opt_iff.1 h
    exact val (ValOp.of_sa hR (evFieldAddr_sound (rhoSA_rep hρ hb) hc) h) hnext (by simp)
  · rename_i T x f
    obtain ⟨b, hb, h⟩ := opt_iff.1 h
    obtain ⟨c, hc, h⟩ := opt_iff.1 h
    exact val (ValOp.of_sa hR (evField_sound (rhoSA_rep hρ hb) hc) h) hnext (by simp)
  · rename_i T x ix
    obtain ⟨b, hb, h⟩ := opt_iff.1 h
    obtain ⟨c, hc, h⟩ := opt_iff.1 h
    exact val (ValOp.of_same hR (evIndexAddr_sound hR (rhoSA_rep hρ hb) (rhoSA_rep hρ hc) h)) hnext (by simp)
  · rename_i T x ix
    obtain ⟨b, hb, h⟩ := opt_iff.1 h
    obtain ⟨c, hc, h⟩ := opt_iff.1 h
    exact val (ValOp.of_same hR (evIndex_sound (rhoSA_rep hρ hb) (rhoSA_rep hρ hc) h)) hnext (by simp)
  · rename_i T x ix ok
    obtain ⟨b, hb, h⟩ := opt_iff.1 h
    obtain ⟨c, hc, h⟩ := opt_iff.1 h
    exact val (ValOp.of_same hR (evLookup_sound hR (rhoSA_rep hρ hb) (rhoSA_rep hρ hc) h)) hnext (by simp)
  · rename_i T m x v
    obtain ⟨b, hb, h⟩ := opt_iff.1 h
    obtain ⟨c, hc, h⟩ := opt_iff.1 h
    obtain ⟨e, he, h⟩ := opt_iff.1 h
    obtain ⟨w', st', h1, h2, h3⟩ := evMapUpdate_sound hR (rhoSA_rep hρ hb) (rhoSA_rep hρ hc) (rhoSA_rep hρ he) h
    exact skip ⟨w', st', by simp [execOp, h1], h2, h3⟩ (by simp)
  · rename_i T m x
    obtain ⟨b, hb, h⟩ := opt_iff.1 h
    obtain ⟨c, hc, h⟩ := opt_iff.1 h
    exact val (ValOp.of_got (evMapEntry_sound hR (rhoSA_rep hρ hb) (rhoSA_rep hρ hc) h)) hnext (by simp)
  · rename_i T m s v
    obtain ⟨b, hb, h⟩ := opt_iff.1 h
    obtain ⟨c, hc, h⟩ := opt_iff.1 h
    obtain ⟨e, he, h⟩ := opt_iff.1 h
    obtain ⟨w', st', h1, h2, h3⟩ := evEntryStore_sound (P := cx.P) (T := T) hR (rhoSA_rep hρ hb) (rhoSA_rep hρ hc) (rhoSA_rep hρ he) h
    exact skip ⟨w', st', by simp [execOp, h1], h2, h3⟩ (by simp)
  · rename_i T l c
    obtain ⟨b, hb, h⟩ := opt_iff.1 h
    obtain ⟨e, he, h⟩ := opt_iff.1 h
    exact val (ValOp.of_got (evMakeSlice_sound hR (rhoSA_rep hρ hb) (rhoSA_rep hρ he) h)) hnext (by simp)
  · -- extract
    rename_i x i
    split at h
    · rename_i l hx
      obtain ⟨b, hb, h⟩ := opt_iff.1 h
      obtain ⟨vs, hvs, he⟩ := hρ _ _ hx
      obtain ⟨v, h1, h2⟩ := hvs.get hb
      exact val (ValOp.of_sa hR ⟨v, by simp [Instr.extract, he, h1], h2⟩ h) hnext (by simp)
    · exact h.elim
  · -- a call
    rename_i c
    split at h
    · rename_i b hcl
      obtain ⟨args, ha, h⟩ := opt_iff.1 h
      have har := rhoSAs_rep hρ ha
      have hb := evBuiltin_sound (consts := c.args.map fun | .const _ => true | _ => false) (vals := c.args.map a.eval) hR (by simpa using har) h
      refine val ?_ hnext (by simp)
      obtain ⟨v, w', α', sv, st', x1, x2⟩ := hb
      refine ⟨v, w', α', sv, st', ?_, x2⟩
      simp only [execOp, resolve, hcl, Sem.run_bind, Sem.run_pure, Result.andThen_ok, invoke]
      exact x1
    · rename_i f hcl
      obtain ⟨fv, hf, h⟩ := opt_iff.1 h
      obtain ⟨args, ha, h⟩ := opt_iff.1 h
      have hfr := rhoSA_rep hρ hf
      have har := rhoSAs_rep hρ ha
      have fin : ∀ (g : FuncId) (first cap : Array Value) (fs cs : List SA), a.eval f = .func (.func g) first cap → RepsA α fs first.toList → RepsA α cs cap.toList →
          g < big → call g (fs ++ args ++ cs) st k → (⟨dst, .call c, ty, pos, after, guard⟩ : Oper).uponIn (Wide r) 0 cx.P a next Q (((⟨dst, .call c, ty, pos, after, guard⟩ : Oper).semAt (Wide r).round a.eval).run cx.P w) := by
        intro g first cap fs cs he hfs hcs hgb hcall
        obtain ⟨⟨fn, body, g1, g2⟩, hcc⟩ := hC.1 g _ st k hgb hcall
        have hreps : RepsA α (fs ++ args ++ cs) (first ++ c.args.map a.eval ++ cap).toList := by
          simp only [Array.toList_append, Array.toList_map]
          exact (hfs.append har).append hcs
        have hci := hcc α w _ hR hreps
        rw [Oper.semAt_eq _ _ _ (by simp)]
        have hrun : (execOp a.eval ⟨dst, .call c, ty, pos, after, guard⟩).run cx.P w = .ok (.enter g (first ++ c.args.map a.eval ++ cap)) w := by
          simp only [execOp, resolve, hcl, he, Deferred.ofValue, Sem.run_bind, Sem.run_pure, Result.andThen_ok, invoke, callFunc, run_program, g1]
          have hn := hN g fn g1 (by simp [g2])
          simp [hn, g2]
        rw [hrun]
        refine ⟨fun hdp => by simp [Wide] at hdp, ?_⟩
        have hci' : CallsIn (Wide r) 0 cx.P g (first ++ c.args.map a.eval ++ cap) w (CallPost α st w k) := by
          have : (first ++ c.args.map a.eval ++ cap).toList.toArray = first ++ c.args.map a.eval ++ cap := Array.toArray_toList
          rw [this] at hci
          exact hci
        refine CallsIn.mono hci' ?_
        rintro e w' ⟨v, st', α', vl, rfl, x1, x2, x3⟩
        exact hnext v st' α' w' vl x2 x1 x3
      unfold evCallee at h
      split at h
      · rename_i g first cap _
        simp only [SA.rep, SC.val?, Option.some.injEq] at hfr
        split at h
        · rename_i hb
          exact fin g first cap _ _ hfr.symm (RepsA.ofValues _) (RepsA.ofValues _) (Nat.le_of_ble_eq_true hb) h
        · exact h.elim
      · rename_i q _
        split at h
        · rename_i g first cap hst
          obtain ⟨d, hd, va, vb, x1, x2, x3⟩ := hR.good q _ hst
          simp only [SA.rep, SC.val?, hd, Option.some.injEq] at hfr
          split at h
          · rename_i hb
            exact fin g va.toArray vb.toArray _ _ (by rw [← hfr, x3]) (by simpa using x1) (by simpa using x2) (Nat.le_of_ble_eq_true hb) h
          · exact h.elim
        · rename_i hst
          obtain ⟨d, l, hd, hval, hl, hps, hround⟩ := hC.2 q _ st k h α w (c.args.map a.eval).toList r hR (by simpa using har)
          simp only [SA.rep, SC.val?, hd, Option.some.injEq] at hfr
          rw [hval] at hfr
          rw [Oper.semAt_eq _ _ _ (by simp)]
          have hrun : (execOp a.eval ⟨dst, .call c, ty, pos, after, guard⟩).run cx.P w =
              .ok (.round d.blk l.fn ((l.params.zip (c.args.map a.eval)).foldl (fun tmps (t, a) => tmps.setIfInBounds t a) l.tmps) l.assign l.body) w := by
            have hy := run_yield (P := cx.P) (args := c.args.map a.eval) hl (by simpa using hps)
            simp only [execOp, resolve, hcl, ← hfr, Deferred.ofValue, Sem.run_bind, Sem.run_pure, Result.andThen_ok, invoke, callFunc, run_program]
            simpa using hy
          rw [hrun]
          refine ⟨fun hdp => by simp [Wide] at hdp, ?_⟩
          rw [Array.toArray_toList] at hround
          refine RoundIn.mono hround ?_
          rintro e w' ⟨v, st', α', vl, rfl, x1, x2, x3⟩
          exact hnext v st' α' w' vl x2 x1 x3
        · exact h.elim
      · exact h.elim
    · exact h.elim
  · exact h.elim

end Go.Ev

/- THE ENGINE, part 13: frames, guards, regions in the text's order. -/
namespace Go.Ev
open Go
variable {P : Program}

theorem Fr.put_some (fr : Fr) (t : Nat) (v : SV) : fr.put (some t) v = fr.set t (some v) := by simp [Fr.put]

theorem FrOk.put {α : Al} {fr : Fr} {a : Act} {d : Option Nat} {sv : SV} {v : Value} (hf : FrOk α fr a.tmps) (hv : SV.rep α sv v) : FrOk α (fr.put d sv) (a.put d v).tmps := by
  cases d with
  | none => exact hf
  | some t =>
    refine ⟨by rw [Fr.put_some]; simpa [Act.put] using hf.1, fun u su hu => ?_⟩
    rw [Fr.put_some, Fr.get_eq, List.getElem?_set] at hu
    simp only [Act.put, Array.getElem?_setIfInBounds]
    by_cases e : t = u
    · subst e
      rw [if_pos rfl] at hu ⊢
      split at hu
      · rename_i hlt
        simp at hu
        subst hu
        rw [if_pos (by rw [← hf.1]; exact hlt)]
        exact ⟨v, rfl, hv⟩
      · simp at hu
    · rw [if_neg e] at hu ⊢
      exact hf.2 u su (by rw [Fr.get_eq]; exact hu)
/-- The frame with what is known of a slot said otherwise. -/
theorem FrOk.say {α : Al} {fr : Fr} {tmps : Array Value} {t : Nat} {sv : SV} {v : Value} (hf : FrOk α fr tmps) (ht : tmps[t]? = some v) (hv : SV.rep α sv v) : FrOk α (fr.put (some t) sv) tmps := by
  refine ⟨by rw [Fr.put_some]; simpa using hf.1, fun u su hu => ?_⟩
  rw [Fr.put_some, Fr.get_eq, List.getElem?_set] at hu
  by_cases e : t = u
  · subst e
    rw [if_pos rfl] at hu
    split at hu
    · simp at hu; subst hu; exact ⟨v, ht, hv⟩
    · simp at hu
  · rw [if_neg e] at hu
    exact hf.2 u su (by rw [Fr.get_eq]; exact hu)

theorem evOperand_rep {α : Al} {fr : Fr} {a : Act} (hf : FrOk α fr a.tmps) : ∀ x sv, evOperand fr x = some sv → SV.rep α sv (a.eval x) := by
  intro x sv h
  cases x with
  | tmp t =>
    obtain ⟨v, h1, h2⟩ := hf.2 t sv h
    simpa [Act.eval, h1] using h2
  | const v => simp [evOperand] at h; subst h; exact SV.rep_ofValue v
  | global g => simp [evOperand] at h
  | func f => simp [evOperand] at h; subst h; exact rfl

theorem evGuard_sound {α : Al} {ops : Array Oper} {o : Oper} {fr : Fr} {tmps : Array Value} {run skip : Fr → Prop} (hf : FrOk α fr tmps) (h : evGuard ops.toList o fr run skip) :
    (Region.wanted o (yielded ops tmps) = true ∧ ∃ fr', FrOk α fr' tmps ∧ run fr') ∨ (Region.wanted o (yielded ops tmps) = false ∧ ∃ fr', FrOk α fr' tmps ∧ skip fr') := by
  unfold evGuard at h
  unfold Region.wanted
  split at h
  · rename_i hg
    left
    exact ⟨by simp [hg], fr, hf, h⟩
  · rename_i j want hg
    simp only [hg]
    split at h
    · rename_i hj
      right
      refine ⟨?_, fr, hf, h⟩
      have : ops[j]? = none := by simpa using hj
      simp [yielded, this]
    · rename_i oj hj
      have hj' : ops[j]? = some oj := by simpa using hj
      split at h
      · rename_i hd
        right
        exact ⟨by simp [yielded, hj', hd], fr, hf, h⟩
      · rename_i d hd
        split at h
        · rename_i b hb
          obtain ⟨v, h1, h2⟩ := hf.2 d _ hb
          simp only [SV.rep, SA.rep, SC.val?, Option.some.injEq] at h2
          subst h2
          have hy : yielded ops tmps j = some b := by simp [yielded, hj', hd, h1]
          have hsay : ∀ b', b' = b → FrOk α (fr.put (some d) (.sa (.one (.raw (.bool b'))))) tmps := fun b' e => by subst e; exact hf.say h1 rfl
          split at h
          · rcases branch_or h with ⟨e, h⟩ | ⟨e, h⟩
            · left; exact ⟨by simp [hy, e], _, hsay true e.symm, h⟩
            · right; exact ⟨by simp [hy, e], _, hsay false e.symm, h⟩
          · rcases branch_or h with ⟨e, h⟩ | ⟨e, h⟩
            · right; exact ⟨by simp [hy, e], _, hsay true e.symm, h⟩
            · left; exact ⟨by simp [hy, e], _, hsay false e.symm, h⟩
        · rename_i hb
          obtain ⟨v, h1, vs, h2, h3⟩ := hf.2 d _ hb
          right
          refine ⟨?_, fr, hf, h⟩
          subst h3
          simp [yielded, hj', hd, h1]
        · exact h.elim

/-- What is asked of a way's end, off a state. -/
def After (α : Al) (st : St) (w : World) (ds : List Deferred) (k : Fr → St → Prop) (N : Act → World → Prop) : Prop :=
  ∀ fr' st' α' a' w', k fr' st' → FrOk α' fr' a'.tmps → To α st w α' st' w' → a'.defers = ds → N a' w'

theorem put_defers_eq (a : Act) (d : Option Nat) (v : Value) : (a.put d v).defers = a.defers := by cases d <;> rfl

theorem evOps_sound {cx : Cx} {call : CallT} {r : Option Nat} {ops : Array Oper} {Q : Exit → Act → World → Prop} (hP : cx.P = P) (hN : NamesOk P) (hC : CallOk P call) :
    ∀ (rest : List Oper) (i : Nat), ops.toList.drop i = rest → ∀ {fr : Fr} {st : St} {k : Fr → St → Prop} {α : Al} {a : Act} {w : World}, R α st w → FrOk α fr a.tmps →
      evOps cx call ops.toList rest fr st k → After α st w a.defers k (Q .normal) → wpOpsIn (Wide r) 0 P ops Q (List.range' i rest.length) a w
  | [], i, _, fr, st, k, α, a, w, hR, hf, h, hK => by
    simp only [evOps, forceV_eq] at h
    exact hK fr st α a w h hf (To.refl hR) rfl
  | o :: rest, i, hd, fr, st, k, α, a, w, hR, hf, h, hK => by
    have ho : ops[i]? = some o := by
      have : (ops.toList.drop i)[0]? = some o := by rw [hd]; rfl
      simpa using this
    have hd' : ops.toList.drop (i + 1) = rest := by
      rw [← List.drop_drop, hd]; rfl
    simp only [evOps, forceV_eq] at h
    simp only [List.length_cons, List.range'_succ]
    rw [wpOpsIn_cons]
    simp only [wpOpIn, ho]
    rcases evGuard_sound hf h with ⟨hw, fr', hf', h⟩ | ⟨hw, fr', hf', h⟩
    · rw [if_pos hw]
      refine evOp_sound hP hN hC hR (evOperand_rep hf') h fun sv st' α' w' v hk hv hto => ?_
      refine evOps_sound hP hN hC rest (i + 1) hd' hto.rep ((hf'.mono (hto.le hR)).put hv) hk fun fr2 st2 α2 a2 w2 x1 x2 x3 x4 => ?_
      exact hK fr2 st2 α2 a2 w2 x1 x2 (hto.trans x3) (by rw [x4, put_defers_eq])
    · rw [if_neg (by rw [hw]; simp)]
      refine ⟨fun _ _ => trivial, ?_⟩
      refine evOps_sound hP hN hC rest (i + 1) hd' hR (hf'.put (sv := undefV) (v := undef) ⟨[], trivial, rfl⟩) h fun fr2 st2 α2 a2 w2 x1 x2 x3 x4 => ?_
      exact hK fr2 st2 α2 a2 w2 x1 x2 x3 (by rw [x4, put_defers_eq])

end Go.Ev

/- THE ENGINE, part 14: an evaluation hands on just one thing. Printed by a program of mine (mklin.py). -/
namespace Go.Ev
open Go
theorem branch_iff {b : Bool} {p q : Prop} : branch b p q ↔ (b = true ∧ p) ∨ (b = false ∧ q) := by cases b <;> simp [branch]
theorem evBin_lin {P : Program} {op : BinOp} {T : TypeId} {xo yo : Operand} {st : St} {a b : SA} {k : SV → Prop} (h : evBin P op T xo yo st a b k) : ∃ r, k r ∧ evBin P op T xo yo st a b (fun x => x = r) := by
  unfold evBin at h ⊢
  (repeat' split at h) <;> simp_all [need_iff, opt_iff, branch_iff, cutKnown, evBound] <;> first
    | done
    | (obtain ⟨a, ha, hk⟩ := h; exact ⟨_, hk, a, ha, rfl⟩)
    | (obtain ⟨_, a, ha, hk⟩ := h; exact ⟨_, hk, a, ha, rfl⟩)
    | (obtain ⟨h1, h2, hk⟩ := h; exact ⟨_, hk, h1, h2, rfl⟩)
    | grind
theorem evIndexAddr_lin {P : Program} {T : TypeId} {st : St} {a b : SA} {k : SV → Prop} (h : evIndexAddr P T st a b k) : ∃ r, k r ∧ evIndexAddr P T st a b (fun x => x = r) := by
  unfold evIndexAddr at h ⊢
  (repeat' split at h) <;> simp_all [need_iff, opt_iff, branch_iff, cutKnown, evBound] <;> first
    | done
    | (obtain ⟨a, ha, hk⟩ := h; exact ⟨_, hk, a, ha, rfl⟩)
    | (obtain ⟨_, a, ha, hk⟩ := h; exact ⟨_, hk, a, ha, rfl⟩)
    | (obtain ⟨h1, h2, hk⟩ := h; exact ⟨_, hk, h1, h2, rfl⟩)
    | grind
theorem evIndex_lin {P : Program} {T : TypeId} {a b : SA} {k : SV → Prop} (h : evIndex P T a b k) : ∃ r, k r ∧ evIndex P T a b (fun x => x = r) := by
  unfold evIndex at h ⊢
  split at h
  · split at h <;> simp_all [need_iff, opt_iff]
    obtain ⟨h1, h2, a, ha, hk⟩ := h
    exact ⟨_, hk, a, ha, rfl⟩
  · rename_i s kk z hu
    obtain ⟨h1, h⟩ := need_iff.1 h
    obtain ⟨h2, h⟩ := need_iff.1 h
    refine ⟨_, h, ?_⟩
    exact need_iff.2 ⟨h1, need_iff.2 ⟨h2, rfl⟩⟩
  · exact h.elim
theorem evLoad_lin {P : Program} {T : TypeId} {st : St} {a : SA} {k : SV → Prop} (h : evLoad P T st a k) : ∃ r, k r ∧ evLoad P T st a (fun x => x = r) := by
  unfold evLoad at h ⊢
  (repeat' split at h) <;> simp_all [need_iff, opt_iff, branch_iff, cutKnown, evBound] <;> first
    | done
    | (obtain ⟨a, ha, hk⟩ := h; exact ⟨_, hk, a, ha, rfl⟩)
    | (obtain ⟨_, a, ha, hk⟩ := h; exact ⟨_, hk, a, ha, rfl⟩)
    | (obtain ⟨h1, h2, hk⟩ := h; exact ⟨_, hk, h1, h2, rfl⟩)
    | grind
theorem evStore_lin {P : Program} {T : TypeId} {st : St} {a b : SA} {k : St → Prop} (h : evStore P T st a b k) : ∃ r, k r ∧ evStore P T st a b (fun x => x = r) := by
  unfold evStore at h ⊢
  (repeat' split at h) <;> simp_all [need_iff, opt_iff, branch_iff, cutKnown, evBound] <;> first
    | done
    | (obtain ⟨a, ha, hk⟩ := h; exact ⟨_, hk, a, ha, rfl⟩)
    | (obtain ⟨_, a, ha, hk⟩ := h; exact ⟨_, hk, a, ha, rfl⟩)
    | (obtain ⟨h1, h2, hk⟩ := h; exact ⟨_, hk, h1, h2, rfl⟩)
    | grind
theorem evSrc_lin {st : St} {s : Nat} {x : SA} {k : Ct → Prop} (h : evSrc st s x k) : ∃ r, k r ∧ evSrc st s x (fun x => x = r) := by
  unfold evSrc at h ⊢
  (repeat' split at h) <;> simp_all [need_iff, opt_iff, branch_iff, cutKnown, evBound] <;> first
    | done
    | (obtain ⟨a, ha, hk⟩ := h; exact ⟨_, hk, a, ha, rfl⟩)
    | (obtain ⟨_, a, ha, hk⟩ := h; exact ⟨_, hk, a, ha, rfl⟩)
    | (obtain ⟨h1, h2, hk⟩ := h; exact ⟨_, hk, h1, h2, rfl⟩)
    | grind
theorem evLen_lin {P : Program} {T : TypeId} {st : St} {x : SA} {k : SV → Prop} (h : evLen P T st x k) : ∃ r, k r ∧ evLen P T st x (fun x => x = r) := by
  unfold evLen at h ⊢
  (repeat' split at h) <;> simp_all [need_iff, opt_iff, branch_iff, cutKnown, evBound] <;> first
    | done
    | (obtain ⟨a, ha, hk⟩ := h; exact ⟨_, hk, a, ha, rfl⟩)
    | (obtain ⟨_, a, ha, hk⟩ := h; exact ⟨_, hk, a, ha, rfl⟩)
    | (obtain ⟨h1, h2, hk⟩ := h; exact ⟨_, hk, h1, h2, rfl⟩)
    | grind
theorem evCap_lin {P : Program} {T : TypeId} {st : St} {x : SA} {k : SV → Prop} (h : evCap P T st x k) : ∃ r, k r ∧ evCap P T st x (fun x => x = r) := by
  unfold evCap at h ⊢
  (repeat' split at h) <;> simp_all [need_iff, opt_iff, branch_iff, cutKnown, evBound] <;> first
    | done
    | (obtain ⟨a, ha, hk⟩ := h; exact ⟨_, hk, a, ha, rfl⟩)
    | (obtain ⟨_, a, ha, hk⟩ := h; exact ⟨_, hk, a, ha, rfl⟩)
    | (obtain ⟨h1, h2, hk⟩ := h; exact ⟨_, hk, h1, h2, rfl⟩)
    | grind
theorem evBound_lin {d : Nat} {x : Option SA} {top : Nat} {k : Nat → Prop} (h : evBound d x top k) : ∃ r, k r ∧ evBound d x top (fun x => x = r) := by
  unfold evBound at h ⊢
  (repeat' split at h) <;> simp_all [need_iff, opt_iff, branch_iff, cutKnown] <;> first
    | done
    | (obtain ⟨a, ha, hk⟩ := h; exact ⟨_, hk, a, ha, rfl⟩)
    | (obtain ⟨_, a, ha, hk⟩ := h; exact ⟨_, hk, a, ha, rfl⟩)
    | (obtain ⟨h1, h2, hk⟩ := h; exact ⟨_, hk, h1, h2, rfl⟩)
    | grind
theorem evEntryStore_lin {st : St} {a b c : SA} {k : St → Prop} (h : evEntryStore st a b c k) : ∃ r, k r ∧ evEntryStore st a b c (fun x => x = r) := by
  unfold evEntryStore at h ⊢
  (repeat' split at h) <;> simp_all [need_iff, opt_iff, branch_iff, cutKnown, evBound] <;> first
    | done
    | (obtain ⟨a, ha, hk⟩ := h; exact ⟨_, hk, a, ha, rfl⟩)
    | (obtain ⟨_, a, ha, hk⟩ := h; exact ⟨_, hk, a, ha, rfl⟩)
    | (obtain ⟨h1, h2, hk⟩ := h; exact ⟨_, hk, h1, h2, rfl⟩)
    | grind
theorem evNew_lin {P : Program} {st : St} {T : TypeId} {cells : List SC} {k : SV → St → Prop} (h : evNew P st T cells k) : ∃ v s, k v s ∧ evNew P st T cells (fun x y => x = v ∧ y = s) := by
  unfold evNew at h ⊢
  (repeat' split at h) <;> simp_all [need_iff, opt_iff, branch_iff, cutKnown, evBound] <;> first
    | done
    | (obtain ⟨a, ha, hk⟩ := h; exact ⟨_, _, hk, a, ha, rfl, rfl⟩)
    | (obtain ⟨_, a, ha, hk⟩ := h; exact ⟨_, _, hk, a, ha, rfl, rfl⟩)
    | (obtain ⟨h1, h2, hk⟩ := h; exact ⟨_, hk, h1, h2, rfl⟩)
    | grind
theorem evBuildSlice_lin {P : Program} {T : TypeId} {n : Nat} {parts : List (Nat × SA)} {st : St} {k : SV → St → Prop} (h : evBuildSlice P T n parts st k) : ∃ v s, k v s ∧ evBuildSlice P T n parts st (fun x y => x = v ∧ y = s) := by
  unfold evBuildSlice at h ⊢
  (repeat' split at h) <;> simp_all [need_iff, opt_iff, branch_iff, cutKnown, evBound] <;> first
    | done
    | (obtain ⟨a, ha, hk⟩ := h; exact ⟨_, _, hk, a, ha, rfl, rfl⟩)
    | (obtain ⟨_, a, ha, hk⟩ := h; exact ⟨_, _, hk, a, ha, rfl, rfl⟩)
    | (obtain ⟨h1, h2, hk⟩ := h; exact ⟨_, hk, h1, h2, rfl⟩)
    | grind
theorem evClear_lin {P : Program} {T : TypeId} {st : St} {x : SA} {k : SV → St → Prop} (h : evClear P T st x k) : ∃ v s, k v s ∧ evClear P T st x (fun x y => x = v ∧ y = s) := by
  unfold evClear at h ⊢
  (repeat' split at h) <;> simp_all [need_iff, opt_iff, branch_iff, cutKnown, evBound] <;> first
    | done
    | (obtain ⟨a, ha, hk⟩ := h; exact ⟨_, _, hk, a, ha, rfl, rfl⟩)
    | (obtain ⟨_, a, ha, hk⟩ := h; exact ⟨_, _, hk, a, ha, rfl, rfl⟩)
    | (obtain ⟨h1, h2, hk⟩ := h; exact ⟨_, hk, h1, h2, rfl⟩)
    | grind
theorem evConvert_lin {P : Program} {T T2 : TypeId} {st : St} {x : SA} {k : SV → St → Prop} (h : evConvert P T T2 st x k) : ∃ v s, k v s ∧ evConvert P T T2 st x (fun x y => x = v ∧ y = s) := by
  unfold evConvert at h ⊢
  (repeat' split at h) <;> simp_all [need_iff, opt_iff, branch_iff, cutKnown, evBound] <;> first
    | done
    | (obtain ⟨a, ha, hk⟩ := h; exact ⟨_, _, hk, a, ha, rfl, rfl⟩)
    | (obtain ⟨_, a, ha, hk⟩ := h; exact ⟨_, _, hk, a, ha, rfl, rfl⟩)
    | (obtain ⟨h1, h2, hk⟩ := h; exact ⟨_, hk, h1, h2, rfl⟩)
    | grind
theorem evMakeSlice_lin {P : Program} {T : TypeId} {st : St} {x y : SA} {k : SV → St → Prop} (h : evMakeSlice P T st x y k) : ∃ v s, k v s ∧ evMakeSlice P T st x y (fun x y => x = v ∧ y = s) := by
  unfold evMakeSlice at h ⊢
  (repeat' split at h) <;> simp_all [need_iff, opt_iff, branch_iff, cutKnown, evBound] <;> first
    | done
    | (obtain ⟨a, ha, hk⟩ := h; exact ⟨_, _, hk, a, ha, rfl, rfl⟩)
    | (obtain ⟨_, a, ha, hk⟩ := h; exact ⟨_, _, hk, a, ha, rfl, rfl⟩)
    | (obtain ⟨h1, h2, hk⟩ := h; exact ⟨_, hk, h1, h2, rfl⟩)
    | grind
theorem evBin_mono {P : Program} {op : BinOp} {T : TypeId} {xo yo : Operand} {st : St} {a b : SA} {k k2 : SV → Prop} (hk : ∀ x, k x → k2 x) (h : evBin P op T xo yo st a b k) : evBin P op T xo yo st a b k2 := by
  unfold evBin at h ⊢
  (repeat' split at h) <;> simp_all [need_iff, opt_iff, branch_iff, cutKnown, evBound] <;> first
    | done
    | (obtain ⟨a, ha, hb⟩ := h; exact ⟨a, ha, hk _ hb⟩)
    | (obtain ⟨_, a, ha, hb⟩ := h; exact ⟨a, ha, hk _ hb⟩)
    | exact hk _ h
    | exact hk _ h.2
    | exact hk _ h.2.2
    | grind
theorem evIndexAddr_mono {P : Program} {T : TypeId} {st : St} {a b : SA} {k k2 : SV → Prop} (hk : ∀ x, k x → k2 x) (h : evIndexAddr P T st a b k) : evIndexAddr P T st a b k2 := by
  unfold evIndexAddr at h ⊢
  (repeat' split at h) <;> simp_all [need_iff, opt_iff, branch_iff, cutKnown, evBound] <;> first
    | done
    | (obtain ⟨a, ha, hb⟩ := h; exact ⟨a, ha, hk _ hb⟩)
    | (obtain ⟨_, a, ha, hb⟩ := h; exact ⟨a, ha, hk _ hb⟩)
    | exact hk _ h
    | exact hk _ h.2
    | exact hk _ h.2.2
    | grind
theorem evIndex_mono {P : Program} {T : TypeId} {a b : SA} {k k2 : SV → Prop} (hk : ∀ x, k x → k2 x) (h : evIndex P T a b k) : evIndex P T a b k2 := by
  unfold evIndex at h ⊢
  split at h
  · split at h <;> simp_all [need_iff, opt_iff]
    obtain ⟨h1, h2, a, ha, hb⟩ := h
    exact ⟨a, ha, hk _ hb⟩
  · obtain ⟨h1, h⟩ := need_iff.1 h
    obtain ⟨h2, h⟩ := need_iff.1 h
    exact need_iff.2 ⟨h1, need_iff.2 ⟨h2, hk _ h⟩⟩
  · exact h.elim
theorem evLoad_mono {P : Program} {T : TypeId} {st : St} {a : SA} {k k2 : SV → Prop} (hk : ∀ x, k x → k2 x) (h : evLoad P T st a k) : evLoad P T st a k2 := by
  unfold evLoad at h ⊢
  (repeat' split at h) <;> simp_all [need_iff, opt_iff, branch_iff, cutKnown, evBound] <;> first
    | done
    | (obtain ⟨a, ha, hb⟩ := h; exact ⟨a, ha, hk _ hb⟩)
    | (obtain ⟨_, a, ha, hb⟩ := h; exact ⟨a, ha, hk _ hb⟩)
    | exact hk _ h
    | exact hk _ h.2
    | exact hk _ h.2.2
    | grind
theorem evStore_mono {P : Program} {T : TypeId} {st : St} {a b : SA} {k k2 : St → Prop} (hk : ∀ x, k x → k2 x) (h : evStore P T st a b k) : evStore P T st a b k2 := by
  unfold evStore at h ⊢
  (repeat' split at h) <;> simp_all [need_iff, opt_iff, branch_iff, cutKnown, evBound] <;> first
    | done
    | (obtain ⟨a, ha, hb⟩ := h; exact ⟨a, ha, hk _ hb⟩)
    | (obtain ⟨_, a, ha, hb⟩ := h; exact ⟨a, ha, hk _ hb⟩)
    | exact hk _ h
    | exact hk _ h.2
    | exact hk _ h.2.2
    | grind
theorem evSrc_mono {st : St} {s : Nat} {x : SA} {k k2 : Ct → Prop} (hk : ∀ x, k x → k2 x) (h : evSrc st s x k) : evSrc st s x k2 := by
  unfold evSrc at h ⊢
  (repeat' split at h) <;> simp_all [need_iff, opt_iff, branch_iff, cutKnown, evBound] <;> first
    | done
    | (obtain ⟨a, ha, hb⟩ := h; exact ⟨a, ha, hk _ hb⟩)
    | (obtain ⟨_, a, ha, hb⟩ := h; exact ⟨a, ha, hk _ hb⟩)
    | exact hk _ h
    | exact hk _ h.2
    | exact hk _ h.2.2
    | grind
theorem evLen_mono {P : Program} {T : TypeId} {st : St} {x : SA} {k k2 : SV → Prop} (hk : ∀ x, k x → k2 x) (h : evLen P T st x k) : evLen P T st x k2 := by
  unfold evLen at h ⊢
  (repeat' split at h) <;> simp_all [need_iff, opt_iff, branch_iff, cutKnown, evBound] <;> first
    | done
    | (obtain ⟨a, ha, hb⟩ := h; exact ⟨a, ha, hk _ hb⟩)
    | (obtain ⟨_, a, ha, hb⟩ := h; exact ⟨a, ha, hk _ hb⟩)
    | exact hk _ h
    | exact hk _ h.2
    | exact hk _ h.2.2
    | grind
theorem evCap_mono {P : Program} {T : TypeId} {st : St} {x : SA} {k k2 : SV → Prop} (hk : ∀ x, k x → k2 x) (h : evCap P T st x k) : evCap P T st x k2 := by
  unfold evCap at h ⊢
  (repeat' split at h) <;> simp_all [need_iff, opt_iff, branch_iff, cutKnown, evBound] <;> first
    | done
    | (obtain ⟨a, ha, hb⟩ := h; exact ⟨a, ha, hk _ hb⟩)
    | (obtain ⟨_, a, ha, hb⟩ := h; exact ⟨a, ha, hk _ hb⟩)
    | exact hk _ h
    | exact hk _ h.2
    | exact hk _ h.2.2
    | grind
theorem evBound_mono {d : Nat} {x : Option SA} {top : Nat} {k k2 : Nat → Prop} (hk : ∀ x, k x → k2 x) (h : evBound d x top k) : evBound d x top k2 := by
  unfold evBound at h ⊢
  (repeat' split at h) <;> simp_all [need_iff, opt_iff, branch_iff, cutKnown] <;> first
    | done
    | (obtain ⟨a, ha, hb⟩ := h; exact ⟨a, ha, hk _ hb⟩)
    | (obtain ⟨_, a, ha, hb⟩ := h; exact ⟨a, ha, hk _ hb⟩)
    | exact hk _ h
    | exact hk _ h.2
    | exact hk _ h.2.2
    | grind
theorem evEntryStore_mono {st : St} {a b c : SA} {k k2 : St → Prop} (hk : ∀ x, k x → k2 x) (h : evEntryStore st a b c k) : evEntryStore st a b c k2 := by
  unfold evEntryStore at h ⊢
  (repeat' split at h) <;> simp_all [need_iff, opt_iff, branch_iff, cutKnown, evBound] <;> first
    | done
    | (obtain ⟨a, ha, hb⟩ := h; exact ⟨a, ha, hk _ hb⟩)
    | (obtain ⟨_, a, ha, hb⟩ := h; exact ⟨a, ha, hk _ hb⟩)
    | exact hk _ h
    | exact hk _ h.2
    | exact hk _ h.2.2
    | grind
theorem evNew_mono {P : Program} {st : St} {T : TypeId} {cells : List SC} {k k2 : SV → St → Prop} (hk : ∀ x y, k x y → k2 x y) (h : evNew P st T cells k) : evNew P st T cells k2 := by
  unfold evNew at h ⊢
  (repeat' split at h) <;> simp_all [need_iff, opt_iff, branch_iff, cutKnown, evBound] <;> first
    | done
    | (obtain ⟨a, ha, hb⟩ := h; exact ⟨a, ha, hk _ _ hb⟩)
    | (obtain ⟨_, a, ha, hb⟩ := h; exact ⟨a, ha, hk _ _ hb⟩)
    | exact hk _ _ h
    | exact hk _ _ h.2
    | exact hk _ _ h.2.2
    | grind
theorem evBuildSlice_mono {P : Program} {T : TypeId} {n : Nat} {parts : List (Nat × SA)} {st : St} {k k2 : SV → St → Prop} (hk : ∀ x y, k x y → k2 x y) (h : evBuildSlice P T n parts st k) : evBuildSlice P T n parts st k2 := by
  unfold evBuildSlice at h ⊢
  (repeat' split at h) <;> simp_all [need_iff, opt_iff, branch_iff, cutKnown, evBound] <;> first
    | done
    | (obtain ⟨a, ha, hb⟩ := h; exact ⟨a, ha, hk _ _ hb⟩)
    | (obtain ⟨_, a, ha, hb⟩ := h; exact ⟨a, ha, hk _ _ hb⟩)
    | exact hk _ _ h
    | exact hk _ _ h.2
    | exact hk _ _ h.2.2
    | grind
theorem evClear_mono {P : Program} {T : TypeId} {st : St} {x : SA} {k k2 : SV → St → Prop} (hk : ∀ x y, k x y → k2 x y) (h : evClear P T st x k) : evClear P T st x k2 := by
  unfold evClear at h ⊢
  (repeat' split at h) <;> simp_all [need_iff, opt_iff, branch_iff, cutKnown, evBound] <;> first
    | done
    | (obtain ⟨a, ha, hb⟩ := h; exact ⟨a, ha, hk _ _ hb⟩)
    | (obtain ⟨_, a, ha, hb⟩ := h; exact ⟨a, ha, hk _ _ hb⟩)
    | exact hk _ _ h
    | exact hk _ _ h.2
    | exact hk _ _ h.2.2
    | grind
theorem evConvert_mono {P : Program} {T T2 : TypeId} {st : St} {x : SA} {k k2 : SV → St → Prop} (hk : ∀ x y, k x y → k2 x y) (h : evConvert P T T2 st x k) : evConvert P T T2 st x k2 := by
  unfold evConvert at h ⊢
  (repeat' split at h) <;> simp_all [need_iff, opt_iff, branch_iff, cutKnown, evBound] <;> first
    | done
    | (obtain ⟨a, ha, hb⟩ := h; exact ⟨a, ha, hk _ _ hb⟩)
    | (obtain ⟨_, a, ha, hb⟩ := h; exact ⟨a, ha, hk _ _ hb⟩)
    | exact hk _ _ h
    | exact hk _ _ h.2
    | exact hk _ _ h.2.2
    | grind
theorem evMakeSlice_mono {P : Program} {T : TypeId} {st : St} {x y : SA} {k k2 : SV → St → Prop} (hk : ∀ x y, k x y → k2 x y) (h : evMakeSlice P T st x y k) : evMakeSlice P T st x y k2 := by
  unfold evMakeSlice at h ⊢
  (repeat' split at h) <;> simp_all [need_iff, opt_iff, branch_iff, cutKnown, evBound] <;> first
    | done
    | (obtain ⟨a, ha, hb⟩ := h; exact ⟨a, ha, hk _ _ hb⟩)
    | (obtain ⟨_, a, ha, hb⟩ := h; exact ⟨a, ha, hk _ _ hb⟩)
    | exact hk _ _ h
    | exact hk _ _ h.2
    | exact hk _ _ h.2.2
    | grind
end Go.Ev

/- THE ENGINE, part 15: an evaluation hands on just one thing: what is made of several steps; any operation. -/
namespace Go.Ev
open Go
variable {P : Program}

/-- Hands on just one thing. -/
def Lin (f : (SV → St → Prop) → Prop) : Prop := ∀ k, f k → ∃ v s, k v s ∧ ∀ k2 : SV → St → Prop, k2 v s → f k2

theorem Lin.ret (v : SV) (s : St) : Lin (fun k => k v s) := fun _ h => ⟨v, s, h, fun _ h => h⟩
theorem Lin.false : Lin (fun _ => False) := fun _ h => h.elim
theorem Lin.need {b : Bool} {f : (SV → St → Prop) → Prop} (hf : Lin f) : Lin (fun k => Ev.need b (f k)) := fun k h => by
  obtain ⟨hb, h⟩ := need_iff.1 h
  obtain ⟨v, s, h1, h2⟩ := hf k h
  exact ⟨v, s, h1, fun k2 h => need_iff.2 ⟨hb, h2 k2 h⟩⟩
theorem Lin.branch {b : Bool} {f g : (SV → St → Prop) → Prop} (hf : Lin f) (hg : Lin g) : Lin (fun k => Ev.branch b (f k) (g k)) := fun k h => by
  rcases branch_or h with ⟨hb, h⟩ | ⟨hb, h⟩
  · obtain ⟨v, s, h1, h2⟩ := hf k h
    exact ⟨v, s, h1, fun k2 h => branch_iff.2 (.inl ⟨hb, h2 k2 h⟩)⟩
  · obtain ⟨v, s, h1, h2⟩ := hg k h
    exact ⟨v, s, h1, fun k2 h => branch_iff.2 (.inr ⟨hb, h2 k2 h⟩)⟩
theorem Lin.opt {β : Type} {x : Option β} {f : β → (SV → St → Prop) → Prop} (hf : ∀ a, Lin (f a)) : Lin (fun k => Ev.opt x fun a => f a k) := fun k h => by
  obtain ⟨a, ha, h⟩ := opt_iff.1 h
  obtain ⟨v, s, h1, h2⟩ := hf a k h
  exact ⟨v, s, h1, fun k2 h => opt_iff.2 ⟨a, ha, h2 k2 h⟩⟩
/-- behind an evaluation of another kind -/
theorem Lin.bind {β : Type} {e : (β → Prop) → Prop} (hl : ∀ k, e k → ∃ r, k r ∧ e (fun x => x = r)) (hm : ∀ k k2 : β → Prop, (∀ x, k x → k2 x) → e k → e k2) {f : β → (SV → St → Prop) → Prop} (hf : ∀ a, Lin (f a)) :
    Lin (fun k => e fun a => f a k) := fun k h => by
  obtain ⟨a, ha, he⟩ := hl _ h
  obtain ⟨v, s, h1, h2⟩ := hf a k ha
  exact ⟨v, s, h1, fun k2 h => hm _ _ (fun x hx => by subst hx; exact h2 k2 h) he⟩
theorem Lin.of {f : (SV → St → Prop) → Prop} (hl : ∀ k, f k → ∃ v s, k v s ∧ f (fun x y => x = v ∧ y = s)) (hm : ∀ k k2 : SV → St → Prop, (∀ x y, k x y → k2 x y) → f k → f k2) : Lin f := fun k h => by
  obtain ⟨v, s, h1, h2⟩ := hl k h
  exact ⟨v, s, h1, fun k2 hk => hm _ _ (by rintro _ _ ⟨rfl, rfl⟩; exact hk) h2⟩

theorem lin_bound {d : Nat} {x : Option SA} {t : Nat} {f : Nat → (SV → St → Prop) → Prop} (hf : ∀ a, Lin (f a)) : Lin (fun k => evBound d x t fun a => f a k) :=
  Lin.bind (e := evBound d x t) (fun _ h => evBound_lin h) (fun _ _ hk h => evBound_mono hk h) hf
theorem lin_src {st : St} {s : Nat} {x : SA} {f : Ct → (SV → St → Prop) → Prop} (hf : ∀ a, Lin (f a)) : Lin (fun k => evSrc st s x fun a => f a k) :=
  Lin.bind (e := evSrc st s x) (fun _ h => evSrc_lin h) (fun _ _ hk h => evSrc_mono hk h) hf

theorem lin_cut {o i c l n q : Nat} {st : St} : Lin (cutKnown o i c l n q st) := Lin.branch (Lin.ret _ _) (Lin.ret _ _)

theorem lin_slice3 {T : TypeId} {st : St} {x : SA} {lo : Option SA} {hi mx : SA} : Lin (evSlice3 P T st x lo hi mx) := by
  intro k h
  unfold evSlice3 at h ⊢
  split at h
  · split at h
    · split at h
      · exact (lin_bound fun mm => lin_bound fun h => lin_bound fun l => Lin.need lin_cut) k h
      · exact h.elim
    · exact h.elim
  · split at h
    · exact h.elim
    · exact (lin_bound fun mm => lin_bound fun h => lin_bound fun l => Lin.ret _ _) k h
  · exact h.elim

theorem lin_slice {T : TypeId} {st : St} {x : SA} {lo hi : Option SA} : Lin (evSlice P T st x lo hi) := by
  intro k h
  unfold evSlice at h ⊢
  split at h
  · split at h
    · split at h
      · exact (lin_bound fun h => lin_bound fun l => Lin.need (Lin.need lin_cut)) k h
      · exact h.elim
    · exact h.elim
  · split at h
    · split at h
      · exact (lin_bound fun h => lin_bound fun l => Lin.need (Lin.branch (Lin.ret _ _) (Lin.ret _ _))) k h
      · exact (lin_bound fun h => lin_bound fun l => Lin.need (Lin.branch (Lin.ret _ _) (Lin.branch (Lin.ret _ _) (Lin.ret _ _)))) k h
      · exact h.elim
    · exact h.elim
  · split at h
    · exact (lin_bound fun h => lin_bound fun l => Lin.need (Lin.ret _ _)) k h
    · exact h.elim
  · exact (lin_bound fun h => lin_bound fun l => Lin.ret _ _) k h
  · split at h
    · split at h
      · exact (lin_bound fun h => lin_bound fun l => Lin.need (Lin.need lin_cut)) k h
      · exact h.elim
    · exact h.elim
  · exact h.elim

theorem lin_grown {st : St} {e s bytes n : Nat} {old new : Ct} : Lin (evGrown st e s bytes n old new) := Lin.need (Lin.opt fun _ => Lin.ret _ _)

theorem lin_putKnown {w : Bool} {mk : MK} {T' m : Nat} {ct : Ct} {st : St} {o i n c : Nat} {new : Ct} : Lin (evPutKnown w mk T' m ct st o i n c new) := by
  intro k h
  unfold evPutKnown at h ⊢
  split at h
  · exact (Lin.need (Lin.opt fun _ => Lin.ret _ _)) k h
  · exact (Lin.need (Lin.opt fun _ => Lin.ret _ _)) k h
  · exact h.elim
theorem lin_putEnd {w : Bool} {mk : MK} {T' m : Nat} {ct : Ct} {st : St} {o i n : Nat} {new : Ct} : Lin (evPutEnd w mk T' m ct st o i n new) := by
  intro k h
  unfold evPutEnd at h ⊢
  split at h
  · exact (Lin.opt fun _ => Lin.ret _ _) k h
  · exact (Lin.need (Lin.ret _ _)) k h
theorem lin_regrow {w : Bool} {T' e s bytes : Nat} {ct : Ct} {st : St} {o i n : Nat} {new : Ct} : Lin (evRegrow w T' e s bytes ct st o i n new) := by
  intro k h
  unfold evRegrow at h ⊢
  split at h
  · exact (Lin.need lin_grown) k h
  · exact h.elim
theorem lin_appendAt {st : St} {e s bytes o i n : Nat} {c : Option Nat} {new : Ct} : Lin (evAppendAt st e s bytes o i n c new) := by
  intro k h
  unfold evAppendAt at h ⊢
  split at h
  · split at h
    · exact (Lin.need (Lin.branch (Lin.branch (Lin.ret _ _) lin_putKnown) (Lin.need lin_grown))) k h
    · exact (Lin.branch lin_putEnd (Lin.need lin_grown)) k h
    · exact (Lin.branch lin_putEnd lin_regrow) k h
    · exact h.elim
  · exact h.elim
theorem lin_appendWith {e s bytes : Nat} {st : St} {a : SA} {new : Ct} : Lin (evAppendWith e s bytes st a new) := by
  intro k h
  unfold evAppendWith at h ⊢
  split at h
  · exact (Lin.branch (Lin.ret _ _) lin_grown) k h
  · exact lin_appendAt k h
  · split at h
    · split at h
      · split at h
        · exact (Lin.need (Lin.branch (Lin.ret _ _) lin_grown)) k h
        · exact h.elim
      · exact h.elim
    · exact h.elim
  · exact h.elim
theorem lin_more {T2 s bytes : Nat} {z : Value} {st : St} {x : SA} {f : Ct → (SV → St → Prop) → Prop} (hf : ∀ a, Lin (f a)) : Lin (fun k => evMore P T2 s bytes z st x fun a => f a k) := by
  intro k h
  unfold evMore at h ⊢
  split at h
  · exact (lin_src hf) k h
  · split at h
    · split at h
      · exact (Lin.need (Lin.need (Lin.need (hf _)))) k h
      · exact h.elim
    · exact h.elim
theorem lin_append {T T2 : TypeId} {st : St} {a x : SA} : Lin (evAppend P T T2 st a x) := by
  intro k h
  unfold evAppend at h ⊢
  split at h
  · split at h
    · split at h
      · exact (lin_more fun new => lin_appendWith) k h
      · exact h.elim
    · exact h.elim
  · exact h.elim
theorem lin_copyWith {s : Nat} {st : St} {d : SA} {new : Ct} : Lin (evCopyWith s st d new) := by
  intro k h
  unfold evCopyWith at h ⊢
  split at h
  · split at h
    · split at h
      · exact (Lin.need (Lin.opt fun _ => Lin.ret _ _)) k h
      · exact (Lin.need (Lin.opt fun _ => Lin.ret _ _)) k h
      · exact h.elim
    · exact h.elim
  · exact Lin.ret _ _ k h
  · exact h.elim
theorem lin_copy {T : TypeId} {st : St} {a x : SA} : Lin (evCopy P T st a x) := by
  intro k h
  unfold evCopy at h ⊢
  split at h
  · split at h
    · exact (lin_src fun new => lin_copyWith) k h
    · exact h.elim
  · exact h.elim

theorem evFind_lin {kt : TypeId} {d : TypeDesc} {x : Value} : ∀ {es : List SE} {i : Nat} {K : Option (Nat × SE) → Prop}, evFind P kt d x es i K → ∃ r, K r ∧ evFind P kt d x es i (fun y => y = r)
  | [], i, K, h => ⟨none, h, rfl⟩
  | e :: es, i, K, h => by
    simp only [evFind] at h ⊢
    split at h
    · rcases branch_or h with ⟨hb, h⟩ | ⟨hb, h⟩
      · exact ⟨_, h, branch_iff.2 (.inl ⟨hb, rfl⟩)⟩
      · obtain ⟨r, h1, h2⟩ := evFind_lin h
        exact ⟨r, h1, branch_iff.2 (.inr ⟨hb, h2⟩)⟩
    · exact h.elim
theorem evFind_mono {kt : TypeId} {d : TypeDesc} {x : Value} : ∀ {es : List SE} {i : Nat} {K K2 : Option (Nat × SE) → Prop}, (∀ y, K y → K2 y) → evFind P kt d x es i K → evFind P kt d x es i K2
  | [], i, K, K2, hk, h => hk _ h
  | e :: es, i, K, K2, hk, h => by
    simp only [evFind] at h ⊢
    split at h
    · rcases branch_or h with ⟨hb, h⟩ | ⟨hb, h⟩
      · exact branch_iff.2 (.inl ⟨hb, hk _ h⟩)
      · exact branch_iff.2 (.inr ⟨hb, evFind_mono hk h⟩)
    · exact h.elim
theorem lin_find {kt : TypeId} {d : TypeDesc} {x : Value} {es : List SE} {i : Nat} {f : Option (Nat × SE) → (SV → St → Prop) → Prop} (hf : ∀ a, Lin (f a)) : Lin (fun k => evFind P kt d x es i fun a => f a k) :=
  Lin.bind (e := evFind P kt d x es i) (fun _ h => evFind_lin h) (fun _ _ hk h => evFind_mono hk h) hf
theorem lin_stays {d : TypeDesc} {old x : Value} {f : (SV → St → Prop) → Prop} (hf : Lin f) : Lin (fun k => evStays d old x (f k)) := by
  intro k h
  unfold evStays at h ⊢
  split at h
  · exact hf k h
  · exact (Lin.need hf) k h
theorem lin_found {z : Value} {ok : Bool} {st : St} {r : Option (Nat × SE)} : Lin (fun k => evFound z ok (fun v => k v st) r) := by
  intro k h
  unfold evFound at h ⊢
  split at h
  · split at h
    · exact Lin.ret _ _ k h
    · exact Lin.ret _ _ k h
  · split at h
    · exact Lin.ret _ _ k h
    · exact Lin.ret _ _ k h

theorem lin_lookup {T : TypeId} {st : St} {a b : SA} {ok : Bool} : Lin (fun k => evLookup P T st a b ok fun v => k v st) := by
  intro k h
  unfold evLookup at h ⊢
  split at h
  · split at h
    · split at h
      · split at h
        · exact lin_found k h
        · exact h.elim
      · split at h
        · split at h
          · exact (lin_find fun r => lin_found) k h
          · exact h.elim
        · exact h.elim
      · exact h.elim
    · exact h.elim
  · exact h.elim

theorem lin_updWith {d : TypeDesc} {x : Value} {v : SA} {es : List SE} {cl : Nat} {st : St} {o : Nat} {r : Option (Nat × SE)} {u : SV} : Lin (fun k => evUpdWith d x v es cl st o r fun st' => k u st') := by
  intro k h
  unfold evUpdWith at h ⊢
  cases r with
  | some p => exact (lin_stays (Lin.ret _ _)) k h
  | none => exact Lin.ret _ _ k h
theorem lin_delWith {es : List SE} {cl : Nat} {st : St} {o : Nat} {r : Option (Nat × SE)} {u : SV} : Lin (fun k => evDelWith es cl st o r fun st' => k u st') := by
  intro k h
  unfold evDelWith at h ⊢
  cases r with
  | some p => exact Lin.ret _ _ k h
  | none => exact Lin.ret _ _ k h
theorem lin_mapUpdate {T : TypeId} {st : St} {a b c : SA} {v : SV} : Lin (fun k => evMapUpdate P T st a b c fun st' => k v st') := by
  intro k h
  unfold evMapUpdate at h ⊢
  split at h
  · split at h
    · split at h
      · split at h
        · exact (lin_find fun r => lin_updWith) k h
        · exact h.elim
      · exact h.elim
    · exact h.elim
  · exact h.elim

theorem lin_entryWith {d : TypeDesc} {x z : Value} {es : List SE} {cl : Nat} {st : St} {o : Nat} {r : Option (Nat × SE)} : Lin (evEntryWith d x z es cl st o r) := by
  intro k h
  unfold evEntryWith at h ⊢
  cases r with
  | some p => exact (lin_stays (Lin.ret _ _)) k h
  | none => exact Lin.ret _ _ k h
theorem lin_mapEntry {T : TypeId} {st : St} {a b : SA} : Lin (evMapEntry P T st a b) := by
  intro k h
  unfold evMapEntry at h ⊢
  split at h
  · split at h
    · split at h
      · split at h
        · exact (lin_find fun r => lin_entryWith) k h
        · exact h.elim
      · exact h.elim
    · exact h.elim
  · exact h.elim

theorem lin_delete {T : TypeId} {st : St} {a b : SA} {v : SV} : Lin (fun k => evDelete P T st a b fun st' => k v st') := by
  intro k h
  unfold evDelete at h ⊢
  split at h
  · split at h
    · split at h
      · split at h
        · exact (lin_find fun r => lin_delWith) k h
        · exact h.elim
      · exact h.elim
    · exact h.elim
  · exact h.elim

/-- one that only answers a value -/
theorem lin_val {e : (SV → Prop) → Prop} {st : St} (hl : ∀ k, e k → ∃ r, k r ∧ e (fun x => x = r)) (hm : ∀ k k2 : SV → Prop, (∀ x, k x → k2 x) → e k → e k2) : Lin (fun k => e fun v => k v st) :=
  Lin.bind hl hm fun a => Lin.ret a st
theorem lin_st {e : (St → Prop) → Prop} {v : SV} (hl : ∀ k, e k → ∃ r, k r ∧ e (fun x => x = r)) (hm : ∀ k k2 : St → Prop, (∀ x, k x → k2 x) → e k → e k2) : Lin (fun k => e fun s => k v s) :=
  Lin.bind hl hm fun a => Lin.ret v a

theorem lin_builtin {b : Builtin} {ts : List TypeId} {T : TypeId} {args : List SA} {st : St} : Lin (evBuiltin P b ts T args st) := by
  intro k h
  unfold evBuiltin at h ⊢
  split at h
  · exact (lin_val (e := evLen P _ st _) (fun _ h => evLen_lin h) (fun _ _ hk h => evLen_mono hk h)) k h
  · exact (lin_val (e := evCap P _ st _) (fun _ h => evCap_lin h) (fun _ _ hk h => evCap_mono hk h)) k h
  · exact lin_append k h
  · exact lin_copy k h
  · exact (Lin.of (f := evClear P _ st _) (fun _ h => evClear_lin h) (fun _ _ hk h => evClear_mono hk h)) k h
  · exact lin_delete k h
  · exact (Lin.opt fun _ => Lin.opt fun _ => Lin.ret _ _) k h
  · exact (Lin.opt fun _ => Lin.opt fun _ => Lin.ret _ _) k h
  · exact h.elim

theorem lin_pick {x y : Option SV} {st : St} {cv : SA} : Lin (evPick x y st cv) := by
  intro k h
  unfold evPick at h ⊢
  split at h
  · exact (Lin.branch (Lin.opt fun _ => Lin.ret _ _) (Lin.opt fun _ => Lin.ret _ _)) k h
  · exact h.elim
theorem lin_un {op : UnOp} {st : St} {a : SA} : Lin (evUn P op st a) := by
  intro k h
  unfold evUn at h ⊢
  split at h
  · exact (Lin.opt fun _ => Lin.ret _ _) k h
  · exact h.elim
theorem lin_makeMap {T : TypeId} {st : St} {a : SA} : Lin (evMakeMap P T st a) := by
  intro k h
  unfold evMakeMap at h ⊢
  split at h
  · exact Lin.ret _ _ k h
  · exact h.elim
theorem lin_sliceMax {T : TypeId} {st : St} {a : SA} {l h' : Option SA} {z : SA} : Lin (evSliceMax P T st a l h' z) := by
  intro k h
  unfold evSliceMax at h ⊢
  cases h' with
  | some q => exact lin_slice3 k h
  | none => exact h.elim

def CallLin (call : CallT) : Prop := ∀ g args st, Lin (call g args st)

theorem lin_callee {call : CallT} (hc : CallLin call) {f : SA} {args : List SA} {st : St} : Lin (evCallee call f args st) := by
  intro k h
  unfold evCallee at h ⊢
  split at h
  · split at h
    · exact hc _ _ _ k h
    · exact h.elim
  · split at h
    · split at h
      · exact hc _ _ _ k h
      · exact h.elim
    · exact hc _ _ _ k h
    · exact h.elim
  · exact h.elim

theorem lin_iter {call : CallT} (hc : CallLin call) {f : SA} {args : List SA} {st : St} : Lin (evIter call f args st) := by
  intro k h
  unfold evIter at h ⊢
  split at h
  · split at h
    · exact hc _ _ _ k h
    · exact h.elim
  · split at h
    · split at h
      · exact hc _ _ _ k h
      · exact h.elim
    · exact h.elim
  · exact h.elim
theorem lin_op {cx : Cx} {call : CallT} {ρ : Operand → Option SV} {st : St} {o : Oper} (hc : CallLin call) : Lin (evOp cx call ρ st o) := by
  intro k h
  unfold evOp at h ⊢
  dsimp only at h ⊢
  split at h
  · exact (Lin.opt fun _ => Lin.ret _ _) k h
  · exact (Lin.opt fun _ => Lin.ret _ _) k h
  · exact (Lin.opt fun _ => lin_pick) k h
  · exact (Lin.opt fun _ => Lin.of (f := evNew _ st _ _) (fun _ h => evNew_lin h) (fun _ _ hk h => evNew_mono hk h)) k h
  · exact (Lin.opt fun _ => Lin.of (f := evNew _ st _ _) (fun _ h => evNew_lin h) (fun _ _ hk h => evNew_mono hk h)) k h
  · exact (Lin.opt fun _ => Lin.opt fun _ => Lin.ret _ _) k h
  · exact (Lin.opt fun _ => Lin.of (f := evBuildSlice _ _ _ _ st) (fun _ h => evBuildSlice_lin h) (fun _ _ hk h => evBuildSlice_mono hk h)) k h
  · exact (Lin.opt fun _ => lin_val (e := evLoad _ _ st _) (fun _ h => evLoad_lin h) (fun _ _ hk h => evLoad_mono hk h)) k h
  · exact (Lin.opt fun _ => Lin.opt fun _ => lin_st (e := evStore _ _ st _ _) (fun _ h => evStore_lin h) (fun _ _ hk h => evStore_mono hk h)) k h
  · exact (Lin.opt fun _ => Lin.opt fun _ => Lin.ret _ _) k h
  · exact (Lin.opt fun _ => Lin.opt fun _ => lin_val (e := evBin _ _ _ _ _ st _ _) (fun _ h => evBin_lin h) (fun _ _ hk h => evBin_mono hk h)) k h
  · exact (Lin.opt fun _ => lin_un) k h
  · exact (Lin.opt fun _ => Lin.of (f := evConvert _ _ _ st _) (fun _ h => evConvert_lin h) (fun _ _ hk h => evConvert_mono hk h)) k h
  · exact (Lin.opt fun _ => Lin.opt fun _ => Lin.ret _ _) k h
  · split at h
    · exact Lin.ret _ _ k h
    · exact (Lin.opt fun _ => lin_makeMap) k h
  · split at h
    · exact (Lin.opt fun _ => Lin.opt fun _ => Lin.opt fun _ => lin_slice) k h
    · exact (Lin.opt fun _ => Lin.opt fun _ => Lin.opt fun _ => Lin.opt fun _ => lin_sliceMax) k h
  · exact (Lin.opt fun _ => Lin.opt fun _ => Lin.ret _ _) k h
  · exact (Lin.opt fun _ => Lin.opt fun _ => Lin.ret _ _) k h
  · exact (Lin.opt fun _ => Lin.opt fun _ => lin_val (e := evIndexAddr _ _ st _ _) (fun _ h => evIndexAddr_lin h) (fun _ _ hk h => evIndexAddr_mono hk h)) k h
  · exact (Lin.opt fun _ => Lin.opt fun _ => lin_val (e := evIndex _ _ _ _) (fun _ h => evIndex_lin h) (fun _ _ hk h => evIndex_mono hk h)) k h
  · exact (Lin.opt fun _ => Lin.opt fun _ => lin_lookup) k h
  · exact (Lin.opt fun _ => Lin.opt fun _ => Lin.opt fun _ => lin_mapUpdate) k h
  · exact (Lin.opt fun _ => Lin.opt fun _ => lin_mapEntry) k h
  · exact (Lin.opt fun _ => Lin.opt fun _ => Lin.opt fun _ => lin_st (e := evEntryStore st _ _ _) (fun _ h => evEntryStore_lin h) (fun _ _ hk h => evEntryStore_mono hk h)) k h
  · exact (Lin.opt fun _ => Lin.opt fun _ => Lin.of (f := evMakeSlice _ _ st _ _) (fun _ h => evMakeSlice_lin h) (fun _ _ hk h => evMakeSlice_mono hk h)) k h
  · split at h
    · exact (Lin.opt fun _ => Lin.ret _ _) k h
    · exact h.elim
  · split at h
    · exact (Lin.opt fun _ => lin_builtin) k h
    · exact (Lin.opt fun _ => Lin.opt fun _ => lin_callee hc) k h
    · exact h.elim
  · exact h.elim

end Go.Ev

/- THE ENGINE, part 16: an operation looks at its operands alone; what is said of references below a bound. -/
namespace Go.Ev
open Go
variable {P : Program}

theorem rhoSA_congr {ρ ρ' : Operand → Option SV} {x : Operand} (h : ρ x = ρ' x) : rhoSA ρ x = rhoSA ρ' x := by simp only [rhoSA, h]
theorem rhoSAs_congr {ρ ρ' : Operand → Option SV} : ∀ {xs : List Operand}, (∀ x ∈ xs, ρ x = ρ' x) → rhoSAs ρ xs = rhoSAs ρ' xs
  | [], _ => rfl
  | x :: r, h => by simp only [rhoSAs, rhoSA_congr (h x (by simp)), rhoSAs_congr (xs := r) fun y hy => h y (by simp [hy])]
theorem rhoParts_congr {ρ ρ' : Operand → Option SV} : ∀ {xs : List (Nat × Operand)}, (∀ x ∈ xs.map (·.2), ρ x = ρ' x) → rhoParts ρ xs = rhoParts ρ' xs
  | [], _ => rfl
  | x :: r, h => by simp only [rhoParts, rhoSA_congr (h x.2 (by simp)), rhoParts_congr (xs := r) fun y hy => h y (by simp at hy ⊢; exact .inr hy)]
theorem rhoOpt_congr {ρ ρ' : Operand → Option SV} {x : Option Operand} (h : ∀ y, x = some y → ρ y = ρ' y) : rhoOpt ρ x = rhoOpt ρ' x := by
  cases x with
  | none => rfl
  | some y => simp only [rhoOpt, rhoSA_congr (h y rfl)]

theorem evOp_congr {cx : Cx} {call : CallT} {ρ ρ' : Operand → Option SV} {st : St} {o : Oper} {k : SV → St → Prop} (h : ∀ x ∈ o.op.operands, ρ x = ρ' x) :
    evOp cx call ρ st o k = evOp cx call ρ' st o k := by
  unfold evOp
  generalize o.op = op at h ⊢
  cases op
  case call c =>
    cases hc : c.callee with
    | value f =>
      simp only [hc, rhoSA_congr (h f (by simp [Op.operands, Call.operands, hc])), rhoSAs_congr (xs := c.args.toList) fun x hx => h x (by simp [Op.operands, Call.operands]; right; simpa using hx)]
    | builtin b =>
      simp only [hc, rhoSAs_congr (xs := c.args.toList) fun x hx => h x (by simp [Op.operands, Call.operands]; right; simpa using hx)]
    | invoke r m => simp only [hc]
  case pick c a b =>
    simp only [rhoSA_congr (h c (by simp [Op.operands])), h a (by simp [Op.operands]), h b (by simp [Op.operands])]
  case build T ps =>
    simp only [rhoParts_congr (xs := ps.toList) fun x hx => h x (by simp [Op.operands]; simpa using hx)]
  case buildSlice T n ps =>
    simp only [rhoParts_congr (xs := ps.toList) fun x hx => h x (by simp [Op.operands]; simpa using hx)]
  case makeFunc fn first cap =>
    simp only [rhoSAs_congr (xs := first.toList) fun x hx => h x (by simp [Op.operands]; left; simpa using hx), rhoSAs_congr (xs := cap.toList) fun x hx => h x (by simp [Op.operands]; right; simpa using hx)]
  case makeMap T r =>
    cases r with
    | none => rfl
    | some x => simp only [rhoSA_congr (h x (by simp [Op.operands]))]
  case slice T x lo hi mx =>
    have e1 := rhoSA_congr (h x (by simp [Op.operands]))
    have e2 := rhoOpt_congr (x := lo) fun y hy => h y (by subst hy; simp [Op.operands])
    have e3 := rhoOpt_congr (x := hi) fun y hy => h y (by subst hy; simp [Op.operands])
    cases mx with
    | none => simp only [e1, e2, e3]
    | some y => simp only [e1, e2, e3, rhoSA_congr (h y (by simp [Op.operands]))]
  all_goals
    simp only [Op.operands, Array.mem_def, List.mem_cons, List.not_mem_nil, or_false, forall_eq_or_imp, forall_eq] at h
    first
      | rfl
      | simp only [rhoSA, h]

/-! ### references below a bound -/
theorem belowL_iff {n : Nat} {l : List Nat} : belowL n l = true ↔ ∀ o ∈ l, o < n := by
  induction l with
  | nil => simp [belowL]
  | cons x r ih =>
    simp only [belowL]
    split
    · rename_i h; rw [ih]; have := Nat.le_of_ble_eq_true h; simp only [List.mem_cons, forall_eq_or_imp]; exact ⟨fun h => ⟨by omega, h⟩, fun h => h.2⟩
    · rename_i h
      simp only [Bool.false_eq_true, false_iff]
      intro hh
      have := hh x (by simp)
      rw [show Nat.blt x n = true from Nat.ble_eq_true_of_le this] at h; simp at h
def Al.upto (α : Al) (n : Nat) : Al := fun o => if o < n then α o else none
theorem Al.upto_lt {α : Al} {n o : Nat} (h : o < n) : α.upto n o = α o := by simp [Al.upto, h]
theorem Al.upto_le (α : Al) (n : Nat) : (α.upto n).le α := by
  intro o d h
  simp only [Al.upto] at h
  split at h
  · exact h
  · simp at h

theorem SC.val?_at {α β : Al} {c : SC} {v : Value} (h : ∀ o ∈ c.refs, β o = α o) (e : c.val? α = some v) : c.val? β = some v := by
  cases c <;> simp only [SC.val?] at e ⊢
  · exact e
  all_goals rw [h _ (by simp [SC.refs])]; exact e
theorem Reps.at {α β : Al} : ∀ {l : List SC} {vs : List Value}, (∀ o ∈ refsL l, β o = α o) → Reps α l vs → Reps β l vs
  | [], [], _, _ => trivial
  | _ :: _, _ :: _, h, e => ⟨SC.val?_at (fun o ho => h o (by simp [refsL, ho])) e.1, Reps.at (fun o ho => h o (by simp [refsL, ho])) e.2⟩
  | [], _ :: _, _, e => e.elim
  | _ :: _, [], _, e => e.elim
theorem SA.rep_at {α β : Al} {a : SA} {v : Value} (h : ∀ o ∈ a.refs, β o = α o) (e : a.rep α v) : a.rep β v := by
  cases a with
  | one c => exact SC.val?_at h e
  | agg l => obtain ⟨vs, r, e⟩ := e; exact ⟨vs, r.at h, e⟩
theorem RepsA.at {α β : Al} : ∀ {l : List SA} {vs : List Value}, (∀ o ∈ refsA l, β o = α o) → RepsA α l vs → RepsA β l vs
  | [], [], _, _ => trivial
  | _ :: _, _ :: _, h, e => ⟨SA.rep_at (fun o ho => h o (by simp [refsA, ho])) e.1, RepsA.at (fun o ho => h o (by simp [refsA, ho])) e.2⟩
  | [], _ :: _, _, e => e.elim
  | _ :: _, [], _, e => e.elim
theorem SV.rep_at {α β : Al} {a : SV} {v : Value} (h : ∀ o ∈ a.refs, β o = α o) (e : a.rep α v) : a.rep β v := by
  cases a with
  | sa c => exact SA.rep_at h e
  | tup l => obtain ⟨vs, r, e⟩ := e; exact ⟨vs, r.at h, e⟩
theorem EntsRep.at {α β : Al} : ∀ {es : List SE} {xs : List MapEntry}, (∀ o ∈ refsE es, β o = α o) → EntsRep α es xs → EntsRep β es xs
  | [], [], _, _ => trivial
  | _ :: _, _ :: _, h, e => ⟨⟨e.1.1, e.1.2.1, SA.rep_at (fun o ho => h o (by simp [refsE, ho])) e.1.2.2⟩, EntsRep.at (fun o ho => h o (by simp [refsE, ho])) e.2⟩
  | [], _ :: _, _, e => e.elim
  | _ :: _, [], _, e => e.elim
theorem mem_refsLL {o : Nat} {c : SC} : ∀ {vs : List (List SC)} {i j : Nat}, (vs[i]?.getD [])[j]? = some c → o ∈ c.refs → o ∈ refsLL vs
  | [], i, j, h, _ => by simp at h
  | l :: r, 0, j, h, ho => by
    simp at h
    simp only [refsLL, List.mem_append]
    left
    clear r
    induction l generalizing j with
    | nil => simp at h
    | cons d l ih => cases j with
      | zero => simp at h; subst h; simp [refsL, ho]
      | succ j => simp only [refsL, List.mem_append]; exact .inr (ih j (by simpa using h))
  | l :: r, i + 1, j, h, ho => by
    simp only [refsLL, List.mem_append]
    exact .inr (mem_refsLL (vs := r) (i := i) (j := j) (by simpa using h) ho)
theorem Ct.Cells.at {α β : Al} {ct : Ct} {m : Nat} {g : Nat → Nat → Option Value} (h : ∀ vs, ct = .lst vs → ∀ o ∈ refsLL vs, β o = α o) (hc : ct.Cells α m g) : ct.Cells β m g := by
  intro i hi
  obtain ⟨h1, h2⟩ := hc i hi
  refine ⟨h1, fun j c hj => ?_⟩
  obtain ⟨v, h3, h4, h5⟩ := h2 j c hj
  refine ⟨v, SC.val?_at (fun o ho => ?_) h3, h4, h5⟩
  cases ct with
  | lst vs =>
    refine h vs rfl o (mem_refsLL (vs := vs) (i := i) (j := j) ?_ ho)
    simpa [Ct.get] using hj
  | ints k xs =>
    have := List.mem_of_getElem? hj
    simp only [Ct.get, List.mem_singleton] at this
    subst this; simp [SC.refs] at ho
  | tab n cs =>
    have := List.mem_of_getElem? hj
    have hno : ∀ (cs : List Col), ∀ c ∈ colsAt i cs, c.refs = [] := by
      intro cs
      induction cs with
      | nil => intro c hc; cases hc
      | cons x r ih =>
        intro c hc
        simp only [colsAt, List.mem_cons] at hc
        rcases hc with rfl | hc
        · cases x <;> rfl
        · exact ih c hc
    rw [hno cs c this] at ho
    cases ho
theorem mem_frRefs {sv : SV} {o : Nat} : ∀ {fr : Fr} {t : Nat}, fr[t]?.getD none = some sv → o ∈ sv.refs → o ∈ frRefs fr
  | [], t, h, _ => by simp at h
  | none :: r, 0, h, _ => by simp at h
  | none :: r, t + 1, h, ho => by simp only [frRefs]; exact mem_frRefs (fr := r) (t := t) (by simpa using h) ho
  | some v :: r, 0, h, ho => by simp at h; subst h; simp only [frRefs, List.mem_append]; exact .inl ho
  | some v :: r, t + 1, h, ho => by simp only [frRefs, List.mem_append]; exact .inr (mem_frRefs (fr := r) (t := t) (by simpa using h) ho)
theorem FrOk.at {α β : Al} {fr : Fr} {tmps : Array Value} (h : ∀ o ∈ frRefs fr, β o = α o) (hf : FrOk α fr tmps) : FrOk β fr tmps :=
  ⟨hf.1, fun t sv ht => let ⟨v, h1, h2⟩ := hf.2 t sv ht; ⟨v, h1, SV.rep_at (fun o ho => h o (mem_frRefs (by rw [← Fr.get_eq]; exact ht) ho)) h2⟩⟩
theorem Good.at {α β : Al} {w : World} {d : Den} {so : SO} (h : ∀ o ∈ so.refs, β o = α o) (hg : Good α w d so) : Good β w d so := by
  cases so with
  | mem wb k T m ct =>
    have hc : ∀ vs, ct = .lst vs → ∀ o ∈ refsLL vs, β o = α o := fun vs e o ho => h o (by subst e; simpa [SO.refs] using ho)
    obtain ⟨h1, h2, h4⟩ := hg
    refine ⟨h1, h2, ?_⟩
    cases k with
    | ext => exact ⟨h4.1, h4.2.at hc⟩
    | whole => obtain ⟨cs, fz, h5, h6, h7, h8, h9, h10⟩ := h4; exact ⟨cs, fz, h5, h6, h7, h8, h9, h10.at hc⟩
    | row => obtain ⟨cs, fz, h5, h6, h7, h8, h9, h10⟩ := h4; exact ⟨cs, fz, h5, h6, h7, h8, h9, h10.at hc⟩
  | clo f a b =>
    obtain ⟨va, vb, h1, h2, h3⟩ := hg
    exact ⟨va, vb, h1.at fun o ho => h o (by simp [SO.refs, ho]), h2.at fun o ho => h o (by simp [SO.refs, ho]), h3⟩
  | emp o L => obtain ⟨e, a, c, h1, h2⟩ := hg; exact ⟨e, a, c, (h o (by simp [SO.refs])).trans h1, h2⟩
  | nul => exact hg
  | mp k es cl => obtain ⟨h1, xs, h2, h3⟩ := hg; exact ⟨h1, xs, h2, h3.at fun o ho => h o (by simpa [SO.refs] using ho)⟩
  | lp wb f fr ps a b s j => obtain ⟨h1, r, h2, h3, h4⟩ := hg; exact ⟨h1, r, h2, h3.at fun o ho => h o (by simpa [SO.refs] using ho), h4⟩

theorem belowS_get {n : Nat} : ∀ {st : St}, belowS n st = true → ∀ {x : Nat} {so : SO}, st[x]? = some (some so) → ∀ o ∈ so.refs, o < n
  | [], _, x, so, h => by simp at h
  | none :: r, hb, 0, so, h => by simp at h
  | some s :: r, hb, 0, so, h => by
    simp at h; subst h
    simp only [belowS] at hb
    split at hb
    · rename_i hl; exact belowL_iff.1 hl
    · simp at hb
  | none :: r, hb, x + 1, so, h => belowS_get (st := r) (by simpa [belowS] using hb) (x := x) (by simpa using h)
  | some s :: r, hb, x + 1, so, h => by
    simp only [belowS] at hb
    split at hb
    · exact belowS_get (st := r) hb (x := x) (by simpa using h)
    · simp at hb
theorem opRefs_mem {ρ : Operand → Option SV} {x : Operand} {sv : SV} : ∀ {xs : List Operand}, x ∈ xs → ρ x = some sv → ∀ o ∈ sv.refs, o ∈ opRefs ρ xs
  | [], h, _, _, _ => by simp at h
  | y :: r, h, hx, o, ho => by
    simp only [opRefs]
    rcases List.mem_cons.1 h with rfl | h
    · rw [hx]; simp [ho]
    · have := opRefs_mem h hx o ho
      split
      · simp [this]
      · exact this

end Go.Ev

/- THE ENGINE, part 16: a region that draws its order. -/
namespace Go.Ev
open Go
variable {P : Program}

theorem hasN_iff {n : Nat} {l : List Nat} : hasN n l = true ↔ n ∈ l := by
  induction l with
  | nil => simp [hasN]
  | cons m r ih =>
    simp only [hasN, List.mem_cons]
    split
    · rename_i h; simp [Nat.eq_of_beq_eq_true h]
    · rename_i h
      have hne : n ≠ m := fun e => by subst e; simp at h
      rw [ih]; simp [hne]
theorem mem_upFrom {n i x : Nat} : x ∈ upFrom i n ↔ i ≤ x ∧ x < i + n := by
  induction n generalizing i with
  | zero => simp [upFrom]
  | succ n ih => simp only [upFrom, List.mem_cons, ih]; omega
theorem meets_iff {l r : List Nat} : meets l r = true ↔ ∃ x, x ∈ l ∧ x ∈ r := by
  induction l with
  | nil => simp [meets]
  | cons m l ih =>
    simp only [meets]
    split
    · rename_i h; simp only [true_iff]; exact ⟨m, by simp, hasN_iff.1 h⟩
    · rename_i h
      rw [ih]
      constructor
      · rintro ⟨x, h1, h2⟩; exact ⟨x, by simp [h1], h2⟩
      · rintro ⟨x, h1, h2⟩
        rcases List.mem_cons.1 h1 with rfl | h1
        · rw [hasN_iff.2 h2] at h; simp at h
        · exact ⟨x, h1, h2⟩

/-! ### restricted states, states laid together -/
theorem restrict_length (rd wr : List Nat) : ∀ (i : Nat) (st : St), (restrict rd wr i st).length = st.length
  | _, [] => rfl
  | i, x :: r => by simp [restrict, restrict_length rd wr (i + 1) r]
theorem restrict_get (rd wr : List Nat) : ∀ (i : Nat) (st : St) (x : Nat), x < st.length →
    (restrict rd wr i st)[x]? = some (if i + x ∈ wr then st[x]?.getD none else if i + x ∈ rd then (st[x]?.getD none).map SO.asRo else none)
  | i, [], x, h => by simp at h
  | i, y :: r, 0, _ => by
    simp only [restrict, List.getElem?_cons_zero, Nat.add_zero, Option.getD_some]
    cases h1 : hasN i wr with
    | true => simp [hasN_iff.1 h1]
    | false =>
      have hn : i ∉ wr := fun e => by rw [hasN_iff.2 e] at h1; simp at h1
      cases h2 : hasN i rd with
      | true => simp [hn, hasN_iff.1 h2]
      | false =>
        have hn2 : i ∉ rd := fun e => by rw [hasN_iff.2 e] at h2; simp at h2
        simp [hn, hn2]
  | i, y :: r, x + 1, h => by
    simp only [restrict, List.getElem?_cons_succ]
    rw [restrict_get rd wr (i + 1) r x (by simpa using h)]
    rw [show i + 1 + x = i + (x + 1) from by omega]
theorem mergeS_get (wr : List Nat) : ∀ (i : Nat) (st s : St) (x : Nat),
    (mergeS wr i st s)[x]? = if x < st.length then some (if i + x ∈ wr then s[x]?.getD none else st[x]?.getD none) else s[x]?
  | i, [], s, x => by simp [mergeS]
  | i, y :: r, s, x => by
    have ih := mergeS_get wr (i + 1) r (s.drop 1)
    simp only [mergeS, dropL_eq, getL_eq]
    cases x with
    | zero =>
      simp only [List.getElem?_cons_zero, List.length_cons, Nat.zero_lt_succ, if_true, Nat.add_zero, Option.getD_some]
      cases h1 : hasN i wr with
      | true => simp [hasN_iff.1 h1]
      | false =>
        have hn : i ∉ wr := fun e => by rw [hasN_iff.2 e] at h1; simp at h1
        simp [hn]
    | succ x =>
      simp only [List.getElem?_cons_succ, List.length_cons, Nat.add_lt_add_iff_right]
      rw [ih x, show i + 1 + x = i + (x + 1) from by omega]
      simp only [List.getElem?_drop, Nat.add_comm 1 x]
theorem mergeS_length (wr : List Nat) : ∀ (i : Nat) (st s : St), (mergeS wr i st s).length = max st.length s.length
  | i, [], s => by simp [mergeS]
  | i, y :: r, s => by
    simp only [mergeS, dropL_eq, List.length_cons, mergeS_length wr (i + 1) r, List.length_drop]
    omega

/-! ### values by the set of operations that are done -/
def updF (N : Nat) (F : Nat → Option SV) (d : Option Nat) (v : SV) : Nat → Option SV := fun u => if d = some u ∧ u < N then some v else F u
def foldF (N : Nat) (dst : Nat → Option Nat) (val : Nat → SV) (F0 : Nat → Option SV) (D : Nat → Bool) : Nat → Nat → Option SV
  | 0 => F0
  | n + 1 => if D n = true then updF N (foldF N dst val F0 D n) (dst n) (val n) else foldF N dst val F0 D n

theorem foldF_stop {N : Nat} {dst : Nat → Option Nat} {val : Nat → SV} {F0 : Nat → Option SV} {D : Nat → Bool} {i t : Nat} :
    ∀ n, i ≤ n → (∀ j, i ≤ j → j < n → dst j = some t → D j = false) → foldF N dst val F0 D n t = foldF N dst val F0 D i t
  | 0, h, _ => by have : i = 0 := by omega
                  subst this; rfl
  | n + 1, h, hw => by
    by_cases e : i = n + 1
    · subst e; rfl
    · have ih := foldF_stop (D := D) (i := i) (t := t) (N := N) (dst := dst) (val := val) (F0 := F0) n (by omega) (fun j h1 h2 => hw j h1 (by omega))
      simp only [foldF]
      split
      · rename_i hd
        simp only [updF]
        rw [if_neg ?_]
        · exact ih
        · rintro ⟨h1, _⟩
          have := hw n (by omega) (by omega) h1
          rw [hd] at this; simp at this
      · exact ih
theorem foldF_all {N : Nat} {dst : Nat → Option Nat} {val : Nat → SV} {F0 : Nat → Option SV} {D : Nat → Bool} {t : Nat} :
    ∀ i, (∀ j, j < i → dst j = some t → D j = true) → foldF N dst val F0 D i t = foldF N dst val F0 (fun _ => true) i t
  | 0, _ => rfl
  | i + 1, hw => by
    have ih := foldF_all (D := D) (t := t) (N := N) (dst := dst) (val := val) (F0 := F0) i (fun j hj => hw j (by omega))
    simp only [foldF, if_true]
    by_cases hd : D i = true
    · rw [if_pos hd]
      simp only [updF]
      split
      · rfl
      · exact ih
    · rw [if_neg hd]
      simp only [updF]
      rw [if_neg ?_]
      · exact ih
      · rintro ⟨h1, _⟩
        exact hd (hw i (by omega) h1)

def foldS (ws : Nat → Nat → Bool) (post : Nat → St) (C0 : Nat → Option SO) (D : Nat → Bool) : Nat → Nat → Option SO
  | 0 => C0
  | n + 1 => if D n = true then (fun x => if ws n x = true then (post n).get x else foldS ws post C0 D n x) else foldS ws post C0 D n

theorem foldS_stop {ws : Nat → Nat → Bool} {post : Nat → St} {C0 : Nat → Option SO} {D : Nat → Bool} {i x : Nat} :
    ∀ n, i ≤ n → (∀ j, i ≤ j → j < n → ws j x = true → D j = false) → foldS ws post C0 D n x = foldS ws post C0 D i x
  | 0, h, _ => by have : i = 0 := by omega
                  subst this; rfl
  | n + 1, h, hw => by
    by_cases e : i = n + 1
    · subst e; rfl
    · have ih := foldS_stop (D := D) (i := i) (x := x) (ws := ws) (post := post) (C0 := C0) n (by omega) (fun j h1 h2 => hw j h1 (by omega))
      simp only [foldS]
      split
      · rename_i hd
        simp only
        rw [if_neg ?_]
        · exact ih
        · intro h1
          have := hw n (by omega) (by omega) h1
          rw [hd] at this; simp at this
      · exact ih
theorem foldS_all {ws : Nat → Nat → Bool} {post : Nat → St} {C0 : Nat → Option SO} {D : Nat → Bool} {x : Nat} :
    ∀ i, (∀ j, j < i → ws j x = true → D j = true) → foldS ws post C0 D i x = foldS ws post C0 (fun _ => true) i x
  | 0, _ => rfl
  | i + 1, hw => by
    have ih := foldS_all (D := D) (x := x) (ws := ws) (post := post) (C0 := C0) i (fun j hj => hw j (by omega))
    simp only [foldS, if_true]
    by_cases hd : D i = true
    · rw [if_pos hd]
      split
      · rfl
      · exact ih
    · rw [if_neg hd, if_neg ?_]
      · exact ih
      · intro h1
        exact hd (hw i (by omega) h1)

/-! ### what is surely ahead -/
def Closed (ops : List Oper) (D : Nat → Bool) : Prop :=
  ∀ (j : Nat) (o : Oper), ops[j]? = some o → D j = true → ∀ e ∈ o.after.toList, Region.binds .any e = true → D e.on = true
theorem ancestors_spec {D : Nat → Bool} : ∀ (rest all : List Oper) (acc : List (List Nat)), all.drop acc.length = rest → Closed all D →
    (∀ (j i : Nat), i ∈ acc[j]?.getD [] → D j = true → D i = true) → ∀ (j i : Nat), i ∈ (ancestors rest acc)[j]?.getD [] → D j = true → D i = true
  | [], all, acc, _, _, hacc => by simpa [ancestors] using hacc
  | o :: rest, all, acc, hd, hc, hacc => by
    simp only [ancestors]
    have ho : all[acc.length]? = some o := by
      have : (all.drop acc.length)[0]? = some o := by rw [hd]; rfl
      simpa using this
    refine ancestors_spec rest all _ (by simp; rw [← List.drop_drop, hd]; rfl) hc fun j i hi hj => ?_
    by_cases hlt : j < acc.length
    · rw [List.getElem?_append_left hlt] at hi
      exact hacc j i hi hj
    · rw [List.getElem?_append_right (by omega)] at hi
      by_cases he : j = acc.length
      · subst he
        simp only [Nat.sub_self, List.getElem?_cons_zero, Option.getD_some, List.mem_flatMap] at hi
        obtain ⟨e, he, hm⟩ := hi
        split at hm
        · rename_i hb
          have hon := hc _ o ho hj e he hb
          rcases List.mem_cons.1 hm with rfl | hm
          · exact hon
          · rw [getL_eq] at hm
            exact hacc _ _ hm hon
        · simp at hm
      · have : (acc ++ [o.after.toList.flatMap fun e => if Region.binds .any e then e.on :: getL [] acc e.on else []]).length ≤ j := by simp; omega
        rw [List.getElem?_eq_none (by simp; omega)] at hi
        simp at hi

end Go.Ev

/- THE ENGINE, part 18: what a run in the text's order leaves behind, operation by operation. -/
namespace Go.Ev
open Go
variable {P : Program}

/-- The slot that the guard of an operation looks at. -/
def slots (ops : List Oper) (o : Oper) : List Nat := match o.guard with
  | some (j, _) => (match ops[j]? with | some oj => oj.dst.toList | none => [])
  | none => []
def Wants (ops : Array Oper) (o : Oper) (fr : Fr) (b : Bool) : Prop :=
  ∀ (α : Al) (tmps : Array Value), (∀ d ∈ slots ops.toList o, ∀ sv, fr.get d = some sv → ∃ v, tmps[d]? = some v ∧ SV.rep α sv v) → Region.wanted o (yielded ops tmps) = b

theorem Fr.put_same {fr : Fr} {t : Nat} {v : SV} (h : fr.get t = some v) : fr.put (some t) v = fr := by
  rw [Fr.put_some]
  apply List.ext_getElem?
  intro i
  rw [List.getElem?_set]
  split
  · rename_i e
    subst e
    rw [Fr.get_eq] at h
    by_cases hlt : t < fr.length
    · rw [if_pos hlt]
      rw [List.getElem?_eq_getElem hlt] at h ⊢
      simp at h; rw [h]
    · rw [List.getElem?_eq_none (by omega)] at h; simp at h
  · rfl

theorem evGuard_split {ops : Array Oper} {o : Oper} {fr : Fr} {run skip : Fr → Prop} (h : evGuard ops.toList o fr run skip) :
    (run fr ∧ Wants ops o fr true) ∨ (skip fr ∧ Wants ops o fr false) := by
  unfold evGuard at h
  unfold Wants Region.wanted slots
  split at h
  · rename_i hg
    left
    exact ⟨h, fun _ _ _ => by simp [hg]⟩
  · rename_i j want hg
    simp only [hg]
    split at h
    · rename_i hj
      right
      refine ⟨h, fun _ _ _ => ?_⟩
      have : ops[j]? = none := by simpa using hj
      simp [yielded, this]
    · rename_i oj hj
      have hj' : ops[j]? = some oj := by simpa using hj
      simp only [hj]
      split at h
      · rename_i hd
        right
        exact ⟨h, fun _ _ _ => by simp [yielded, hj', hd]⟩
      · rename_i d hd
        simp only [hd, Option.toList_some, List.mem_singleton, forall_eq]
        split at h
        · rename_i b hb
          have key : ∀ (α : Al) (tmps : Array Value), (∀ sv, fr.get d = some sv → ∃ v, tmps[d]? = some v ∧ SV.rep α sv v) → yielded ops tmps j = some b := by
            intro α tmps ht
            obtain ⟨v, h1, h2⟩ := ht _ hb
            simp only [SV.rep, SA.rep, SC.val?, Option.some.injEq] at h2
            subst h2
            simp [yielded, hj', hd, h1]
          split at h
          · rcases branch_or h with ⟨e, h⟩ | ⟨e, h⟩
            · left; rw [Fr.put_same (by rw [hb, e])] at h; exact ⟨h, fun α tmps ht => by simp [key α tmps ht, e]⟩
            · right; rw [Fr.put_same (by rw [hb, e])] at h; exact ⟨h, fun α tmps ht => by simp [key α tmps ht, e]⟩
          · rcases branch_or h with ⟨e, h⟩ | ⟨e, h⟩
            · right; rw [Fr.put_same (by rw [hb, e])] at h; exact ⟨h, fun α tmps ht => by simp [key α tmps ht, e]⟩
            · left; rw [Fr.put_same (by rw [hb, e])] at h; exact ⟨h, fun α tmps ht => by simp [key α tmps ht, e]⟩
        · rename_i hb
          right
          refine ⟨h, fun α tmps ht => ?_⟩
          obtain ⟨v, h1, vs, h2, h3⟩ := ht _ hb
          subst h3
          simp [yielded, hj', hd, h1]
        · exact h.elim

/-! ### the trace -/
structure Tr where
  fr : Nat → Fr
  st : Nat → St
  ran : Nat → Bool
  rd : Nat → List Nat
  wr : Nat → List Nat
  v : Nat → SV
  loc : Nat → St
def nCons {α : Type} (x : α) (f : Nat → α) : Nat → α
  | 0 => x
  | i + 1 => f i
def Tr.cons (t : Tr) (fr : Fr) (st : St) (ran : Bool) (rd wr : List Nat) (v : SV) (loc : St) : Tr :=
  ⟨nCons fr t.fr, nCons st t.st, nCons ran t.ran, nCons rd t.rd, nCons wr t.wr, nCons v t.v, nCons loc t.loc⟩
def Tr.log (t : Tr) (i : Nat) : Rec := ⟨t.rd i, t.wr i ++ upFrom (t.st i).length ((t.loc i).length - (t.st i).length)⟩
structure Tr.Ok (cx : Cx) (call : CallT) (ops : Array Oper) (t : Tr) (i : Nat) (o : Oper) : Prop where
  nfr : t.fr (i + 1) = (t.fr i).put o.dst (t.v i)
  nst : t.st (i + 1) = mergeS (t.wr i) 0 (t.st i) (t.loc i)
  yes : t.ran i = true → Wants ops o (t.fr i) true ∧ belowL (t.st i).length (opRefs (evOperand (t.fr i)) o.op.operands.toList) = true ∧
    belowS (t.st i).length (restrict (t.rd i) (t.wr i) 0 (t.st i)) = true ∧
    evOp cx call (evOperand (t.fr i)) (restrict (t.rd i) (t.wr i) 0 (t.st i)) o (fun x y => x = t.v i ∧ y = t.loc i)
  no : t.ran i = false → Wants ops o (t.fr i) false ∧ t.rd i = [] ∧ t.wr i = [] ∧ t.v i = undefV ∧ t.loc i = t.st i

theorem mergeS_nil : ∀ (i : Nat) (st : St), mergeS [] i st st = st
  | _, [] => rfl
  | i, y :: r => by simp [mergeS, hasN, mergeS_nil (i + 1) r]

theorem evDraw_trace {cx : Cx} {call : CallT} {ops : Array Oper} {k : Fr → St → Prop} (hc : CallLin call) :
    ∀ (rest : List Oper) (fr : Fr) (st : St) (log : List Rec), evDraw cx call ops.toList rest fr st log k →
      ∃ t : Tr, t.fr 0 = fr ∧ t.st 0 = st ∧ (∀ i o, rest[i]? = some o → t.Ok cx call ops i o) ∧
        logOk ops.toList (log ++ (List.range rest.length).map t.log) = true ∧ k (t.fr rest.length) (t.st rest.length)
  | [], fr, st, log, h => by
    simp only [evDraw, forceV_eq] at h
    split at h
    · rename_i hl
      exact ⟨⟨fun _ => fr, fun _ => st, fun _ => false, fun _ => [], fun _ => [], fun _ => undefV, fun _ => st⟩, rfl, rfl, fun i o hi => by simp at hi, by simpa using hl, h⟩
    · exact h.elim
  | o :: r, fr, st, log, h => by
    simp only [evDraw, forceV_eq] at h
    have shape : ∀ (t : Tr) (ran : Bool) (rd wr : List Nat) (v : SV) (loc : St),
        (log ++ [⟨rd, wr ++ upFrom st.length (loc.length - st.length)⟩]) ++ (List.range r.length).map t.log =
          log ++ (List.range (o :: r).length).map (t.cons fr st ran rd wr v loc).log := by
      intro t ran rd wr v loc
      simp only [List.length_cons, List.range_succ_eq_map, List.map_cons, List.map_map, List.append_assoc, List.singleton_append]
      rfl
    have oks : ∀ (t : Tr) (ran : Bool) (rd wr : List Nat) (v : SV) (loc : St), (∀ i o, r[i]? = some o → t.Ok cx call ops i o) →
        (t.cons fr st ran rd wr v loc).Ok cx call ops 0 o → ∀ i o', (o :: r)[i]? = some o' → (t.cons fr st ran rd wr v loc).Ok cx call ops i o' := by
      intro t ran rd wr v loc h1 h2 i o' hi
      cases i with
      | zero => simp at hi; subst hi; exact h2
      | succ i =>
        have := h1 i o' (by simpa using hi)
        exact ⟨this.1, this.2, this.3, this.4⟩
    rcases evGuard_split h with ⟨h, hw⟩ | ⟨h, hw⟩
    · generalize hrd : (touch cx (evOperand fr) st o).1 = rd at h
      generalize hwr : (touch cx (evOperand fr) st o).2 = wr at h
      split at h
      · rename_i hb
        rw [Bool.and_eq_true] at hb
        simp only [lenL_eq] at h hb
        obtain ⟨v, loc, h1, h2⟩ := lin_op hc _ h
        replace h2 := h2 (fun x y => x = v ∧ y = loc) ⟨rfl, rfl⟩
        obtain ⟨t, t1, t2, t3, t4, t5⟩ := evDraw_trace hc r _ _ _ h1
        refine ⟨t.cons fr st true rd wr v loc, rfl, rfl, oks t _ _ _ _ _ t3 ⟨t1, t2, fun _ => ⟨hw, hb.1, hb.2, h2⟩, fun e => by cases e⟩, ?_, t5⟩
        rw [← shape]; exact t4
      · exact h.elim
    · obtain ⟨t, t1, t2, t3, t4, t5⟩ := evDraw_trace hc r _ _ _ h
      refine ⟨t.cons fr st false [] [] undefV st, rfl, rfl, oks t _ _ _ _ _ t3 ⟨t1, t2.trans (mergeS_nil 0 st).symm, fun e => (by cases e), fun _ => ⟨hw, rfl, rfl, rfl, rfl⟩⟩, ?_, t5⟩
      rw [← shape]
      simpa [upFrom] using t4

/-! ### what the log's check says -/
theorem edgesBack_spec : ∀ {ops : List Oper} {i : Nat}, edgesBack ops i = true → ∀ {a : Nat} {o : Oper}, ops[a]? = some o → ∀ e ∈ o.after.toList, Region.binds .any e = true → e.on < i + a
  | [], i, _, a, o, h => by simp at h
  | x :: r, i, hb, a, o, h => by
    simp only [edgesBack, Bool.and_eq_true, List.all_eq_true] at hb
    intro e he hbi
    cases a with
    | zero =>
      simp at h; subst h
      have := hb.1 e he
      simp only [hbi, Bool.not_true, Bool.false_or] at this
      have := Nat.le_of_ble_eq_true this
      omega
    | succ a =>
      have := edgesBack_spec hb.2 (a := a) (by simpa using h) e he hbi
      omega
theorem pairsOk_spec {anc : List (List Nat)} {ops : List Oper} {x : Oper} {rx : Rec} {i : Nat} : ∀ {ys : List Oper} {rs : List Rec} {j : Nat}, pairsOk anc ops x rx i ys rs j = true →
    ∀ {m : Nat} {y : Oper} {ry : Rec}, ys[m]? = some y → rs[m]? = some ry → (tmpClash ops x y || rx.clash ry) = true → i ∈ anc[j + m]?.getD []
  | [], rs, j, _, m, y, ry, h, _ => by simp at h
  | y' :: ys, [], j, _, m, y, ry, _, h => by simp at h
  | y' :: ys, r' :: rs, j, hp, m, y, ry, h1, h2 => by
    intro hc
    simp only [pairsOk] at hp
    split at hp
    · simp at hp
    · rename_i hn
      cases m with
      | zero =>
        simp at h1 h2
        subst h1 h2
        simp only [hc, Bool.true_and, getL_eq, Bool.not_eq_false'] at hn
        exact hasN_iff.1 hn
      | succ m =>
        have := pairsOk_spec hp (m := m) (by simpa using h1) (by simpa using h2) hc
        rwa [show j + (m + 1) = j + 1 + m from by omega]
theorem allPairs_spec {anc : List (List Nat)} {ops : List Oper} : ∀ {xs : List Oper} {rs : List Rec} {i : Nat}, allPairs anc ops xs rs i = true →
    ∀ {a b : Nat} {x y : Oper} {rx ry : Rec}, a < b → xs[a]? = some x → xs[b]? = some y → rs[a]? = some rx → rs[b]? = some ry → (tmpClash ops x y || rx.clash ry) = true → i + a ∈ anc[i + b]?.getD []
  | [], rs, i, _, a, b, x, y, rx, ry, _, h, _, _, _ => by simp at h
  | x' :: xs, [], i, _, a, b, x, y, rx, ry, _, _, _, h, _ => by simp at h
  | x' :: xs, r' :: rs, i, hp, a, b, x, y, rx, ry, hab, h1, h2, h3, h4 => by
    intro hc
    simp only [allPairs] at hp
    split at hp
    · rename_i hq
      cases b with
      | zero => omega
      | succ b =>
        cases a with
        | zero =>
          simp at h1 h3
          subst h1 h3
          have := pairsOk_spec hq (m := b) (by simpa using h2) (by simpa using h4) hc
          rwa [show i + (b + 1) = i + 1 + b from by omega]
        | succ a =>
          have := allPairs_spec hp (a := a) (b := b) (by omega) (by simpa using h1) (by simpa using h2) (by simpa using h3) (by simpa using h4) hc
          rwa [show i + (b + 1) = i + 1 + b from by omega, show i + (a + 1) = i + 1 + a from by omega]
    · simp at hp

end Go.Ev

/- THE ENGINE, part 19: any order does what the text's order does. -/
namespace Go.Ev
open Go
variable {P : Program}

theorem foldF_congr {N : Nat} {dst : Nat → Option Nat} {val : Nat → SV} {F0 : Nat → Option SV} {D D' : Nat → Bool} {t : Nat} :
    ∀ n, (∀ j, j < n → dst j = some t → D j = D' j) → foldF N dst val F0 D n t = foldF N dst val F0 D' n t
  | 0, _ => rfl
  | n + 1, h => by
    have ih := foldF_congr (N := N) (val := val) (F0 := F0) n (fun j hj => h j (by omega))
    by_cases hd : dst n = some t
    · have he := h n (by omega) hd
      simp only [foldF, he]
      split
      · simp only [updF, ih]
      · exact ih
    · have aux : ∀ D : Nat → Bool, foldF N dst val F0 D (n + 1) t = foldF N dst val F0 D n t := by
        intro D
        simp only [foldF]
        split
        · simp only [updF]; rw [if_neg (fun h => hd h.1)]
        · rfl
      rw [aux, aux]; exact ih
theorem foldS_congr {ws : Nat → Nat → Bool} {post : Nat → St} {C0 : Nat → Option SO} {D D' : Nat → Bool} {x : Nat} :
    ∀ n, (∀ j, j < n → ws j x = true → D j = D' j) → foldS ws post C0 D n x = foldS ws post C0 D' n x
  | 0, _ => rfl
  | n + 1, h => by
    have ih := foldS_congr (ws := ws) (post := post) (C0 := C0) n (fun j hj => h j (by omega))
    by_cases hd : ws n x = true
    · have he := h n (by omega) hd
      simp only [foldS, he]
      split
      · simp only [ih]
      · exact ih
    · have aux : ∀ D : Nat → Bool, foldS ws post C0 D (n + 1) x = foldS ws post C0 D n x := by
        intro D
        simp only [foldS]
        split
        · simp only [hd]; rfl
        · rfl
      rw [aux, aux]; exact ih

section
variable (ops : Array Oper) (t : Tr)
def dstAt (i : Nat) : Option Nat := match ops[i]? with | some o => o.dst | none => none
def wsAt (i x : Nat) : Bool := hasN x (t.wr i) || (Nat.ble (t.st i).length x && Nat.blt x (t.loc i).length)
def valD (D : Nat → Bool) (n : Nat) : Nat → Option SV := foldF (t.fr 0).length (dstAt ops) t.v (t.fr 0).get D n
def objD (D : Nat → Bool) (n : Nat) : Nat → Option SO := foldS (wsAt t) (fun i => t.st (i + 1)) (t.st 0).get D n
def stD (D : Nat → Bool) (n : Nat) : St := (List.range (t.st n).length).map (objD t D n)
end

theorem stD_length {t : Tr} {D : Nat → Bool} {n : Nat} : (stD t D n).length = (t.st n).length := by simp [stD]
theorem stD_get {t : Tr} {D : Nat → Bool} {n x : Nat} (h : x < (t.st n).length) : (stD t D n).get x = objD t D n x := by
  simp [St.get_eq, stD, List.getElem?_map, List.getElem?_range h]
theorem stD_some {t : Tr} {D : Nat → Bool} {n x : Nat} {so : SO} (h : (stD t D n).get x = some so) : x < (t.st n).length ∧ objD t D n x = some so := by
  have hl := St.get_lt h
  rw [stD_length] at hl
  exact ⟨hl, by rw [← stD_get hl]; exact h⟩
theorem wsAt_iff {t : Tr} {i x : Nat} : wsAt t i x = true ↔ x ∈ t.wr i ∨ ((t.st i).length ≤ x ∧ x < (t.loc i).length) := by
  simp only [wsAt, Bool.or_eq_true, hasN_iff, Bool.and_eq_true, Nat.ble_eq]
  constructor
  · rintro (h | ⟨h1, h2⟩)
    · exact .inl h
    · exact .inr ⟨h1, Nat.le_of_ble_eq_true h2⟩
  · rintro (h | ⟨h1, h2⟩)
    · exact .inl h
    · exact .inr ⟨h1, Nat.ble_eq_true_of_le h2⟩

section
variable {cx : Cx} {call : CallT} {ops : Array Oper} {t : Tr}

/-- What every trace of a whole region has. -/
structure Tr.All (cx : Cx) (call : CallT) (ops : Array Oper) (t : Tr) : Prop where
  ok : ∀ i o, ops[i]? = some o → t.Ok cx call ops i o
  log : logOk ops.toList ((List.range ops.size).map t.log) = true

theorem Tr.All.op (_hA : t.All cx call ops) {i : Nat} (h : i < ops.size) : ∃ o, ops[i]? = some o := ⟨ops[i], by simp [h]⟩
theorem Tr.All.mono (hA : t.All cx call ops) {i j : Nat} (hij : i ≤ j) (hj : j ≤ ops.size) : (t.st i).length ≤ (t.st j).length := by
  induction j with
  | zero => have : i = 0 := by omega
            subst this; exact Nat.le_refl _
  | succ j ih =>
    by_cases e : i = j + 1
    · subst e; exact Nat.le_refl _
    · obtain ⟨o, ho⟩ := hA.op (i := j) (by omega)
      have := (hA.ok j o ho).nst
      rw [this, mergeS_length]
      have := ih (by omega) (by omega)
      omega
theorem Tr.All.next (hA : t.All cx call ops) {i : Nat} (hi : i < ops.size) : (t.st (i + 1)).length = max (t.st i).length (t.loc i).length := by
  obtain ⟨o, ho⟩ := hA.op hi
  rw [(hA.ok i o ho).nst, mergeS_length]
theorem Tr.All.frlen (hA : t.All cx call ops) {i : Nat} (hi : i ≤ ops.size) : (t.fr i).length = (t.fr 0).length := by
  induction i with
  | zero => rfl
  | succ i ih =>
    obtain ⟨o, ho⟩ := hA.op (i := i) (by omega)
    rw [(hA.ok i o ho).nfr]
    cases o.dst with
    | none => exact ih (by omega)
    | some d => rw [Fr.put_some]; simpa using ih (by omega)
theorem Tr.All.frAt (hA : t.All cx call ops) {i : Nat} (hi : i ≤ ops.size) (u : Nat) : (t.fr i).get u = valD ops t (fun _ => true) i u := by
  induction i with
  | zero => rfl
  | succ i ih =>
    obtain ⟨o, ho⟩ := hA.op (i := i) (by omega)
    have hl := hA.frlen (i := i) (by omega)
    have ih := ih (by omega)
    rw [(hA.ok i o ho).nfr]
    simp only [valD, foldF, if_true, updF] at ih ⊢
    have hd : dstAt ops i = o.dst := by simp [dstAt, ho]
    rw [hd]
    cases o.dst with
    | none => simpa [Fr.put] using ih
    | some d =>
      rw [Fr.put_some, Fr.get_eq, List.getElem?_set]
      by_cases e : d = u
      · subst e
        by_cases hlt : d < (t.fr 0).length
        · simp [hl, hlt]
        · simp only [hl, hlt, if_true, if_false, and_false]
          rw [← ih, Fr.get_eq, List.getElem?_eq_none (Nat.le_of_not_lt (by rw [hl]; exact hlt))]
      · simp only [e, if_false, Option.some.injEq, false_and]
        rw [← ih, Fr.get_eq]
theorem Tr.All.stAt (hA : t.All cx call ops) {i : Nat} (hi : i ≤ ops.size) (x : Nat) : (t.st i).get x = objD t (fun _ => true) i x := by
  induction i with
  | zero => rfl
  | succ i ih =>
    obtain ⟨o, ho⟩ := hA.op (i := i) (by omega)
    have ih := ih (by omega)
    simp only [objD, foldS, if_true] at ih ⊢
    split
    · rfl
    · rename_i hw
      rw [wsAt_iff] at hw
      rw [← ih, (hA.ok i o ho).nst, St.get_eq, St.get_eq, mergeS_get]
      by_cases hlt : x < (t.st i).length
      · rw [if_pos hlt, if_neg (by simpa using fun h => hw (.inl h))]; rfl
      · rw [if_neg hlt, List.getElem?_eq_none (by omega : (t.st i).length ≤ x),
          List.getElem?_eq_none (Nat.not_lt.1 fun h => hw (.inr ⟨by omega, h⟩) : (t.loc i).length ≤ x)]
/-- What an operation leaves where it writes. -/
theorem Tr.All.postAt (hA : t.All cx call ops) {i : Nat} (hi : i < ops.size) {x : Nat} (hw : wsAt t i x = true) : (t.st (i + 1)).get x = (t.loc i).get x := by
  obtain ⟨o, ho⟩ := hA.op hi
  rw [(hA.ok i o ho).nst, St.get_eq, St.get_eq, mergeS_get]
  rw [wsAt_iff] at hw
  split
  · rename_i hlt
    rcases hw with hw | hw
    · simp [hw]
    · omega
  · rfl

/-! #### what may not be exchanged is ordered -/
def Clash (ops : Array Oper) (t : Tr) (i j : Nat) : Prop := ∃ x y, ops[i]? = some x ∧ ops[j]? = some y ∧ (tmpClash ops.toList x y || (t.log i).clash (t.log j)) = true

theorem Tr.All.order (hA : t.All cx call ops) {D : Nat → Bool} (hD : Closed ops.toList D) {i j : Nat} (hij : i < j) (hj : j < ops.size) (hc : Clash ops t i j) (hdj : D j = true) : D i = true := by
  obtain ⟨x, y, hx, hy, hc⟩ := hc
  have hl := hA.log
  simp only [logOk, Bool.and_eq_true] at hl
  have := allPairs_spec hl.2 (a := i) (b := j) (x := x) (y := y) (rx := t.log i) (ry := t.log j) hij (by simpa using hx) (by simpa using hy)
    (by simp [List.getElem?_map, List.getElem?_range (show i < ops.size by omega)]) (by simp [List.getElem?_map, List.getElem?_range hj]) hc
  simp only [Nat.zero_add] at this
  exact ancestors_spec ops.toList ops.toList [] rfl hD (by simp) j i this hdj

theorem Tr.All.wsLog (_hA : t.All cx call ops) {i x : Nat} (hw : wsAt t i x = true) : x ∈ (t.log i).wr := by
  rw [wsAt_iff] at hw
  simp only [Tr.log, List.mem_append, mem_upFrom]
  rcases hw with hw | hw
  · exact .inl hw
  · exact .inr ⟨hw.1, by omega⟩
theorem clash_of {a b : Rec} {x : Nat} (h : (x ∈ a.wr ∧ x ∈ b.rd) ∨ (x ∈ a.wr ∧ x ∈ b.wr) ∨ (x ∈ b.wr ∧ x ∈ a.rd)) : a.clash b = true := by
  simp only [Rec.clash, Bool.or_eq_true, meets_iff]
  rcases h with h | h | h
  · exact .inl (.inl ⟨x, h⟩)
  · exact .inl (.inr ⟨x, h⟩)
  · exact .inr ⟨x, h⟩
theorem tmpClash_of {ops : List Oper} {x y : Oper} {u : Nat} (h : (x.dst = some u ∧ u ∈ looks ops y) ∨ (x.dst = some u ∧ y.dst = some u) ∨ (y.dst = some u ∧ u ∈ looks ops x)) : tmpClash ops x y = true := by
  simp only [tmpClash, Bool.or_eq_true, meets_iff]
  rcases h with ⟨h1, h2⟩ | ⟨h1, h2⟩ | ⟨h1, h2⟩
  · exact .inl (.inl ⟨u, by simp [h1], h2⟩)
  · exact .inl (.inr ⟨u, by simp [h1], by simp [h2]⟩)
  · exact .inr ⟨u, by simp [h1], h2⟩

/-- An operation that may come next: not done, what it waits for done. -/
structure Next (ops : Array Oper) (D : Nat → Bool) (i : Nat) : Prop where
  lt : i < ops.size
  no : D i = false
  edges : ∀ o, ops[i]? = some o → ∀ e ∈ o.after.toList, Region.binds .any e = true → D e.on = true
  closed : Closed ops.toList D
def setD (D : Nat → Bool) (i : Nat) : Nat → Bool := fun j => if j = i then true else D j
theorem Next.closed' {D : Nat → Bool} {i : Nat} (h : Next ops D i) : Closed ops.toList (setD D i) := by
  intro j o ho hj e he hb
  simp only [setD] at hj ⊢
  split
  · rfl
  · split at hj
    · rename_i e'; subst e'
      exact h.edges o (by simpa using ho) e he hb
    · exact h.closed j o ho hj e he hb
theorem Tr.All.before (hA : t.All cx call ops) {D : Nat → Bool} {i j : Nat} (hn : Next ops D i) (hji : j < i) (hc : Clash ops t j i) : D j = true := by
  have := hA.order hn.closed' hji hn.lt hc (by simp [setD])
  simp only [setD] at this
  rwa [if_neg (by omega)] at this
theorem Tr.All.behind (hA : t.All cx call ops) {D : Nat → Bool} {i j : Nat} (hn : Next ops D i) (hij : i < j) (hj : j < ops.size) (hc : Clash ops t i j) : D j = false := by
  cases h : D j with
  | false => rfl
  | true =>
    have := hA.order hn.closed hij hj hc h
    rw [hn.no] at this; simp at this

/-- A temporary that the operation looks at holds what it held in the text's order. -/
theorem Tr.All.look (hA : t.All cx call ops) {D : Nat → Bool} {i : Nat} {o : Oper} (ho : ops[i]? = some o) (hn : Next ops D i) {u : Nat} (hu : u ∈ looks ops.toList o) :
    valD ops t D ops.size u = (t.fr i).get u := by
  rw [hA.frAt (Nat.le_of_lt hn.lt)]
  unfold valD
  rw [foldF_stop (i := i) ops.size (Nat.le_of_lt hn.lt), foldF_all]
  · intro j hji hd
    obtain ⟨oj, hoj⟩ := hA.op (i := j) (by have := hn.lt; omega)
    refine hA.before hn hji ⟨oj, o, hoj, ho, ?_⟩
    rw [tmpClash_of (u := u) (.inl ⟨by simpa [dstAt, hoj] using hd, hu⟩)]; rfl
  · intro j hij hj hd
    by_cases e : i = j
    · subst e; exact hn.no
    · obtain ⟨oj, hoj⟩ := hA.op hj
      refine hA.behind hn (by omega) hj ⟨o, oj, ho, hoj, ?_⟩
      rw [tmpClash_of (u := u) (.inr (.inr ⟨by simpa [dstAt, hoj] using hd, hu⟩))]; rfl
/-- An object that it touches is what it was in the text's order. -/
theorem Tr.All.touch (hA : t.All cx call ops) {D : Nat → Bool} {i x : Nat} (hn : Next ops D i) (hx : x ∈ t.rd i ∨ x ∈ t.wr i) (hlt : x < (t.st i).length) :
    objD t D ops.size x = (t.st i).get x := by
  have hx' : x ∈ (t.log i).rd ∨ x ∈ (t.log i).wr := by
    rcases hx with h | h
    · exact .inl h
    · exact .inr (List.mem_append_left _ h)
  obtain ⟨o, ho⟩ := hA.op hn.lt
  rw [hA.stAt (Nat.le_of_lt hn.lt)]
  unfold objD
  rw [foldS_stop (i := i) ops.size (Nat.le_of_lt hn.lt), foldS_all]
  · intro j hji hw
    obtain ⟨oj, hoj⟩ := hA.op (i := j) (by have := hn.lt; omega)
    refine hA.before hn hji ⟨oj, o, hoj, ho, ?_⟩
    have := hA.wsLog hw
    rw [clash_of (x := x) (by rcases hx' with h | h; exact .inl ⟨this, h⟩; exact .inr (.inl ⟨this, h⟩))]; simp
  · intro j hij hj hw
    by_cases e : i = j
    · subst e; exact hn.no
    · obtain ⟨oj, hoj⟩ := hA.op hj
      refine hA.behind hn (by omega) hj ⟨o, oj, ho, hoj, ?_⟩
      have := hA.wsLog hw
      rw [clash_of (x := x) (by rcases hx' with h | h; exact .inr (.inr ⟨this, h⟩); exact .inr (.inl ⟨h, this⟩))]; simp
theorem Tr.All.valNew (hA : t.All cx call ops) {D : Nat → Bool} {i : Nat} {o : Oper} (ho : ops[i]? = some o) (hn : Next ops D i) {u : Nat} (hd : o.dst = some u) (hu : u < (t.fr 0).length) :
    valD ops t (setD D i) ops.size u = some (t.v i) := by
  unfold valD
  rw [foldF_stop (i := i + 1) ops.size hn.lt]
  · simp only [foldF, setD, if_true, updF]
    rw [if_pos ⟨by simpa [dstAt, ho] using hd, hu⟩]
  · intro j hij hj hdj
    obtain ⟨oj, hoj⟩ := hA.op hj
    simp only [setD]
    rw [if_neg (by omega)]
    refine hA.behind hn (by omega) hj ⟨o, oj, ho, hoj, ?_⟩
    rw [tmpClash_of (u := u) (.inr (.inl ⟨hd, by simpa [dstAt, hoj] using hdj⟩))]; rfl
theorem Tr.All.valOld (_hA : t.All cx call ops) {D : Nat → Bool} {i : Nat} {o : Oper} (ho : ops[i]? = some o) {u : Nat} (hd : ¬ o.dst = some u) :
    valD ops t (setD D i) ops.size u = valD ops t D ops.size u := by
  unfold valD
  refine foldF_congr _ fun j _ hdj => ?_
  simp only [setD]
  rw [if_neg]
  rintro rfl
  exact hd (by simpa [dstAt, ho] using hdj)
theorem Tr.All.objNew (hA : t.All cx call ops) {D : Nat → Bool} {i x : Nat} (hn : Next ops D i) (hw : wsAt t i x = true) :
    objD t (setD D i) ops.size x = (t.loc i).get x := by
  rw [← hA.postAt hn.lt hw]
  unfold objD
  obtain ⟨o, ho⟩ := hA.op hn.lt
  rw [foldS_stop (i := i + 1) ops.size hn.lt]
  · simp only [foldS, setD, if_true, hw]
  · intro j hij hj hwj
    obtain ⟨oj, hoj⟩ := hA.op hj
    simp only [setD]
    rw [if_neg (by omega)]
    refine hA.behind hn (by omega) hj ⟨o, oj, ho, hoj, ?_⟩
    rw [clash_of (x := x) (.inr (.inl ⟨hA.wsLog hw, hA.wsLog hwj⟩))]; simp
theorem Tr.All.objOld (_hA : t.All cx call ops) {D : Nat → Bool} {i x : Nat} (hw : ¬ wsAt t i x = true) :
    objD t (setD D i) ops.size x = objD t D ops.size x := by
  unfold objD
  refine foldS_congr _ fun j _ hwj => ?_
  simp only [setD]
  rw [if_neg]
  rintro rfl
  exact hw hwj
end

end Go.Ev

/- THE ENGINE, part 20: a region that draws its order, sound. -/
namespace Go.Ev
open Go
variable {P : Program}
section
variable {cx : Cx} {call : CallT} {ops : Array Oper} {t : Tr}

structure Inv (ops : Array Oper) (t : Tr) (α0 : Al) (w0 : World) (ds : List Deferred) (D : Nat → Bool) (α : Al) (a : Act) (w : World) : Prop where
  tmps : ∀ u sv, valD ops t D ops.size u = some sv → ∃ v, a.tmps[u]? = some v ∧ SV.rep α sv v
  size : a.tmps.size = (t.fr 0).length
  defs : a.defers = ds
  to : To α0 (t.st 0) w0 α (stD t D ops.size) w
  new : ∀ j, j < ops.size → D j = false → ∀ x, (t.st j).length ≤ x → x < (t.st (j + 1)).length → α x = none
  closed : Closed ops.toList D

theorem asRo_wr {so : SO} : so.asRo.wr = false := by cases so <;> rfl
theorem asRo_heapy {so : SO} : so.asRo.heapy = so.heapy := by cases so <;> rfl
theorem asRo_good {α : Al} {w : World} {d : Den} {so : SO} (h : Good α w d so) : Good α w d so.asRo := by cases so <;> exact h

/-- What a restricted state holds. -/
theorem restrict_some {rd wr : List Nat} {st : St} {x : Nat} {so : SO} (h : (restrict rd wr 0 st).get x = some so) :
    x < st.length ∧ ((x ∈ wr ∧ st.get x = some so) ∨ (x ∉ wr ∧ x ∈ rd ∧ ∃ s, st.get x = some s ∧ so = s.asRo)) := by
  have hlt := St.get_lt h
  rw [restrict_length] at hlt
  refine ⟨hlt, ?_⟩
  rw [St.get_eq, restrict_get rd wr 0 st x hlt] at h
  simp only [Nat.zero_add, Option.getD_some] at h
  split at h
  · rename_i hw; exact .inl ⟨hw, by rw [St.get_eq]; exact h⟩
  · rename_i hw
    split at h
    · rename_i hr
      rw [Option.map_eq_some_iff] at h
      obtain ⟨s, h1, h2⟩ := h
      exact .inr ⟨hw, hr, s, by rw [St.get_eq]; exact h1, h2.symm⟩
    · simp at h

/-- The world, seen through what the operation touches. -/
theorem Inv.restrict (hA : t.All cx call ops) {α0 α : Al} {w0 w : World} {ds : List Deferred} {D : Nat → Bool} {a : Act} (hI : Inv ops t α0 w0 ds D α a w)
    {i : Nat} (hn : Next ops D i) (hb : belowS (t.st i).length (Ev.restrict (t.rd i) (t.wr i) 0 (t.st i)) = true) :
    R (α.upto (t.st i).length) (Ev.restrict (t.rd i) (t.wr i) 0 (t.st i)) w := by
  have hle := hA.mono (i := i) (Nat.le_of_lt hn.lt) (Nat.le_refl _)
  have key : ∀ x so, (Ev.restrict (t.rd i) (t.wr i) 0 (t.st i)).get x = some so → x < (t.st i).length ∧ ∃ s, (stD t D ops.size).get x = some s ∧ ((so = s ∧ x ∈ t.wr i) ∨ so = s.asRo) := by
    intro x so h
    obtain ⟨h1, h2⟩ := restrict_some h
    refine ⟨h1, ?_⟩
    have hg : ∀ s, (t.st i).get x = some s → (x ∈ t.rd i ∨ x ∈ t.wr i) → (stD t D ops.size).get x = some s := by
      intro s hs hx
      rw [stD_get (by omega), hA.touch hn hx h1]; exact hs
    rcases h2 with ⟨h3, h4⟩ | ⟨_, h3, s, h4, h5⟩
    · exact ⟨so, hg so h4 (.inr h3), .inl ⟨rfl, h3⟩⟩
    · exact ⟨s, hg s h4 (.inl h3), .inr h5⟩
  refine ⟨fun x so h => ?_, fun x x' so so' d d' hne h h' e e' hh hh' hw => ?_, fun x hx => ?_, fun x d h => ?_⟩
  · obtain ⟨h1, s, h2, h3⟩ := key x so h
    obtain ⟨d, h4, h5⟩ := hI.to.rep.good x s h2
    refine ⟨d, by rw [Al.upto_lt h1]; exact h4, ?_⟩
    have hg : Good α w d so := by
      rcases h3 with ⟨rfl, _⟩ | rfl
      · exact h5
      · exact asRo_good h5
    refine hg.at fun o ho => Al.upto_lt ?_
    rw [St.get_eq] at h
    cases hx : (Ev.restrict (t.rd i) (t.wr i) 0 (t.st i))[x]? with
    | none => rw [hx] at h; simp at h
    | some y =>
      rw [hx] at h
      simp only [Option.getD_some] at h
      subst h
      exact belowS_get hb hx o ho
  · obtain ⟨h1, s, h2, h3⟩ := key x so h
    obtain ⟨h1', s', h2', h3'⟩ := key x' so' h'
    rw [Al.upto_lt h1] at e
    rw [Al.upto_lt h1'] at e'
    rcases h3 with ⟨rfl, _⟩ | rfl
    · refine hI.to.rep.sep x x' so s' d d' hne h2 h2' e e' hh ?_ hw
      rcases h3' with ⟨rfl, _⟩ | rfl
      · exact hh'
      · rwa [asRo_heapy] at hh'
    · rw [asRo_wr] at hw; simp at hw
  · rw [restrict_length] at hx
    simp [Al.upto, Nat.not_lt.2 hx]
  · exact hI.to.rep.cell x d (Al.upto_le _ _ _ _ h)

def joinA (α β : Al) (lo : Nat) : Al := fun x => if x < lo then α x else match β x with | some d => some d | none => α x

theorem Inv.ran (hA : t.All cx call ops) {α0 α : Al} {w0 w : World} {ds : List Deferred} {D : Nat → Bool} {a : Act} (hI : Inv ops t α0 w0 ds D α a w)
    {i : Nat} {o : Oper} (ho : ops[i]? = some o) (hn : Next ops D i) {β : Al} {w' : World} {v : Value}
    (hto : To (α.upto (t.st i).length) (Ev.restrict (t.rd i) (t.wr i) 0 (t.st i)) w β (t.loc i) w') (hv : SV.rep β (t.v i) v) :
    ∃ α', Inv ops t α0 w0 ds (setD D i) α' (a.put o.dst v) w' := by
  have hlo := hA.mono (i := i) (Nat.le_of_lt hn.lt) (Nat.le_refl _)
  have hhi := hA.mono (i := i + 1) hn.lt (Nat.le_refl _)
  have hlen : (t.st i).length ≤ (t.loc i).length := by have := hto.len; rwa [restrict_length] at this
  have hnext : (t.st (i + 1)).length = (t.loc i).length := by rw [hA.next hn.lt]; omega
  have h0 := hA.mono (i := 0) (j := i) (Nat.zero_le _) (Nat.le_of_lt hn.lt)
  -- the new ones
  have hβlo : ∀ x, x < (t.st i).length → β x = α x := fun x hx => by
    rw [hto.ext x (by rw [restrict_length]; exact hx), Al.upto_lt hx]
  have hβhi : ∀ x, (t.loc i).length ≤ x → β x = none := hto.rep.none
  have hαmid : ∀ x, (t.st i).length ≤ x → x < (t.loc i).length → α x = none := fun x h1 h2 => hI.new i hn.lt hn.no x h1 (by omega)
  let γ : Al := fun x => if x < (t.st i).length then α x else if x < (t.loc i).length then β x else α x
  have γlo : ∀ x, x < (t.st i).length → γ x = α x := fun x h => by simp only [γ, if_pos h]
  have γmid : ∀ x, (t.st i).length ≤ x → x < (t.loc i).length → γ x = β x := fun x h1 h2 => by simp only [γ, if_neg (Nat.not_lt.2 h1), if_pos h2]
  have γhi : ∀ x, (t.loc i).length ≤ x → γ x = α x := fun x h => by
    have h' := Nat.le_trans hlen h
    simp only [γ, if_neg (Nat.not_lt.2 h'), if_neg (Nat.not_lt.2 h)]
  have hαγ : α.le γ := by
    intro x d hx
    by_cases h1 : x < (t.st i).length
    · rw [γlo x h1]; exact hx
    · by_cases h2 : x < (t.loc i).length
      · rw [hαmid x (by omega) h2] at hx; simp at hx
      · rw [γhi x (by omega)]; exact hx
  have hβγ : β.le γ := by
    intro x d hx
    by_cases h1 : x < (t.st i).length
    · rw [γlo x h1, ← hβlo x h1]; exact hx
    · by_cases h2 : x < (t.loc i).length
      · rw [γmid x (by omega) h2]; exact hx
      · rw [hβhi x (by omega)] at hx; simp at hx
  -- what is written
  have wrIn : ∀ b, Wr (α.upto (t.st i).length) (Ev.restrict (t.rd i) (t.wr i) 0 (t.st i)) b →
      ∃ x so d, x ∈ t.wr i ∧ x < (t.st i).length ∧ (stD t D ops.size).get x = some so ∧ α x = some d ∧ so.wr = true ∧ d.blk = b := by
    rintro b ⟨x, so, d, h1, h2, h3, h4⟩
    obtain ⟨h5, h6⟩ := restrict_some h1
    rw [Al.upto_lt h5] at h2
    rcases h6 with ⟨h6, h7⟩ | ⟨_, _, s, _, rfl⟩
    · exact ⟨x, so, d, h6, h5, by rw [stD_get (by omega), hA.touch hn (.inr h6) h5]; exact h7, h2, h3, h4⟩
    · rw [asRo_wr] at h3; simp at h3
  have wrIn' : ∀ b, Wr (α.upto (t.st i).length) (Ev.restrict (t.rd i) (t.wr i) 0 (t.st i)) b → Wr α (stD t D ops.size) b := fun b h =>
    let ⟨x, so, d, _, _, h1, h2, h3, h4⟩ := wrIn b h; ⟨x, so, d, h1, h2, h3, h4⟩
  -- the cases of an object
  have cases2 : ∀ x so, (stD t (setD D i) ops.size).get x = some so →
      (wsAt t i x = true ∧ (t.loc i).get x = some so) ∨ (wsAt t i x ≠ true ∧ (stD t D ops.size).get x = some so) := by
    intro x so h
    obtain ⟨h1, h2⟩ := stD_some h
    by_cases hw : wsAt t i x = true
    · rw [hA.objNew hn hw] at h2; exact .inl ⟨hw, h2⟩
    · rw [hA.objOld hw] at h2; exact .inr ⟨hw, by rw [stD_get h1]; exact h2⟩
  have newOld : ∀ x so, wsAt t i x = true → (t.loc i).get x = some so → x < (t.st i).length →
      ∃ s, (stD t D ops.size).get x = some s ∧ (Ev.restrict (t.rd i) (t.wr i) 0 (t.st i)).get x = some s ∧ s.heapy = so.heapy ∧ s.wr = so.wr := by
    intro x so hw h hlt
    obtain ⟨s, h1, h2, h3⟩ := hto.old x so (by rw [restrict_length]; exact hlt) h
    rw [wsAt_iff] at hw
    have hx : x ∈ t.wr i := by rcases hw with h | h; exact h; omega
    obtain ⟨_, h6⟩ := restrict_some h1
    rcases h6 with ⟨h6, h7⟩ | ⟨h6, _⟩
    · exact ⟨s, by rw [stD_get (by omega), hA.touch hn (.inr h6) hlt]; exact h7, h1, h2, h3⟩
    · exact absurd hx h6
  -- a block that the operation may write is not the block of an object that it leaves
  have apart : ∀ x so d x' so' d', wsAt t i x = true → (t.loc i).get x = some so → β x = some d → so.wr = true →
      wsAt t i x' ≠ true → (stD t D ops.size).get x' = some so' → α x' = some d' → so'.heapy = true → d.blk ≠ d'.blk := by
    intro x so d x' so' d' h1 h2 h3 h4 h5 h6 h7 h8
    obtain ⟨d2, e1, e2⟩ := hI.to.rep.good x' so' h6
    rw [h7] at e1; cases e1
    have hlt := e2.lt h8
    by_cases hb : d.blk < w.heap.size
    · obtain ⟨y, s, e, y1, y2, y3, y4, y5, y6⟩ := wrIn _ (hto.wrs d.blk hb ⟨x, so, d, h2, h3, h4, rfl⟩)
      rw [← y6]
      refine hI.to.rep.sep y x' s so' e d' ?_ y3 h6 y4 h7 (SO.wr_heapy y5) h8 y5
      rintro rfl
      exact h5 (wsAt_iff.2 (.inl y1))
    · omega
  have getβ : ∀ x so, wsAt t i x = true → (t.loc i).get x = some so → ∀ d, γ x = some d → β x = some d := by
    intro x so hw h d hd
    obtain ⟨d2, e1, _⟩ := hto.rep.good x so h
    rw [hβγ _ _ e1] at hd; cases hd; exact e1
  have getα : ∀ x so, (stD t D ops.size).get x = some so → ∀ d, γ x = some d → α x = some d := by
    intro x so h d hd
    obtain ⟨d2, e1, _⟩ := hI.to.rep.good x so h
    rw [hαγ _ _ e1] at hd; cases hd; exact e1
  refine ⟨γ, ?_, ?_, ?_, ⟨⟨?_, ?_, ?_, ?_⟩, ?_, ?_, ?_, ?_, ?_, ?_, ?_, hto.tape.trans hI.to.tape, hto.os.trans hI.to.os, hto.output.trans hI.to.output⟩, ?_, hn.closed'⟩
  · -- temporaries
    intro u sv hu
    by_cases hd : o.dst = some u
    · by_cases hlt : u < (t.fr 0).length
      · rw [hA.valNew ho hn hd hlt] at hu
        cases hu
        refine ⟨v, ?_, SV.rep_mono hβγ hv⟩
        rw [hd]
        simp only [Act.put, Array.getElem?_setIfInBounds, if_true]
        rw [if_pos (by rw [hI.size]; exact hlt)]
      · exfalso
        have : valD ops t (setD D i) ops.size u = none := by
          have : ∀ n, foldF (t.fr 0).length (dstAt ops) t.v (t.fr 0).get (setD D i) n u = none := by
            intro n
            induction n with
            | zero => simp only [foldF]; rw [Fr.get_eq, List.getElem?_eq_none (Nat.le_of_not_lt hlt)]; rfl
            | succ n ih =>
              simp only [foldF]
              split
              · simp only [updF]; rw [if_neg (fun h => hlt h.2)]; exact ih
              · exact ih
          exact this _
        rw [this] at hu; simp at hu
    · rw [hA.valOld ho hd] at hu
      obtain ⟨v', h1, h2⟩ := hI.tmps u sv hu
      refine ⟨v', ?_, SV.rep_mono hαγ h2⟩
      cases hdd : o.dst with
      | none => exact h1
      | some d =>
        simp only [Act.put, Array.getElem?_setIfInBounds]
        rw [if_neg (by rintro rfl; exact hd hdd)]; exact h1
  · cases o.dst with
    | none => exact hI.size
    | some d => simpa [Act.put] using hI.size
  · rw [put_defers_eq]; exact hI.defs
  · -- good
    intro x so h
    rcases cases2 x so h with ⟨hw, h⟩ | ⟨hw, h⟩
    · obtain ⟨d, h1, h2⟩ := hto.rep.good x so h
      exact ⟨d, hβγ _ _ h1, h2.congr hβγ (fun _ => rfl) (Nat.le_refl _)⟩
    · obtain ⟨d, h1, h2⟩ := hI.to.rep.good x so h
      refine ⟨d, hαγ _ _ h1, h2.congr hαγ (fun hh => ?_) hto.size⟩
      refine hto.kept d.blk (h2.lt hh) fun hwr => ?_
      obtain ⟨y, s, e, y1, y2, y3, y4, y5, y6⟩ := wrIn _ hwr
      refine hI.to.rep.sep y x s so e d ?_ y3 h y4 h1 (SO.wr_heapy y5) hh y5 y6
      rintro rfl
      exact hw (wsAt_iff.2 (.inl y1))
  · -- sep
    intro x x' so so' d d' hne h h' e e' hh hh' hwr
    rcases cases2 x so h with ⟨hw, h⟩ | ⟨hw, h⟩ <;> rcases cases2 x' so' h' with ⟨hw', h'⟩ | ⟨hw', h'⟩
    · exact hto.rep.sep x x' so so' d d' hne h h' (getβ x so hw h d e) (getβ x' so' hw' h' d' e') hh hh' hwr
    · exact apart x so d x' so' d' hw h (getβ x so hw h d e) hwr hw' h' (getα x' so' h' d' e') hh'
    · by_cases hlt : x' < (t.st i).length
      · obtain ⟨s, s1, _, s2, s3⟩ := newOld x' so' hw' h' hlt
        exact hI.to.rep.sep x x' so s d d' hne h s1 (getα x so h d e) (by rw [← γlo x' hlt]; exact e') hh (by rw [s2]; exact hh') hwr
      · have hw2 := hto.fresh x' so' (by rw [restrict_length]; omega) h' hh'
        exact fun eq => apart x' so' d' x so d hw' h' (getβ x' so' hw' h' d' e') hw2 hw h (getα x so h d e) hh eq.symm
    · exact hI.to.rep.sep x x' so so' d d' hne h h' (getα x so h d e) (getα x' so' h' d' e') hh hh' hwr
  · intro x hx
    rw [stD_length] at hx
    rw [γhi x (by omega)]
    exact hI.to.rep.none x (by rw [stD_length]; exact hx)
  · intro x d hx
    by_cases h1 : x < (t.st i).length
    · rw [γlo x h1] at hx; exact hI.to.rep.cell x d hx
    · by_cases h2 : x < (t.loc i).length
      · rw [γmid x (by omega) h2] at hx; exact hto.rep.cell x d hx
      · rw [γhi x (by omega)] at hx; exact hI.to.rep.cell x d hx
  · intro x hx
    rw [γlo x (by omega)]; exact hI.to.ext x hx
  · rw [stD_length]; have := hI.to.len; rwa [stD_length] at this
  · -- old
    intro x so hx h
    rcases cases2 x so h with ⟨hw, h⟩ | ⟨hw, h⟩
    · obtain ⟨s, s1, _, s2, s3⟩ := newOld x so hw h (by omega)
      obtain ⟨s', a1, a2, a3⟩ := hI.to.old x s hx s1
      exact ⟨s', a1, a2.trans s2, a3.trans s3⟩
    · exact hI.to.old x so hx h
  · -- fresh
    intro x so hx h hh
    rcases cases2 x so h with ⟨hw, h⟩ | ⟨hw, h⟩
    · by_cases hlt : x < (t.st i).length
      · obtain ⟨s, s1, _, s2, s3⟩ := newOld x so hw h hlt
        rw [← s3]; exact hI.to.fresh x s hx s1 (s2.trans hh)
      · exact hto.fresh x so (by rw [restrict_length]; omega) h hh
    · exact hI.to.fresh x so hx h hh
  · -- wrs
    rintro b hb ⟨x, so, d, h, e, h3, rfl⟩
    rcases cases2 x so h with ⟨hw, h⟩ | ⟨hw, h⟩
    · exact hI.to.wrs _ hb (wrIn' _ (hto.wrs _ (by have := hI.to.size; omega) ⟨x, so, d, h, getβ x so hw h d e, h3, rfl⟩))
    · exact hI.to.wrs _ hb ⟨x, so, d, h, getα x so h d e, h3, rfl⟩
  · intro b hb hnw
    refine (hto.kept b (by have := hI.to.size; omega) fun hw => hnw (hI.to.wrs b hb (wrIn' b hw))).trans (hI.to.kept b hb hnw)
  · exact Nat.le_trans hI.to.size hto.size
  · -- what is not made yet
    intro j hj hdj x h1 h2
    simp only [setD] at hdj
    split at hdj
    · simp at hdj
    · rename_i hne
      have hx : x < (t.st i).length ∨ (t.loc i).length ≤ x := by
        rcases Nat.lt_or_ge j i with hlt | hge
        · left; have := hA.mono (i := j + 1) (j := i) hlt (Nat.le_of_lt hn.lt); omega
        · right; have := hA.mono (i := i + 1) (j := j) (by omega) (Nat.le_of_lt hj); omega
      rcases hx with hx | hx
      · rw [γlo x hx]; exact hI.new j hj hdj x h1 h2
      · rw [γhi x hx]; exact hI.new j hj hdj x h1 h2
end

end Go.Ev

/- THE ENGINE, part 21: a region that draws its order, sound. -/
namespace Go.Ev
open Go
variable {P : Program}
section
variable {cx : Cx} {call : CallT} {ops : Array Oper} {t : Tr}

theorem setD_stay {D : Nat → Bool} {i : Nat} {o : Oper} (hA : t.All cx call ops) (ho : ops[i]? = some o) (hr : t.ran i = false) (hn : Next ops D i) :
    stD t (setD D i) ops.size = stD t D ops.size := by
  obtain ⟨_, _, h2, _, h3⟩ := (hA.ok i o ho).no hr
  unfold stD
  apply List.map_congr_left
  intro x _
  refine hA.objOld ?_
  rw [wsAt_iff, h2, h3]
  simp only [List.not_mem_nil, false_or]
  omega

theorem Inv.skip (hA : t.All cx call ops) {α0 α : Al} {w0 w : World} {ds : List Deferred} {D : Nat → Bool} {a : Act} (hI : Inv ops t α0 w0 ds D α a w)
    {i : Nat} {o : Oper} (ho : ops[i]? = some o) (hn : Next ops D i) (hr : t.ran i = false) : Inv ops t α0 w0 ds (setD D i) α (a.put o.dst undef) w := by
  obtain ⟨_, _, _, h1, _⟩ := (hA.ok i o ho).no hr
  refine ⟨?_, ?_, ?_, ?_, ?_, hn.closed'⟩
  · intro u sv hu
    by_cases hd : o.dst = some u
    · by_cases hlt : u < (t.fr 0).length
      · rw [hA.valNew ho hn hd hlt, h1] at hu
        cases hu
        refine ⟨undef, ?_, ⟨[], trivial, rfl⟩⟩
        rw [hd]
        simp only [Act.put, Array.getElem?_setIfInBounds, if_true]
        rw [if_pos (by rw [hI.size]; exact hlt)]
      · exfalso
        have : valD ops t (setD D i) ops.size u = none := by
          have : ∀ n, foldF (t.fr 0).length (dstAt ops) t.v (t.fr 0).get (setD D i) n u = none := by
            intro n
            induction n with
            | zero => simp only [foldF]; rw [Fr.get_eq, List.getElem?_eq_none (Nat.le_of_not_lt hlt)]; rfl
            | succ n ih =>
              simp only [foldF]
              split
              · simp only [updF]; rw [if_neg (fun h => hlt h.2)]; exact ih
              · exact ih
          exact this _
        rw [this] at hu; simp at hu
    · rw [hA.valOld ho hd] at hu
      obtain ⟨v', h1, h2⟩ := hI.tmps u sv hu
      refine ⟨v', ?_, h2⟩
      cases hdd : o.dst with
      | none => exact h1
      | some d =>
        simp only [Act.put, Array.getElem?_setIfInBounds]
        rw [if_neg (by rintro rfl; exact hd hdd)]; exact h1
  · cases o.dst with
    | none => exact hI.size
    | some d => simpa [Act.put] using hI.size
  · rw [put_defers_eq]; exact hI.defs
  · rw [setD_stay hA ho hr hn]; exact hI.to
  · intro j hj hdj
    simp only [setD] at hdj
    split at hdj
    · simp at hdj
    · exact hI.new j hj hdj

theorem slots_looks {ops : List Oper} {o : Oper} {d : Nat} (h : d ∈ slots ops o) : d ∈ looks ops o := by
  unfold looks
  exact List.mem_append_right _ h

theorem Inv.step (hP : cx.P = P) (hN : NamesOk P) (hC : CallOk P call) {r : Option Nat} {Q : Exit → Act → World → Prop} (hA : t.All cx call ops) {α0 α : Al} {w0 w : World} {ds : List Deferred} {D : Nat → Bool} {a : Act}
    (hI : Inv ops t α0 w0 ds D α a w) {i : Nat} (hn : Next ops D i) {K : Act → World → Prop} (hK : ∀ α' a' w', Inv ops t α0 w0 ds (setD D i) α' a' w' → K a' w') :
    wpOpIn (Wide r) 0 P ops Q i K a w := by
  obtain ⟨o, ho⟩ := hA.op hn.lt
  have hok := hA.ok i o ho
  unfold wpOpIn
  simp only [ho]
  have hlook : ∀ u ∈ looks ops.toList o, ∀ sv, (t.fr i).get u = some sv → ∃ v, a.tmps[u]? = some v ∧ SV.rep α sv v := by
    intro u hu sv hs
    rw [← hA.look ho hn hu] at hs
    exact hI.tmps u sv hs
  cases hr : t.ran i with
  | false =>
    have hw := (hok.no hr).1 α a.tmps fun d hd sv hs => hlook d (slots_looks hd) sv hs
    rw [if_neg (by rw [hw]; simp)]
    exact ⟨fun _ _ => trivial, hK _ _ _ (hI.skip hA ho hn hr)⟩
  | true =>
    obtain ⟨hw, hb1, hb2, hev⟩ := hok.yes hr
    have hw := hw α a.tmps fun d hd sv hs => hlook d (slots_looks hd) sv hs
    rw [if_pos hw]
    have hR := hI.restrict hA hn hb2
    classical
    let ρ : Operand → Option SV := fun x => if x ∈ o.op.operands then evOperand (t.fr i) x else none
    have hρe : ∀ x ∈ o.op.operands, evOperand (t.fr i) x = ρ x := fun x hx => by simp only [ρ, if_pos hx]
    rw [evOp_congr hρe] at hev
    refine evOp_sound hP hN hC hR ?_ hev fun sv st' α' w' v hk hv hto => ?_
    · intro x sv hx
      simp only [ρ] at hx
      split at hx
      · rename_i hm
        have hrefs : ∀ q ∈ sv.refs, q < (t.st i).length := fun q hq => belowL_iff.1 hb1 q (opRefs_mem (by simpa using hm) hx q hq)
        have : SV.rep α sv (a.eval x) := by
          cases x with
          | tmp u =>
            obtain ⟨v, h1, h2⟩ := hlook u (List.mem_append_left _ (List.mem_filterMap.2 ⟨.tmp u, by simpa using hm, rfl⟩)) sv hx
            simpa [Act.eval, h1] using h2
          | const v => simp [evOperand] at hx; subst hx; exact SV.rep_ofValue v
          | global g => simp [evOperand] at hx
          | func f => simp [evOperand] at hx; subst hx; exact rfl
        exact SV.rep_at (fun q hq => Al.upto_lt (hrefs q hq)) this
      · simp at hx
    · obtain ⟨rfl, rfl⟩ := hk
      obtain ⟨α'', h⟩ := hI.ran hA ho hn hto hv
      exact hK _ _ _ h

/-- How many are not done. -/
def left (D : Nat → Bool) : Nat → Nat
  | 0 => 0
  | n + 1 => left D n + if D n = true then 0 else 1
theorem left_zero {D : Nat → Bool} : ∀ {n : Nat}, left D n = 0 → ∀ j, j < n → D j = true
  | 0, _, j, hj => by omega
  | n + 1, h, j, hj => by
    simp only [left] at h
    by_cases e : j = n
    · subst e
      by_cases hd : D j = true
      · exact hd
      · rw [if_neg hd] at h; omega
    · exact left_zero (n := n) (by omega) j (by omega)
theorem setD_ne {D : Nat → Bool} {i j : Nat} (h : j ≠ i) : setD D i j = D j := by simp [setD, h]
theorem setD_eq {D : Nat → Bool} {i : Nat} : setD D i i = true := by simp [setD]
theorem left_set {D : Nat → Bool} {i : Nat} (hd : D i = false) : ∀ {n : Nat}, (n ≤ i → left (setD D i) n = left D n) ∧ (i < n → left (setD D i) n + 1 = left D n)
  | 0 => ⟨fun _ => rfl, fun h => by omega⟩
  | n + 1 => by
    have ih := left_set hd (n := n)
    simp only [left]
    constructor
    · intro h
      rw [ih.1 (by omega), setD_ne (by omega)]
    · intro h
      by_cases e : n = i
      · subst e
        rw [ih.1 (Nat.le_refl _), setD_eq, hd]
        simp
      · have := ih.2 (by omega)
        rw [setD_ne e]; omega

theorem ready_iff {listed : Array Bool} (hl : listed.size = ops.size) {i : Nat} : i ∈ Region.ready .any ops listed ↔
    i < ops.size ∧ listed.getD i false = false ∧ ∀ o, ops[i]? = some o → ∀ e ∈ o.after.toList, Region.binds .any e = true → listed.getD e.on false = true := by
  unfold Region.ready
  simp only [List.mem_filter, List.mem_range, Bool.and_eq_true, Bool.not_eq_true']
  constructor
  · rintro ⟨h1, h2, h3⟩
    have hlt : i < listed.size := by omega
    refine ⟨h1, by simpa [Array.getD, hlt] using h2, fun o ho e he hb => ?_⟩
    simp only [ho, Option.map_some, Option.getD_some, Array.all_eq_true'] at h3
    have := h3 e (by simpa using he)
    simpa [hb] using this
  · rintro ⟨h1, h2, h3⟩
    have hlt : i < listed.size := by omega
    refine ⟨h1, by simpa [Array.getD, hlt] using h2, ?_⟩
    obtain ⟨o, ho⟩ : ∃ o, ops[i]? = some o := ⟨ops[i], by simp [h1]⟩
    simp only [ho, Option.map_some, Option.getD_some, Array.all_eq_true']
    intro e he
    cases hb : Region.binds .any e with
    | false => simp
    | true => simpa using h3 o ho e (by simpa using he) hb

theorem Tr.All.back (hA : t.All cx call ops) {i : Nat} {o : Oper} (ho : ops[i]? = some o) : ∀ e ∈ o.after.toList, Region.binds .any e = true → e.on < i := by
  have hl := hA.log
  simp only [logOk, Bool.and_eq_true] at hl
  intro e he hb
  have := edgesBack_spec hl.1 (a := i) (by simpa using ho) e he hb
  omega

/-- If nothing can come, all is done. -/
theorem done_all (hA : t.All cx call ops) {listed : Array Bool} (hl : listed.size = ops.size) (h : Region.ready .any ops listed = []) : ∀ i, i < ops.size → listed.getD i false = true := by
  intro i
  induction i using Nat.strongRecOn with
  | _ i ih =>
    intro hi
    cases hd : listed.getD i false with
    | true => rfl
    | false =>
      have : i ∈ Region.ready .any ops listed := (ready_iff hl).2 ⟨hi, hd, fun o ho e he hb => by
        have := hA.back ho e he hb
        exact ih e.on this (by omega)⟩
      rw [h] at this; simp at this

theorem valD_all (hA : t.All cx call ops) {D : Nat → Bool} (h : ∀ i, i < ops.size → D i = true) (u : Nat) : valD ops t D ops.size u = (t.fr ops.size).get u := by
  rw [hA.frAt (Nat.le_refl _)]
  exact foldF_congr _ fun j hj _ => h j hj
theorem stD_all (hA : t.All cx call ops) {D : Nat → Bool} (h : ∀ i, i < ops.size → D i = true) : stD t D ops.size = t.st ops.size := by
  apply List.ext_getElem?
  intro x
  by_cases hx : x < (t.st ops.size).length
  · have h1 : (stD t D ops.size).get x = (t.st ops.size).get x := by
      rw [stD_get hx, hA.stAt (Nat.le_refl _)]
      exact foldS_congr _ fun j hj _ => h j hj
    rw [St.get_eq, St.get_eq] at h1
    have l1 : x < (stD t D ops.size).length := by rw [stD_length]; exact hx
    rw [List.getElem?_eq_getElem l1, List.getElem?_eq_getElem hx] at h1 ⊢
    simpa using h1
  · rw [List.getElem?_eq_none (by rw [stD_length]; omega), List.getElem?_eq_none (by omega)]

theorem Inv.any (hP : cx.P = P) (hN : NamesOk P) (hC : CallOk P call) {r : Option Nat} {Q : Exit → Act → World → Prop} (hA : t.All cx call ops) {α0 : Al} {w0 : World} {ds : List Deferred}
    (hQ : ∀ α a w, FrOk α (t.fr ops.size) a.tmps → To α0 (t.st 0) w0 α (t.st ops.size) w → a.defers = ds → Q .normal a w) :
    ∀ (fuel : Nat) (listed : Array Bool) (α : Al) (a : Act) (w : World), listed.size = ops.size → left (fun j => listed.getD j false) ops.size ≤ fuel →
      Inv ops t α0 w0 ds (fun j => listed.getD j false) α a w → wpAnyIn (Wide r) 0 P .any ops Q fuel listed a w := by
  have fin : ∀ (listed : Array Bool) (α : Al) (a : Act) (w : World), (∀ i, i < ops.size → listed.getD i false = true) → Inv ops t α0 w0 ds (fun j => listed.getD j false) α a w → Q .normal a w := by
    intro listed α a w hall hI
    refine hQ α a w ⟨by rw [hI.size, hA.frlen (Nat.le_refl _)], fun u sv hu => hI.tmps u sv ?_⟩ ?_ hI.defs
    · rw [valD_all hA hall]; exact hu
    · rw [← stD_all hA hall]; exact hI.to
  intro fuel
  induction fuel with
  | zero =>
    intro listed α a w hl hf hI
    have hall := left_zero (D := fun j => listed.getD j false) (n := ops.size) (by omega)
    refine ⟨?_, fin listed α a w hall hI⟩
    cases hr : Region.ready .any ops listed with
    | nil => rfl
    | cons x xs =>
      have := (ready_iff hl (i := x)).1 (by rw [hr]; simp)
      have h2 := hall x this.1
      simp only [this.2.1] at h2
      cases h2
  | succ fuel ih =>
    intro listed α a w hl hf hI
    refine ⟨fun h => fin listed α a w (done_all hA hl h) hI, fun i hi => ?_⟩
    obtain ⟨h1, h2, h3⟩ := (ready_iff hl).1 hi
    have hn : Next ops (fun j => listed.getD j false) i := ⟨h1, h2, h3, hI.closed⟩
    have hset : (fun j => (listed.setIfInBounds i true).getD j false) = setD (fun j => listed.getD j false) i := by
      funext j
      simp only [setD, Array.getD_eq_getD_getElem?, Array.getElem?_setIfInBounds]
      by_cases e : i = j
      · subst e; simp [hl, h1]
      · rw [if_neg e, if_neg (fun h => e h.symm)]
    refine hI.step hP hN hC hA hn fun α' a' w' hI' => ih _ α' a' w' (by simpa using hl) ?_ (by rw [hset]; exact hI')
    rw [hset]
    have := (left_set (D := fun j => listed.getD j false) (i := i) h2 (n := ops.size)).2 h1
    omega

theorem evDraw_sound {id : Nat} (hP : cx.P = P) (hN : NamesOk P) (hC : CallOk P call) (hL : CallLin call) (hm : P.follows .mixedOrders = true) {r : Option Nat} {Q : Exit → Act → World → Prop}
    {fr : Fr} {st : St} {k : Fr → St → Prop} {α : Al} {a : Act} {w : World} (hR : R α st w) (hf : FrOk α fr a.tmps) (h : evDraw cx call ops.toList ops.toList fr st [] k)
    (hK : After α st w a.defers k (Q .normal)) : (Code.region id ops true).wpIn (Wide r) 0 P Q a w := by
  obtain ⟨t, t1, t2, t3, t4, t5⟩ := evDraw_trace hL ops.toList fr st [] h
  have hA : t.All cx call ops := ⟨fun i o ho => t3 i o (by simpa using ho), by simpa using t4⟩
  refine wpIn_region_any hm ?_
  have hsz : ops.toList.length = ops.size := by simp
  rw [hsz] at t5
  subst t1 t2
  refine Inv.any hP hN hC hA (α0 := α) (w0 := w) (ds := a.defers) (fun α' a' w' x1 x2 x3 => hK _ _ α' a' w' t5 x1 x2 x3) ops.size _ α a _ (by simp) ?_ ?_
  · have : ∀ (D : Nat → Bool) n, left D n ≤ n := by
      intro D n
      induction n with
      | zero => exact Nat.le_refl _
      | succ n ih => simp only [left]; split <;> omega
    exact this _ _
  · have hD : ∀ j, (Array.replicate ops.size false).getD j false = false := by
      intro j
      simp only [Array.getD_eq_getD_getElem?, Array.getElem?_replicate]
      split <;> rfl
    have hnone : ∀ n u, foldF (t.fr 0).length (dstAt ops) t.v (t.fr 0).get (fun j => (Array.replicate ops.size false).getD j false) n u = (t.fr 0).get u := by
      intro n u
      induction n with
      | zero => rfl
      | succ n ih => rw [foldF, if_neg (by rw [hD]; simp)]; exact ih
    have hnoneS : ∀ n x, objD t (fun j => (Array.replicate ops.size false).getD j false) n x = (t.st 0).get x := by
      intro n x
      unfold objD
      induction n with
      | zero => rfl
      | succ n ih => rw [foldS, if_neg (by rw [hD]; simp)]; exact ih
    have hlen := hA.mono (i := 0) (j := ops.size) (Nat.zero_le _) (Nat.le_refl _)
    have hget : ∀ x so, (stD t (fun j => (Array.replicate ops.size false).getD j false) ops.size).get x = some so → (t.st 0).get x = some so := by
      intro x so hx
      obtain ⟨_, h2⟩ := stD_some hx
      rw [hnoneS] at h2; exact h2
    refine ⟨?_, hf.1.symm, rfl, ⟨⟨?_, ?_, ?_, hR.cell⟩, fun _ _ => rfl, by rw [stD_length]; exact hlen, ?_, ?_, ?_, fun _ _ _ => rfl, Nat.le_refl _, rfl, rfl, rfl⟩, ?_, ?_⟩
    · intro u sv hu
      unfold valD at hu
      rw [hnone] at hu
      exact hf.2 u sv hu
    · intro x so hx
      obtain ⟨d, h1, h2⟩ := hR.good x so (hget x so hx)
      exact ⟨d, h1, h2.congr (Al.le.refl _) (fun _ => rfl) (Nat.le_refl _)⟩
    · intro x x' so so' d d' hne h h'
      exact hR.sep x x' so so' d d' hne (hget x so h) (hget x' so' h')
    · intro x hx
      rw [stD_length] at hx
      exact hR.none x (by omega)
    · intro x so _ hx; exact ⟨so, hget x so hx, rfl, rfl⟩
    · intro x so hx h hh
      have := St.get_lt (hget x so h)
      omega
    · rintro b hb ⟨x, so, d, h1, h2, h3, h4⟩
      exact ⟨x, so, d, hget x so h1, h2, h3, h4⟩
    · intro j hj _ x h1 h2
      have := hA.mono (i := 0) (j := j) (Nat.zero_le _) (Nat.le_of_lt hj)
      exact hR.none x (by omega)
    · intro j o ho hj
      exact absurd ((hD j).symm.trans hj) (by simp)
end

end Go.Ev

/- THE ENGINE, part 22: what is collected behind a call. -/
namespace Go.Ev
open Go
variable {P : Program}

theorem ren_idx {o : Nat} : ∀ {l : List Nat} {i j : Nat}, ren.idx o l i = some j → ∃ d, j = i + d ∧ l[d]? = some o
  | [], i, j, h => by simp [ren.idx] at h
  | x :: r, i, j, h => by
    simp only [ren.idx] at h
    split at h
    · rename_i hx; cases h; exact ⟨0, by omega, by simp [Nat.eq_of_beq_eq_true hx]⟩
    · obtain ⟨d, h1, h2⟩ := ren_idx h; exact ⟨d + 1, by omega, by simpa using h2⟩

def Al.ren (α : Al) (n0 : Nat) (live : List Nat) : Al := fun o => if o < n0 then α o else match live[o - n0]? with | some q => α q | none => none

section
variable {α : Al} {n0 : Nat} {live : List Nat}

theorem ren_al {o o' : Nat} (h : ren n0 live o = some o') : α.ren n0 live o' = α o := by
  unfold Ev.ren at h
  split at h
  · rename_i hb
    cases h
    have : o < n0 := Nat.le_of_ble_eq_true hb
    simp [Al.ren, this]
  · simp only [Option.map_eq_some_iff] at h
    obtain ⟨i, h, rfl⟩ := h
    obtain ⟨d, h1, h2⟩ := ren_idx h
    have : i = d := by omega
    subst this
    simp only [Al.ren]
    rw [if_neg (by omega), Nat.add_sub_cancel_left, h2]

end

section
variable {α β : Al} {f : Nat → Option Nat}

theorem SC.ren_val (hf : ∀ o o', f o = some o' → β o' = α o) {c c' : SC} (h : c.ren f = some c') : c'.val? (β) = c.val? α := by
  cases c <;> simp only [SC.ren, Option.map_eq_some_iff, Option.some.injEq] at h
  · subst h; rfl
  all_goals
    obtain ⟨o', h, rfl⟩ := h
    simp only [SC.val?, hf _ _ h]

theorem mapO_get {β γ : Type} {f : β → Option γ} : ∀ {l : List β} {l' : List γ}, mapO f l = some l' → l'.length = l.length ∧ ∀ (i : Nat) (y : γ), l'[i]? = some y → ∃ x, l[i]? = some x ∧ f x = some y
  | [], l', h => by simp [mapO] at h; subst h; simp
  | x :: r, l', h => by
    simp only [mapO] at h
    split at h
    · rename_i y r' h1 h2
      cases h
      obtain ⟨h3, h4⟩ := mapO_get h2
      refine ⟨by simp [h3], fun i z hz => ?_⟩
      cases i with
      | zero => simp at hz; subst hz; exact ⟨x, rfl, h1⟩
      | succ i => simpa using h4 i z (by simpa using hz)
    · simp at h
theorem mapO_cons {β γ : Type} {f : β → Option γ} {x : β} {l : List β} {l' : List γ} (h : mapO f (x :: l) = some l') : ∃ y r, l' = y :: r ∧ f x = some y ∧ mapO f l = some r := by
  simp only [mapO] at h
  split at h
  · rename_i y r h1 h2; cases h; exact ⟨y, r, rfl, h1, h2⟩
  · simp at h

theorem Reps.ren (hf : ∀ o o', f o = some o' → β o' = α o) : ∀ {l l' : List SC} {vs : List Value}, mapO (SC.ren f) l = some l' → Reps α l vs → Reps (β) l' vs
  | [], l', vs, h, r => by simp [mapO] at h; subst h; cases vs with | nil => trivial | cons _ _ => exact r.elim
  | c :: l, l', vs, h, r => by
    obtain ⟨y, r', rfl, h1, h2⟩ := mapO_cons h
    cases vs with
    | nil => exact r.elim
    | cons v vs => exact ⟨(SC.ren_val hf h1).trans r.1, Reps.ren hf h2 r.2⟩
theorem SA.ren_rep (hf : ∀ o o', f o = some o' → β o' = α o) {a a' : SA} {v : Value} (h : a.ren f = some a') (r : a.rep α v) : a'.rep (β) v := by
  cases a with
  | one c => simp only [SA.ren, Option.map_eq_some_iff] at h; obtain ⟨c', h, rfl⟩ := h; exact (SC.ren_val hf h).trans r
  | agg l => simp only [SA.ren, Option.map_eq_some_iff] at h; obtain ⟨c', h, rfl⟩ := h; obtain ⟨vs, r, e⟩ := r; exact ⟨vs, r.ren hf h, e⟩
theorem RepsA.ren (hf : ∀ o o', f o = some o' → β o' = α o) : ∀ {l l' : List SA} {vs : List Value}, mapO (SA.ren f) l = some l' → RepsA α l vs → RepsA (β) l' vs
  | [], l', vs, h, r => by simp [mapO] at h; subst h; cases vs with | nil => trivial | cons _ _ => exact r.elim
  | c :: l, l', vs, h, r => by
    obtain ⟨y, r', rfl, h1, h2⟩ := mapO_cons h
    cases vs with
    | nil => exact r.elim
    | cons v vs => exact ⟨SA.ren_rep hf h1 r.1, RepsA.ren hf h2 r.2⟩
theorem SV.ren_rep (hf : ∀ o o', f o = some o' → β o' = α o) {a a' : SV} {v : Value} (h : a.ren f = some a') (r : a.rep α v) : a'.rep (β) v := by
  cases a with
  | sa c => simp only [SV.ren, Option.map_eq_some_iff] at h; obtain ⟨c', h, rfl⟩ := h; exact SA.ren_rep hf h r
  | tup l => simp only [SV.ren, Option.map_eq_some_iff] at h; obtain ⟨c', h, rfl⟩ := h; obtain ⟨vs, r, e⟩ := r; exact ⟨vs, r.ren hf h, e⟩
theorem EntsRep.ren (hf : ∀ o o', f o = some o' → β o' = α o) : ∀ {es es' : List SE} {xs : List MapEntry}, mapO (fun e => (e.val.ren f).map fun v => { e with val := v }) es = some es' → EntsRep α es xs → EntsRep (β) es' xs
  | [], es', xs, h, r => by simp [mapO] at h; subst h; cases xs with | nil => trivial | cons _ _ => exact r.elim
  | c :: l, es', xs, h, r => by
    obtain ⟨y, r', rfl, h1, h2⟩ := mapO_cons h
    cases xs with
    | nil => exact r.elim
    | cons v vs =>
      simp only [Option.map_eq_some_iff] at h1
      obtain ⟨v', h1, rfl⟩ := h1
      exact ⟨⟨r.1.1, r.1.2.1, SA.ren_rep hf h1 r.1.2.2⟩, EntsRep.ren hf h2 r.2⟩
theorem Ct.Cells.ren (hf : ∀ o o', f o = some o' → β o' = α o) {vs vs' : List (List SC)} {m : Nat} {g : Nat → Nat → Option Value} (h : mapO (mapO (SC.ren f)) vs = some vs') (hc : (Ct.lst vs).Cells α m g) : (Ct.lst vs').Cells (β) m g := by
  obtain ⟨hl, hg⟩ := mapO_get h
  intro i hi
  simp only [Ct.len, hl] at hi
  have hi' : i < vs'.length := by omega
  obtain ⟨e, he, hff⟩ := hg i vs'[i] (by simp [hi'])
  obtain ⟨hl2, hg2⟩ := mapO_get hff
  have hc := hc i (by simpa [Ct.len] using hi)
  simp only [Ct.get, getL_eq, he, Option.getD_some] at hc
  have hv : (Ct.lst vs').get i = vs'[i] := by simp [Ct.get, hi']
  rw [hv]
  refine ⟨by rw [hl2]; exact hc.1, fun j c hj => ?_⟩
  obtain ⟨c0, h1, h2⟩ := hg2 j c hj
  obtain ⟨v, x1, x2, x3⟩ := hc.2 j c0 h1
  exact ⟨v, (SC.ren_val hf h2).trans x1, x2, x3⟩

theorem FrOk.ren (hf : ∀ o o', f o = some o' → β o' = α o) {fr fr' : Fr} {tmps : Array Value} (h1 : mapO (OV.ren f) fr = some fr') (hk : FrOk α fr tmps) : FrOk β fr' tmps := by
  obtain ⟨hl, hg⟩ := mapO_get h1
  refine ⟨by rw [hl]; exact hk.1, fun t sv ht => ?_⟩
  rw [Fr.get_eq] at ht
  have hlt : t < fr'.length := by
    by_cases hlt : t < fr'.length
    · exact hlt
    · rw [List.getElem?_eq_none (by omega)] at ht; cases ht
  have ht' : fr'[t]? = some (some sv) := by
    rw [List.getElem?_eq_getElem hlt] at ht ⊢; simpa using ht
  obtain ⟨x, hx, hr⟩ := hg t _ ht'
  cases x with
  | none => simp [OV.ren] at hr
  | some v =>
    simp only [OV.ren, Option.map_eq_some_iff] at hr
    obtain ⟨v', hr, e⟩ := hr
    cases e
    obtain ⟨u, y1, y2⟩ := hk.2 t v (by rw [Fr.get_eq, hx]; rfl)
    exact ⟨u, y1, SV.ren_rep hf hr y2⟩
theorem SO.ren_good (hf : ∀ o o', f o = some o' → β o' = α o) {so so' : SO} {w : World} {d : Den} (h : so.ren f = some so') (hg : Good α w d so) : Good (β) w d so' := by
  cases so with
  | mem wb k T m ct =>
    have cellsOk : ∃ ct', so' = .mem wb k T m ct' ∧ ct'.len = ct.len ∧ ∀ g, ct.Cells α m g → ct'.Cells (β) m g := by
      cases ct with
      | lst vs =>
        simp only [SO.ren, Option.map_eq_some_iff] at h
        obtain ⟨vs', h, rfl⟩ := h
        exact ⟨_, rfl, (mapO_get h).1, fun g hc => hc.ren hf h⟩
      | ints kk xs =>
        simp only [SO.ren, Option.some.injEq] at h
        subst h
        refine ⟨_, rfl, rfl, fun g hc i hi => ⟨(hc i hi).1, fun j c hj => ?_⟩⟩
        obtain ⟨v, x1, x2, x3⟩ := (hc i hi).2 j c hj
        refine ⟨v, ?_, x2, x3⟩
        simp only [Ct.get] at hj
        cases j with
        | zero => simp at hj; subst hj; exact x1
        | succ j => simp at hj
      | tab n cs =>
        simp only [SO.ren, Option.some.injEq] at h
        subst h
        exact ⟨_, rfl, rfl, fun g hc => hc.at fun vs e => by cases e⟩
    obtain ⟨ct', rfl, hlen, hc⟩ := cellsOk
    obtain ⟨h1, h2, h4⟩ := hg
    refine ⟨h1, h2, ?_⟩
    cases k with
    | ext => exact ⟨h4.1, hc _ h4.2⟩
    | whole =>
      obtain ⟨cs, fz, h5, h6, h7, h8, h9, h10⟩ := h4
      exact ⟨cs, fz, h5, h6, h7, by rw [hlen]; exact h8, by rw [hlen]; exact h9, hc _ h10⟩
    | row =>
      obtain ⟨cs, fz, h5, h6, h7, h8, h9, h10⟩ := h4
      exact ⟨cs, fz, h5, h6, h7, by rw [hlen]; exact h8, by rw [hlen]; exact h9, hc _ h10⟩
  | clo f a b =>
    simp only [SO.ren] at h
    split at h
    · rename_i a' b' ha hb
      cases h
      obtain ⟨va, vb, h1, h2, h3⟩ := hg
      exact ⟨va, vb, h1.ren hf ha, h2.ren hf hb, h3⟩
    · simp at h
  | emp o L =>
    simp only [SO.ren, Option.map_eq_some_iff] at h
    obtain ⟨o', h, rfl⟩ := h
    obtain ⟨e, a, c, h1, h2⟩ := hg
    exact ⟨e, a, c, (hf _ _ h).trans h1, h2⟩
  | nul => simp only [SO.ren, Option.some.injEq] at h; subst h; exact hg
  | mp k es cl =>
    simp only [SO.ren, Option.map_eq_some_iff] at h
    obtain ⟨es', h, rfl⟩ := h
    obtain ⟨h1, xs, h2, h3⟩ := hg
    exact ⟨h1, xs, h2, h3.ren hf h⟩
  | lp wb g fr ps a b s j =>
    simp only [SO.ren, Option.map_eq_some_iff] at h
    obtain ⟨fr', h, rfl⟩ := h
    obtain ⟨h1, r, h2, h3, h4⟩ := hg
    exact ⟨h1, r, h2, h3.ren hf h, h4⟩
theorem SO.ren_kind {so so' : SO} (h : so.ren f = some so') : so.heapy = so'.heapy ∧ so.wr = so'.wr := by
  cases so with
  | mem wb k T m ct =>
    cases ct <;> simp only [SO.ren, Option.map_eq_some_iff, Option.some.injEq] at h
    · obtain ⟨_, _, rfl⟩ := h; cases wb <;> cases k <;> exact ⟨rfl, rfl⟩
    · subst h; exact ⟨rfl, rfl⟩
    · subst h; exact ⟨rfl, rfl⟩
  | clo f a b =>
    simp only [SO.ren] at h
    split at h
    · cases h; exact ⟨rfl, rfl⟩
    · simp at h
  | emp o L => simp only [SO.ren, Option.map_eq_some_iff] at h; obtain ⟨_, _, rfl⟩ := h; exact ⟨rfl, rfl⟩
  | nul => simp only [SO.ren, Option.some.injEq] at h; subst h; exact ⟨rfl, rfl⟩
  | mp k es cl => simp only [SO.ren, Option.map_eq_some_iff] at h; obtain ⟨_, _, rfl⟩ := h; exact ⟨rfl, rfl⟩
  | lp wb g fr ps a b s j => simp only [SO.ren, Option.map_eq_some_iff] at h; obtain ⟨_, _, rfl⟩ := h; exact ⟨rfl, rfl⟩

theorem OO.ren_spec {x y : Option SO} (h : OO.ren f x = some y) :
    (x = none ∧ y = none) ∨ ∃ so so', x = some so ∧ y = some so' ∧ so.heapy = so'.heapy ∧ so.wr = so'.wr ∧ ∀ α β, (∀ o o', f o = some o' → β o' = α o) → ∀ w d, Good α w d so → Good β w d so' := by
  unfold OO.ren at h
  split at h
  · cases h; exact .inl ⟨rfl, rfl⟩
  · rename_i so
    right
    split at h
    · rename_i hr
      cases h
      exact ⟨so, so, rfl, rfl, rfl, rfl, fun α β _ w d hg => hg.at (by rw [hr]; intro o ho; cases ho)⟩
    · simp only [Option.map_eq_some_iff] at h
      obtain ⟨so', h, rfl⟩ := h
      exact ⟨so, so', rfl, rfl, (SO.ren_kind h).1, (SO.ren_kind h).2, fun α β hf w d hg => SO.ren_good hf h hg⟩
end

theorem dropOld_le {n0 : Nat} : ∀ {l : List Nat}, ∀ x ∈ dropOld n0 l, n0 ≤ x
  | [], x, h => by simp [dropOld] at h
  | o :: r, x, h => by
    simp only [dropOld] at h
    split at h
    · exact dropOld_le x h
    · rename_i hb
      rcases List.mem_cons.1 h with rfl | h
      · have : ¬ x < n0 := fun hl => by
          have : Nat.blt x n0 = true := Nat.ble_eq_true_of_le hl
          rw [this] at hb; cases hb
        omega
      · exact dropOld_le x h
theorem reachNew_spec {n0 : Nat} {st : St} : ∀ {n : Nat} {work acc : List Nat}, (∀ x ∈ work, n0 ≤ x) → acc.Nodup → (∀ x ∈ acc, n0 ≤ x) →
    (reachNew n0 st n work acc).Nodup ∧ ∀ x ∈ reachNew n0 st n work acc, n0 ≤ x
  | 0, work, acc, _, h2, h3 => by unfold reachNew; exact ⟨h2, h3⟩
  | n + 1, [], acc, _, h2, h3 => by unfold reachNew; exact ⟨h2, h3⟩
  | n + 1, o :: r, acc, h1, h2, h3 => by
    have h1r : ∀ x ∈ r, n0 ≤ x := fun x hx => h1 x (by simp [hx])
    simp only [reachNew]
    cases hh : hasN o acc with
    | true => exact reachNew_spec h1r h2 h3
    | false =>
      have hn : o ∉ acc := fun hm => by rw [hasN_iff.2 hm] at hh; cases hh
      have hacc : (acc ++ [o]).Nodup := by
        rw [List.nodup_append]
        exact ⟨h2, by simp, fun a ha b hb => by simp at hb; subst hb; rintro rfl; exact hn ha⟩
      have hle : ∀ x ∈ acc ++ [o], n0 ≤ x := fun x hx => by
        rcases List.mem_append.1 hx with hx | hx
        · exact h3 x hx
        · simp at hx; subst hx; exact h1 x (by simp)
      dsimp only
      split
      · refine reachNew_spec (fun x hx => ?_) hacc hle
        rcases List.mem_append.1 hx with hx | hx
        · exact dropOld_le x hx
        · exact h1r x hx
      · exact reachNew_spec h1r hacc hle

/-- What the renaming does to a state: the objects of the list get the next numbers. -/
theorem ren_to {α α1 : Al} {st0 st1 st' : St} {w w1 : World} {live : List Nat} (hto : To α st0 w α1 st1 w1) (hnd : live.Nodup) (hge : ∀ x ∈ live, st0.length ≤ x)
    (h2 : mapO (OO.ren (Ev.ren st0.length live)) (takeL st0.length st1 ++ live.map st1.get) = some st') : To α st0 w (α1.ren st0.length live) st' w1 ∧
      ∀ o so d, st'.get o = some so → (α1.ren st0.length live) o = some d → ∃ p so0, st1.get p = some so0 ∧ α1 p = some d ∧ so0.heapy = so.heapy := by
      have hlen := hto.len
      obtain ⟨hl, hg⟩ := mapO_get h2
      simp only [takeL_eq, List.length_append, List.length_take, List.length_map, Nat.min_eq_left hlen] at hl
      -- where an object of the new state comes from
      let src : Nat → Nat := fun o => if o < st0.length then o else live[o - st0.length]?.getD 0
      have hsrc : ∀ o y, st'[o]? = some y → ∃ x, OO.ren (Ev.ren st0.length live) x = some y ∧ st1.get (src o) = x ∧ (α1.ren st0.length live) o = α1 (src o) ∧ (st0.length ≤ o → st0.length ≤ src o) := by
        intro o y ho
        obtain ⟨x, hx, hr⟩ := hg o y ho
        refine ⟨x, hr, ?_⟩
        by_cases hlt : o < st0.length
        · rw [List.getElem?_append_left (by simp [Nat.min_eq_left hlen, hlt])] at hx
          simp only [takeL_eq, List.getElem?_take, hlt, if_true] at hx
          simp only [src, hlt, if_true, Al.ren]
          exact ⟨by simp [St.get_eq, hx], trivial, fun hh => by omega⟩
        · rw [List.getElem?_append_right (by simp [Nat.min_eq_left hlen]; omega)] at hx
          simp only [takeL_eq, List.length_take, Nat.min_eq_left hlen, List.getElem?_map, Option.map_eq_some_iff] at hx
          obtain ⟨q, hq, hx⟩ := hx
          simp only [src, hlt, if_false, Al.ren, hq, Option.getD_some]
          exact ⟨hx, trivial, fun _ => hge q (List.mem_of_getElem? hq)⟩
      have hinj : ∀ o o' y y', st'[o]? = some y → st'[o']? = some y' → o ≠ o' → src o ≠ src o' := by
        intro o o' y y' ho ho' hne
        have lt1 : o < st'.length := (List.getElem?_eq_some_iff.1 ho).1
        have lt2 : o' < st'.length := (List.getElem?_eq_some_iff.1 ho').1
        have hg1 : ∀ p, st0.length ≤ p → p < st'.length → ∃ q, live[p - st0.length]? = some q ∧ st0.length ≤ q := fun p h3 h4 => by
          have : p - st0.length < live.length := by omega
          exact ⟨live[p - st0.length], by simp [this], hge _ (List.getElem_mem _)⟩
        by_cases c1 : o < st0.length <;> by_cases c2 : o' < st0.length
        · simpa [src, c1, c2] using hne
        · obtain ⟨q, hq, hq2⟩ := hg1 o' (by omega) lt2
          simp only [src, c1, c2, if_true, if_false, hq, Option.getD_some]; omega
        · obtain ⟨q, hq, hq2⟩ := hg1 o (by omega) lt1
          simp only [src, c1, c2, if_true, if_false, hq, Option.getD_some]; omega
        · have i1 : o - st0.length < live.length := by omega
          have i2 : o' - st0.length < live.length := by omega
          simp only [src, c1, c2, if_false, List.getElem?_eq_getElem i1, List.getElem?_eq_getElem i2, Option.getD_some]
          intro e
          have := (List.getElem_inj hnd).1 e
          omega
      have key : ∀ (o : Nat) (so' : SO), St.get st' o = some so' → ∃ so, st1.get (src o) = some so ∧ so.heapy = so'.heapy ∧ so.wr = so'.wr ∧ (∀ α β, (∀ o o', Ev.ren st0.length live o = some o' → β o' = α o) → ∀ w d, Good α w d so → Good β w d so') ∧
          (α1.ren st0.length live) o = α1 (src o) ∧ (st0.length ≤ o → st0.length ≤ src o) ∧ st'[o]? = some (some so') := by
        intro o so' ho
        have hlt := St.get_lt ho
        have ho' : st'[o]? = some (some so') := by
          rw [St.get_eq, List.getElem?_eq_getElem hlt] at ho
          rw [List.getElem?_eq_getElem hlt]; simpa using ho
        obtain ⟨x, hr, hs, ha, hb⟩ := hsrc o _ ho'
        rcases OO.ren_spec hr with ⟨_, e⟩ | ⟨so, so2, e1, e2, e3, e4, e5⟩
        · cases e
        · cases e2; exact ⟨so, by rw [hs, e1], e3, e4, e5, ha, hb, ho'⟩
      refine ⟨?_, fun o so d ho hd => let ⟨so0, k1, k2, _, _, k5, _⟩ := key o so ho; ⟨src o, so0, k1, k5.symm.trans hd, k2⟩⟩
      refine ⟨⟨?_, ?_, ?_, ?_⟩, ?_, by omega, ?_, ?_, ?_, hto.kept, hto.size, hto.tape, hto.os, hto.output⟩
      · intro o so' ho
        obtain ⟨so, k1, k2, k3, k4, k5, _⟩ := key o so' ho
        obtain ⟨d, x1, x2⟩ := hto.rep.good _ _ k1
        exact ⟨d, k5.trans x1, k4 α1 _ (fun _ _ => ren_al) _ _ x2⟩
      · intro o o' so so' d d' hne ho ho' hd hd' hh hh' hw
        obtain ⟨s1, k1, k2, k3, k4, k5, k6, k7⟩ := key o so ho
        obtain ⟨s2, l1, l2, l3, l4, l5, l6, l7⟩ := key o' so' ho'
        exact hto.rep.sep _ _ s1 s2 d d' (hinj o o' _ _ k7 l7 hne) k1 l1 (k5 ▸ hd) (l5 ▸ hd') (k2.trans hh) (l2.trans hh') (k3.trans hw)
      · intro o ho
        simp only [Al.ren]
        rw [if_neg (by omega), List.getElem?_eq_none (by omega)]
      · intro o d hd
        simp only [Al.ren] at hd
        split at hd
        · exact hto.rep.cell o d hd
        · split at hd
          · rename_i q _; exact hto.rep.cell q d hd
          · simp at hd
      · intro o ho
        simp only [Al.ren, ho, if_true]
        exact hto.ext o ho
      · intro o so' ho hs
        obtain ⟨so, k1, k2, k3, _⟩ := key o so' hs
        have : src o = o := by simp [src, ho]
        rw [this] at k1
        obtain ⟨s0, x1, x2, x3⟩ := hto.old o so ho k1
        exact ⟨s0, x1, x2.trans k2, x3.trans k3⟩
      · intro o so' ho hs hh
        obtain ⟨so, k1, k2, k3, _, _, k6, _⟩ := key o so' hs
        rw [← k3]; exact hto.fresh _ so (k6 ho) k1 (k2.trans hh)
      · rintro b hb ⟨o, so', d, x1, x2, x3, x4⟩
        obtain ⟨so, k1, k2, k3, _, k5, _⟩ := key o so' x1
        exact hto.wrs b hb ⟨src o, so, d, k1, k5 ▸ x2, k3.trans x3, x4⟩

theorem reachNew_ok (n0 : Nat) (st : St) (l : List Nat) : (reachNew n0 st 10000 (dropOld n0 l) []).Nodup ∧ ∀ x ∈ reachNew n0 st 10000 (dropOld n0 l) [], n0 ≤ x :=
  reachNew_spec dropOld_le (by simp) (by simp)

theorem collect_sound {α α1 : Al} {st0 st1 : St} {w w1 : World} {v : SV} {val : Value} {k : SV → St → Prop} (hto : To α st0 w α1 st1 w1) (hv : SV.rep α1 v val)
    (h : collect st0.length v st1 k) : ∃ α2 v' st', k v' st' ∧ SV.rep α2 v' val ∧ To α st0 w α2 st' w1 := by
  unfold collect at h
  split at h
  · exact ⟨α1, v, st1, h, hv, hto⟩
  · obtain ⟨hnd, hge⟩ := reachNew_ok st0.length st1 (v.refs ++ oldRefs st1 st0.length)
    generalize reachNew st0.length st1 10000 (dropOld st0.length (v.refs ++ oldRefs st1 st0.length)) [] = live at h hnd hge
    dsimp only at h
    split at h
    · rename_i v' st' h1 h2
      exact ⟨_, v', st', h, SV.ren_rep (fun _ _ => ren_al) h1 hv, (ren_to hto hnd hge h2).1⟩
    · exact h.elim

/-! ### the head of a loop -/
theorem keepL_get {live : List Nat} : ∀ {fr : Fr} {i : Nat}, (keepL live i fr).length = fr.length ∧ ∀ t sv, (keepL live i fr).get t = some sv → fr.get t = some sv
  | [], i => ⟨rfl, fun t sv h => h⟩
  | x :: r, i => by
    obtain ⟨h1, h2⟩ := keepL_get (live := live) (fr := r) (i := i + 1)
    refine ⟨by simp [keepL, h1], fun t sv h => ?_⟩
    cases t with
    | zero =>
      simp only [Fr.get, keepL, getL] at h ⊢
      split at h
      · exact h
      · cases h
    | succ t => exact h2 t sv h

theorem colsOf_spec : ∀ {e : List SC} {cs : List Col}, colsOf e = some cs → colsAt 0 cs = e
  | [], cs, h => by simp [colsOf] at h; subst h; rfl
  | c :: r, cs, h => by
    unfold colsOf at h
    split at h
    · rename_i heq; cases heq
    · rename_i k x r' heq
      cases heq
      split at h
      · rename_i l hl; cases h; simp [colsAt, Col.at, colsOf_spec hl]
      · simp at h
    · rename_i x r' heq
      cases heq
      split at h
      · rename_i l hl; cases h; simp [colsAt, Col.at, colsOf_spec hl]
      · simp at h
    · simp at h

theorem Ct.canon_spec (ct : Ct) : ct.canon.len = ct.len ∧ ∀ i, i < ct.len → ct.canon.get i = ct.get i := by
  unfold Ct.canon
  split
  · rename_i k x r
    split
    · rename_i l hl
      obtain ⟨h1, h2⟩ := intsOf_spec hl
      refine ⟨by simp [Ct.len, h1], fun i hi => ?_⟩
      cases i with
      | zero => simp [Ct.get]
      | succ i =>
        simp only [Ct.len, List.length_cons] at hi
        have := h2 i (by omega)
        simpa [Ct.get] using this.symm
    · exact ⟨rfl, fun _ _ => rfl⟩
  · rename_i e r _
    split
    · rename_i cs hcs
      split
      · rename_i cs' hp
        refine ⟨by simp [Ct.len]; omega, fun i hi => ?_⟩
        simp only [Ct.len, List.length_cons] at hi
        have := pushAll_spec hp i (by omega)
        simp only [Ct.get, getL_eq]
        rw [this]
        cases i with
        | zero => simp [colsOf_spec hcs]
        | succ i => simp
      · exact ⟨rfl, fun _ _ => rfl⟩
    · exact ⟨rfl, fun _ _ => rfl⟩
  · exact ⟨rfl, fun _ _ => rfl⟩

theorem OO.canon_spec {x : Option SO} {so : SO} (h : OO.canon x = some so) : ∃ so0, x = some so0 ∧ so0.heapy = so.heapy ∧ so0.wr = so.wr ∧ ∀ α w d, Good α w d so0 → Good α w d so := by
  unfold OO.canon at h
  split at h
  · rename_i w T m ct
    cases h
    refine ⟨_, rfl, rfl, by cases w <;> rfl, fun α w d ⟨h1, h2, cs, fz, h5, h6, h7, h8, h9, h10⟩ => ⟨h1, h2, cs, fz, h5, h6, h7, ?_, ?_, fun i hi => ?_⟩⟩
    · rw [ct.canon_spec.1]; exact h8
    · intro e; cases e
    · rw [ct.canon_spec.1] at hi
      rw [ct.canon_spec.2 i hi]
      exact h10 i hi
  · cases x with
    | none => cases h
    | some so' => cases h; exact ⟨_, rfl, rfl, rfl, fun _ _ _ h => h⟩

theorem mapL_eq {β γ : Type} (f : β → γ) (l : List β) : mapL f l = l.map f := by induction l <;> simp_all [mapL]

theorem canon_src {st1 : St} {o : Nat} {so : SO} (ho : St.get (mapL OO.canon st1) o = some so) : ∃ so0, st1.get o = some so0 ∧ so0.heapy = so.heapy ∧ so0.wr = so.wr ∧ ∀ α w d, Good α w d so0 → Good α w d so := by
  rw [mapL_eq, St.get_eq, List.getElem?_map] at ho
  cases hx : st1[o]? with
  | none => rw [hx] at ho; cases ho
  | some x =>
    rw [hx] at ho
    obtain ⟨so0, h1, h2⟩ := OO.canon_spec (x := x) ho
    exact ⟨so0, by rw [St.get_eq, hx]; exact h1, h2⟩
theorem canon_to {α α1 : Al} {st0 st1 : St} {w w1 : World} (hto : To α st0 w α1 st1 w1) : To α st0 w α1 (mapL OO.canon st1) w1 := by
  have key : ∀ (o : Nat) (so : SO), St.get (mapL OO.canon st1) o = some so → ∃ so0, st1.get o = some so0 ∧ so0.heapy = so.heapy ∧ so0.wr = so.wr ∧ ∀ α w d, Good α w d so0 → Good α w d so := by
    intro o so ho
    rw [mapL_eq, St.get_eq, List.getElem?_map] at ho
    cases hx : st1[o]? with
    | none => rw [hx] at ho; cases ho
    | some x =>
      rw [hx] at ho
      obtain ⟨so0, h1, h2⟩ := OO.canon_spec (x := x) ho
      exact ⟨so0, by rw [St.get_eq, hx]; exact h1, h2⟩
  have hl : (mapL OO.canon st1).length = st1.length := by rw [mapL_eq]; simp
  refine ⟨⟨?_, ?_, ?_, hto.rep.cell⟩, hto.ext, by rw [hl]; exact hto.len, ?_, ?_, ?_, hto.kept, hto.size, hto.tape, hto.os, hto.output⟩
  · intro o so ho
    obtain ⟨so0, h1, h2, h3, h4⟩ := key o so ho
    obtain ⟨d, x1, x2⟩ := hto.rep.good o so0 h1
    exact ⟨d, x1, h4 _ _ _ x2⟩
  · intro o o' so so' d d' hne ho ho' hd hd' hh hh' hw
    obtain ⟨s1, k1, k2, k3, _⟩ := key o so ho
    obtain ⟨s2, l1, l2, l3, _⟩ := key o' so' ho'
    exact hto.rep.sep o o' s1 s2 d d' hne k1 l1 hd hd' (k2.trans hh) (l2.trans hh') (k3.trans hw)
  · intro o ho; rw [hl] at ho; exact hto.rep.none o ho
  · intro o so ho hs
    obtain ⟨so0, h1, h2, h3, _⟩ := key o so hs
    obtain ⟨s0, x1, x2, x3⟩ := hto.old o so0 ho h1
    exact ⟨s0, x1, x2.trans h2, x3.trans h3⟩
  · intro o so ho hs hh
    obtain ⟨so0, h1, h2, h3, _⟩ := key o so hs
    rw [← h3]; exact hto.fresh o so0 ho h1 (h2.trans hh)
  · rintro b hb ⟨o, so, d, x1, x2, x3, x4⟩
    obtain ⟨so0, h1, h2, h3, _⟩ := key o so x1
    exact hto.wrs b hb ⟨o, so0, d, h1, x2, h3.trans x3, x4⟩

theorem atHead_sound {cx : Cx} {f : FuncId} {c : Code} {α α1 : Al} {st0 st1 : St} {w w1 : World} {fr : Fr} {tmps : Array Value} {K : Fr → St → Prop} (hto : To α st0 w α1 st1 w1) (hf : FrOk α1 fr tmps)
    (h : atHead cx f c st0.length fr st1 K) : ∃ α2 fr' st', K fr' st' ∧ FrOk α2 fr' tmps ∧ To α st0 w α2 st' w1 ∧ (∀ o so d, st'.get o = some so → α2 o = some d → ∃ p so0, st1.get p = some so0 ∧ α1 p = some d ∧ so0.heapy = so.heapy) := by
  unfold atHead at h
  split at h
  · split at h
    · rename_i mask _
      unfold forget at h
      obtain ⟨hnd, hge⟩ := reachNew_ok st0.length st1 (frRefs (keepL mask 0 fr) ++ oldRefs st1 st0.length)
      dsimp only at h
      generalize reachNew st0.length st1 10000 (dropOld st0.length (frRefs (keepL mask 0 fr) ++ oldRefs st1 st0.length)) [] = live at h hnd hge
      split at h
      · rename_i fr' st' h1 h2
        obtain ⟨hl, hg⟩ := mapO_get h1
        obtain ⟨k1, k2⟩ := keepL_get (live := mask) (fr := fr) (i := 0)
        refine ⟨_, fr', _, h, ⟨by rw [hl, k1]; exact hf.1, fun t sv ht => ?_⟩, canon_to (ren_to hto hnd hge h2).1, fun o so d ho hd => ?_⟩
        · rw [Fr.get_eq] at ht
          have hlt : t < fr'.length := by
            by_cases hlt : t < fr'.length
            · exact hlt
            · rw [List.getElem?_eq_none (by omega)] at ht; cases ht
          have ht' : fr'[t]? = some (some sv) := by
            rw [List.getElem?_eq_getElem hlt] at ht ⊢; simpa using ht
          obtain ⟨x, hx, hr⟩ := hg t _ ht'
          cases x with
          | none => simp [OV.ren] at hr
          | some v =>
            simp only [OV.ren, Option.map_eq_some_iff] at hr
            obtain ⟨v', hr, e⟩ := hr
            cases e
            obtain ⟨u, y1, y2⟩ := hf.2 t v (k2 t v (by rw [Fr.get_eq, hx]; rfl))
            exact ⟨u, y1, SV.ren_rep (fun _ _ => ren_al) hr y2⟩
        · obtain ⟨so0, c1, c2, _⟩ := canon_src ho
          obtain ⟨p, so1, d1, d2, d3⟩ := (ren_to hto hnd hge h2).2 o so0 d c1 hd
          exact ⟨p, so1, d1, d2, d3.trans c2⟩
      · exact h.elim
    · exact ⟨α1, fr, st1, h, hf, hto, fun o so d ho hd => ⟨o, so, ho, hd, rfl⟩⟩
  · exact ⟨α1, fr, st1, h, hf, hto, fun o so d ho hd => ⟨o, so, ho, hd, rfl⟩⟩

/-! ### a summary, asked on a part -/
theorem reachAll_spec {st : St} : ∀ {n : Nat} {work acc : List Nat}, acc.Nodup → (∀ x ∈ acc, x < st.length) →
    (reachAll st n work acc).Nodup ∧ ∀ x ∈ reachAll st n work acc, x < st.length
  | 0, work, acc, h2, h3 => by unfold reachAll; exact ⟨h2, h3⟩
  | n + 1, [], acc, h2, h3 => by unfold reachAll; exact ⟨h2, h3⟩
  | n + 1, o :: r, acc, h2, h3 => by
    simp only [reachAll]
    cases hh : hasN o acc with
    | true => exact reachAll_spec h2 h3
    | false =>
      dsimp only
      cases hb : Nat.blt o (lenL st) with
      | false => exact reachAll_spec h2 h3
      | true =>
        have hlt : o < st.length := by have := Nat.le_of_ble_eq_true hb; rw [lenL_eq] at this; exact this
        have hn : o ∉ acc := fun hm => by rw [hasN_iff.2 hm] at hh; cases hh
        have hacc : (acc ++ [o]).Nodup := by
          rw [List.nodup_append]
          exact ⟨h2, by simp, fun a ha b hb => by simp at hb; subst hb; rintro rfl; exact hn ha⟩
        have hle : ∀ x ∈ acc ++ [o], x < st.length := fun x hx => by
          rcases List.mem_append.1 hx with hx | hx
          · exact h3 x hx
          · simp at hx; subst hx; exact hlt
        dsimp only
        split
        · exact reachAll_spec hacc hle
        · exact reachAll_spec hacc hle

theorem ren_zero {objs : List Nat} {o j : Nat} (h : ren 0 objs o = some j) : objs[j]? = some o := by
  unfold Ev.ren at h
  split at h
  · rename_i hb; exact absurd (Nat.le_of_ble_eq_true hb) (by omega)
  · simp only [Option.map_eq_some_iff] at h
    obtain ⟨i, h, rfl⟩ := h
    obtain ⟨d, h1, h2⟩ := ren_idx h
    rw [show 0 + i = d by omega]; exact h2

theorem putBack_get {objs : List Nat} {loc : St} : ∀ {st : St} {i o : Nat}, (putBack objs loc i st).length = st.length ∧ (o < st.length → (putBack objs loc i st)[o]? = some (match ren 0 objs (i + o) with
    | some j => getL none loc j
    | none => st[o]?.getD none))
  | [], i, o => ⟨rfl, fun h => by simp at h⟩
  | x :: r, i, o => by
    obtain ⟨h1, _⟩ := putBack_get (objs := objs) (loc := loc) (st := r) (i := i + 1) (o := o)
    refine ⟨by simp [putBack, h1], fun h => ?_⟩
    cases o with
    | zero => simp [putBack]; rfl
    | succ o =>
      have := (putBack_get (objs := objs) (loc := loc) (st := r) (i := i + 1) (o := o)).2 (by simpa using h)
      simp only [putBack, List.getElem?_cons_succ]
      rw [this, show i + 1 + o = i + (o + 1) by omega]

theorem part_sound {α β1 : Al} {st loc loc' loc2 : St} {w w' : World} {objs : List Nat} (hR : R α st w) (hnd : objs.Nodup) (hlt : ∀ x ∈ objs, x < st.length)
    (hloc : mapO (OO.ren (ren 0 objs)) (objs.map st.get) = some loc) (hto : To (α.ren 0 objs) loc w β1 loc' w') (h2 : mapO (OO.ren (back objs objs.length st.length)) loc' = some loc2) :
    ∃ α2, (∀ o o', back objs objs.length st.length o = some o' → α2 o' = β1 o) ∧ To α st w α2 (putBack objs loc2 0 st ++ dropL objs.length loc2) w' := by
  obtain ⟨hl, hg⟩ := mapO_get hloc
  simp only [List.length_map] at hl
  obtain ⟨hl2, hg2⟩ := mapO_get h2
  have hm : objs.length ≤ loc'.length := by rw [← hl]; exact hto.len
  have hβ : ∀ (j o : Nat), objs[j]? = some o → (α.ren 0 objs) j = α o := fun j o h => by simp [Al.ren, h]
  have hjm : ∀ (j o : Nat), objs[j]? = some o → j < objs.length := fun j o h => (List.getElem?_eq_some_iff.1 h).1
  -- what lies in the part came from the state
  have locOld : ∀ (j : Nat) (s : SO), loc.get j = some s → ∃ o s0, objs[j]? = some o ∧ st.get o = some s0 ∧ s0.heapy = s.heapy ∧ s0.wr = s.wr := by
    intro j s hs
    have hj := St.get_lt hs
    have hs' : loc[j]? = some (some s) := by
      rw [St.get_eq, List.getElem?_eq_getElem hj] at hs; rw [List.getElem?_eq_getElem hj]; simpa using hs
    obtain ⟨x, hx, hr⟩ := hg j _ hs'
    simp only [List.getElem?_map, Option.map_eq_some_iff] at hx
    obtain ⟨o, ho, hx⟩ := hx
    rcases OO.ren_spec hr with ⟨_, e⟩ | ⟨so, so2, e1, e2, e3, e4, e5⟩
    · cases e
    · cases e2; exact ⟨o, so, ho, by rw [hx, e1], e3, e4⟩
  have wrOld : ∀ b, Wr (α.ren 0 objs) loc b → ∃ o s0 d, o ∈ objs ∧ st.get o = some s0 ∧ α o = some d ∧ s0.wr = true ∧ d.blk = b := by
    rintro b ⟨j, s, d, x1, x2, x3, x4⟩
    obtain ⟨o, s0, y1, y2, y3, y4⟩ := locOld j s x1
    exact ⟨o, s0, d, List.mem_of_getElem? y1, y2, (hβ j o y1).symm.trans x2, y4.trans x3, x4⟩
  let α2 : Al := fun o => if o < st.length then α o else β1 (o - st.length + objs.length)
  have hf : ∀ o o', back objs objs.length st.length o = some o' → α2 o' = β1 o := by
    intro o o' h
    unfold back at h
    split at h
    · rename_i hb
      have ho : o < objs.length := Nat.le_of_ble_eq_true hb
      cases h
      have hge : objs[o]? = some (getL 0 objs o) := by simp [ho]
      have := hlt _ (List.mem_of_getElem? hge)
      simp only [α2, this, if_true]
      rw [hto.ext o (by omega), hβ o _ hge]
    · rename_i hb
      have ho : ¬ o < objs.length := fun hlt => by
        have : Nat.blt o objs.length = true := Nat.ble_eq_true_of_le hlt
        rw [this] at hb; cases hb
      cases h
      simp only [α2]
      rw [if_neg (by omega)]
      congr 1; omega
  have hle : α.le α2 := fun o d h => by
    have : o < st.length := by
      by_cases hh : o < st.length
      · exact hh
      · rw [hR.none o (by omega)] at h; cases h
    simp only [α2, this, if_true]; exact h
  -- the new state's objects
  have key : ∀ (o : Nat) (so : SO), St.get (putBack objs loc2 0 st ++ dropL objs.length loc2) o = some so →
      (o < st.length ∧ o ∉ objs ∧ st.get o = some so) ∨
      (∃ j s1, (o < st.length → objs[j]? = some o) ∧ (st.length ≤ o → j = o - st.length + objs.length) ∧ loc'.get j = some s1 ∧ s1.heapy = so.heapy ∧ s1.wr = so.wr ∧ α2 o = β1 j ∧ ∀ w d, Good β1 w d s1 → Good α2 w d so) := by
    intro o so ho
    have fromLoc : ∀ (j : Nat), loc2.get j = some so → ∃ s1, loc'.get j = some s1 ∧ s1.heapy = so.heapy ∧ s1.wr = so.wr ∧ ∀ w d, Good β1 w d s1 → Good α2 w d so := by
      intro j hj
      have hlt := St.get_lt hj
      have hj' : loc2[j]? = some (some so) := by
        rw [St.get_eq, List.getElem?_eq_getElem hlt] at hj; rw [List.getElem?_eq_getElem hlt]; simpa using hj
      obtain ⟨x, hx, hr⟩ := hg2 j _ hj'
      rcases OO.ren_spec hr with ⟨_, e⟩ | ⟨s1, so2, e1, e2, e3, e4, e5⟩
      · cases e
      · cases e2; exact ⟨s1, by rw [St.get_eq, hx, e1]; rfl, e3, e4, e5 β1 α2 hf⟩
    rw [St.get_eq] at ho
    by_cases hlo : o < st.length
    · rw [List.getElem?_append_left (by rw [(putBack_get (o := o)).1]; exact hlo), (putBack_get (objs := objs) (loc := loc2) (st := st) (i := 0) (o := o)).2 hlo, Option.getD_some, Nat.zero_add] at ho
      cases hren : ren 0 objs o with
      | some j =>
        rw [hren] at ho
        have hjo := ren_zero hren
        obtain ⟨s1, x1, x2, x3, x4⟩ := fromLoc j ho
        refine .inr ⟨j, s1, fun _ => hjo, fun hh => by omega, x1, x2, x3, ?_, x4⟩
        simp only [α2, hlo, if_true]
        rw [hto.ext j (by rw [hl]; exact hjm _ _ hjo), hβ j o hjo]
      | none =>
        rw [hren] at ho
        refine .inl ⟨hlo, fun hmem => ?_, by rw [St.get_eq]; exact ho⟩
        have hz : ∀ (l : List Nat) (i : Nat), ren.idx o l i = none → o ∉ l := by
          intro l
          induction l with
          | nil => intro i _ h; cases h
          | cons x r ih =>
            intro i h hm
            simp only [ren.idx] at h
            split at h
            · cases h
            · rename_i hne
              rcases List.mem_cons.1 hm with rfl | hm
              · simp at hne
              · exact ih _ h hm
        unfold Ev.ren at hren
        split at hren
        · cases hren
        · simp only [Option.map_eq_none_iff] at hren
          exact hz _ _ hren hmem
    · rw [List.getElem?_append_right (by rw [(putBack_get (o := o)).1]; omega), (putBack_get (o := o)).1, dropL_eq, List.getElem?_drop] at ho
      have hj : loc2.get (o - st.length + objs.length) = some so := by rw [St.get_eq, Nat.add_comm]; exact ho
      obtain ⟨s1, x1, x2, x3, x4⟩ := fromLoc _ hj
      refine .inr ⟨_, s1, fun hh => by omega, fun _ => rfl, x1, x2, x3, ?_, x4⟩
      simp only [α2, hlo, if_false]
  -- where a part's object lies
  have place : ∀ (o j : Nat) (s1 : SO) (d : Den), (o < st.length → objs[j]? = some o) → (st.length ≤ o → j = o - st.length + objs.length) → loc'.get j = some s1 → s1.heapy = true → β1 j = some d →
      (∃ s0, o ∈ objs ∧ st.get o = some s0 ∧ α o = some d ∧ s0.heapy = true ∧ s0.wr = s1.wr) ∨ w.heap.size ≤ d.blk ∨ (∃ p s0 e, p ∈ objs ∧ st.get p = some s0 ∧ α p = some e ∧ s0.wr = true ∧ e.blk = d.blk) := by
    intro o j s1 d h1 h2 hj hh hd
    by_cases hlo : o < st.length
    · have hjo := h1 hlo
      obtain ⟨s, x1, x2, x3⟩ := hto.old j s1 (by rw [hl]; exact hjm _ _ hjo) hj
      obtain ⟨o2, s0, y1, y2, y3, y4⟩ := locOld j s x1
      rw [hjo] at y1; cases y1
      refine .inl ⟨s0, List.mem_of_getElem? hjo, y2, ?_, by rw [y3, x2]; exact hh, y4.trans x3⟩
      rw [← hβ j o hjo, ← hto.ext j (by rw [hl]; exact hjm _ _ hjo)]; exact hd
    · have hjn := h2 (by omega)
      have hw := hto.fresh j s1 (by rw [hl]; omega) hj hh
      by_cases hb : d.blk < w.heap.size
      · exact .inr (.inr (wrOld _ (hto.wrs d.blk hb ⟨j, s1, d, hj, hd, hw, rfl⟩)))
      · exact .inr (.inl (by omega))
  have apart : ∀ (o o' j : Nat) (so s1 : SO) (d d' : Den), o ∉ objs → st.get o = some so → α o = some d → so.heapy = true → (o' < st.length → objs[j]? = some o') → (st.length ≤ o' → j = o' - st.length + objs.length) →
      loc'.get j = some s1 → s1.heapy = true → β1 j = some d' → (so.wr = true ∨ s1.wr = true) → d.blk ≠ d'.blk := by
    intro o o' j so s1 d d' hno hso hd hh h1 h2 hj hh1 hd' hw
    rcases place o' j s1 d' h1 h2 hj hh1 hd' with ⟨s0, x1, x2, x3, x4, x5⟩ | hb | ⟨p, s0, e, x1, x2, x3, x4, x5⟩
    · have hne : o ≠ o' := fun e => hno (e ▸ x1)
      rcases hw with hw | hw
      · exact hR.sep o o' so s0 d d' hne hso x2 hd x3 hh x4 hw
      · exact (hR.sep o' o s0 so d' d (fun e => hne e.symm) x2 hso x3 hd x4 hh (x5.trans hw)).symm
    · obtain ⟨d0, y1, y2⟩ := hR.good o so hso
      rw [hd] at y1; cases y1
      have := y2.lt hh
      omega
    · have hne : o ≠ p := fun e => hno (e ▸ x1)
      rw [← x5]
      exact (hR.sep p o s0 so e d (fun e => hne e.symm) x2 hso x3 hd (SO.wr_heapy x4) hh x4).symm
  refine ⟨α2, hf, ⟨⟨?_, ?_, ?_, ?_⟩, ?_, ?_, ?_, ?_, ?_, ?_, hto.size, hto.tape, hto.os, hto.output⟩⟩
  · intro o so ho
    rcases key o so ho with ⟨h1, h2, h3⟩ | ⟨j, s1, h1, h2, h3, h4, h5, h6, h7⟩
    · obtain ⟨d, x1, x2⟩ := hR.good o so h3
      refine ⟨d, hle _ _ x1, x2.congr hle (fun hh => hto.kept _ (x2.lt hh) fun hwr => ?_) hto.size⟩
      obtain ⟨p, s0, e, y1, y2, y3, y4, y5⟩ := wrOld _ hwr
      exact hR.sep p o s0 so e d (fun e => h2 (e ▸ y1)) y2 h3 y3 x1 (SO.wr_heapy y4) hh y4 y5
    · obtain ⟨d, x1, x2⟩ := hto.rep.good j s1 h3
      exact ⟨d, h6.trans x1, h7 _ _ x2⟩
  · intro o o' so so' d d' hne ho ho' hd hd' hh hh' hw
    rcases key o so ho with ⟨h1, h2, h3⟩ | ⟨j, s1, h1, h2, h3, h4, h5, h6, h7⟩ <;> rcases key o' so' ho' with ⟨l1, l2, l3⟩ | ⟨j', s1', l1, l2, l3, l4, l5, l6, l7⟩
    · simp only [α2, h1, l1, if_true] at hd hd'
      exact hR.sep o o' so so' d d' hne h3 l3 hd hd' hh hh' hw
    · simp only [α2, h1, if_true] at hd
      exact apart o o' j' so s1' d d' h2 h3 hd hh l1 l2 l3 (l4.trans hh') (l6 ▸ hd') (.inl hw)
    · simp only [α2, l1, if_true] at hd'
      exact (apart o' o j so' s1 d' d l2 l3 hd' hh' h1 h2 h3 (h4.trans hh) (h6 ▸ hd) (.inr (h5.trans hw))).symm
    · have hjj : j ≠ j' := by
        rintro rfl
        by_cases a1 : o < st.length <;> by_cases a2 : o' < st.length
        · have e1 := h1 a1
          rw [l1 a2] at e1
          cases e1; exact hne rfl
        · have e1 := hjm _ _ (h1 a1)
          have e2 := l2 (by omega)
          omega
        · have e1 := hjm _ _ (l1 a2)
          have e2 := h2 (by omega)
          omega
        · have e1 := h2 (by omega)
          have e2 := l2 (by omega)
          omega
      exact hto.rep.sep j j' s1 s1' d d' hjj h3 l3 (h6 ▸ hd) (l6 ▸ hd') (h4.trans hh) (l4.trans hh') (h5.trans hw)
  · intro o ho
    simp only [List.length_append, (putBack_get (objs := objs) (loc := loc2) (st := st) (i := 0) (o := 0)).1, dropL_eq, List.length_drop] at ho
    simp only [α2]
    rw [if_neg (by omega)]
    exact hto.rep.none _ (by omega)
  · intro o d hd
    simp only [α2] at hd
    split at hd
    · exact hR.cell o d hd
    · exact hto.rep.cell _ d hd
  · intro o ho; simp only [α2, ho, if_true]
  · simp only [List.length_append, (putBack_get (objs := objs) (loc := loc2) (st := st) (i := 0) (o := 0)).1]; omega
  · intro o so ho hs
    rcases key o so hs with ⟨h1, h2, h3⟩ | ⟨j, s1, h1, h2, h3, h4, h5, h6, h7⟩
    · exact ⟨so, h3, rfl, rfl⟩
    · have hjo := h1 ho
      obtain ⟨s, x1, x2, x3⟩ := hto.old j s1 (by rw [hl]; exact hjm _ _ hjo) h3
      obtain ⟨o2, s0, y1, y2, y3, y4⟩ := locOld j s x1
      rw [hjo] at y1; cases y1
      exact ⟨s0, y2, y3.trans (x2.trans h4), y4.trans (x3.trans h5)⟩
  · intro o so ho hs hh
    rcases key o so hs with ⟨h1, _⟩ | ⟨j, s1, h1, h2, h3, h4, h5, h6, h7⟩
    · omega
    · rw [← h5]; exact hto.fresh j s1 (by rw [hl, h2 ho]; omega) h3 (h4.trans hh)
  · rintro b hb ⟨o, so, d, x1, x2, x3, x4⟩
    rcases key o so x1 with ⟨h1, h2, h3⟩ | ⟨j, s1, h1, h2, h3, h4, h5, h6, h7⟩
    · simp only [α2, h1, if_true] at x2
      exact ⟨o, so, d, h3, x2, x3, x4⟩
    · obtain ⟨p, s0, e, y1, y2, y3, y4, y5⟩ := wrOld b (hto.wrs b hb ⟨j, s1, d, h3, h6 ▸ x2, h5.trans x3, x4⟩)
      exact ⟨p, s0, e, y2, y3, y4, y5⟩
  · intro b hb hn
    refine hto.kept b hb fun hwr => hn ?_
    obtain ⟨p, s0, e, y1, y2, y3, y4, y5⟩ := wrOld b hwr
    exact ⟨p, s0, e, y2, y3, y4, y5⟩

/-- The part itself. -/
theorem part_R {α : Al} {st loc : St} {w : World} {objs : List Nat} (hR : R α st w) (hnd : objs.Nodup)
    (hloc : mapO (OO.ren (ren 0 objs)) (objs.map st.get) = some loc) : R (α.ren 0 objs) loc w := by
  obtain ⟨hl, hg⟩ := mapO_get hloc
  simp only [List.length_map] at hl
  have key : ∀ (j : Nat) (s : SO), loc.get j = some s → ∃ o s0, objs[j]? = some o ∧ st.get o = some s0 ∧ s0.heapy = s.heapy ∧ s0.wr = s.wr ∧ (α.ren 0 objs) j = α o ∧ ∀ d, Good α w d s0 → Good (α.ren 0 objs) w d s := by
    intro j s hs
    have hj := St.get_lt hs
    have hs' : loc[j]? = some (some s) := by
      rw [St.get_eq, List.getElem?_eq_getElem hj] at hs; rw [List.getElem?_eq_getElem hj]; simpa using hs
    obtain ⟨x, hx, hr⟩ := hg j _ hs'
    simp only [List.getElem?_map, Option.map_eq_some_iff] at hx
    obtain ⟨o, ho, hx⟩ := hx
    rcases OO.ren_spec hr with ⟨_, e⟩ | ⟨so, so2, e1, e2, e3, e4, e5⟩
    · cases e
    · cases e2; exact ⟨o, so, ho, by rw [hx, e1], e3, e4, by simp [Al.ren, ho], fun d hg => e5 α _ (fun _ _ => ren_al) w d hg⟩
  refine ⟨?_, ?_, ?_, ?_⟩
  · intro j s hs
    obtain ⟨o, s0, x1, x2, x3, x4, x5, x6⟩ := key j s hs
    obtain ⟨d, y1, y2⟩ := hR.good o s0 x2
    exact ⟨d, x5.trans y1, x6 d y2⟩
  · intro j j' s s' d d' hne hs hs' hd hd' hh hh' hw
    obtain ⟨o, s0, x1, x2, x3, x4, x5, x6⟩ := key j s hs
    obtain ⟨o', s0', y1, y2, y3, y4, y5, y6⟩ := key j' s' hs'
    have : o ≠ o' := by
      rintro rfl
      obtain ⟨i1, e1⟩ := List.getElem?_eq_some_iff.1 x1
      obtain ⟨i2, e2⟩ := List.getElem?_eq_some_iff.1 y1
      exact hne ((List.getElem_inj hnd).1 (e1.trans e2.symm))
    exact hR.sep o o' s0 s0' d d' this x2 y2 (x5 ▸ hd) (y5 ▸ hd') (x3.trans hh) (y3.trans hh') (x4.trans hw)
  · intro j hj
    simp only [Al.ren]
    rw [if_neg (by omega), List.getElem?_eq_none (by omega)]
  · intro j d hd
    simp only [Al.ren] at hd
    split at hd
    · exact hR.cell j d hd
    · split at hd
      · rename_i q _; exact hR.cell q d hd
      · cases hd

end Go.Ev

/- THE ENGINE, part 23: calls and code, sound. -/
namespace Go.Ev
open Go
variable {P : Program}

theorem frame0_ok {α : Al} {args : List SA} {vals : List Value} {n : Nat} (h : RepsA α args vals) : FrOk α (frame0 n args) (vals.toArray ++ Array.replicate (n - vals.toArray.size) undef) := by
  have hl := h.length
  refine ⟨by simp [frame0, hl], fun t sv ht => ?_⟩
  rw [Fr.get_eq] at ht
  unfold frame0 at ht
  by_cases c : t < args.length
  · rw [List.getElem?_append_left (by simpa using c)] at ht
    simp only [List.getElem?_map, List.getElem?_eq_getElem c, Option.map_some, Option.getD_some, Option.some.injEq] at ht
    subst ht
    obtain ⟨v, h1, h2⟩ := h.get (List.getElem?_eq_getElem c)
    refine ⟨v, ?_, h2⟩
    rw [Array.getElem?_append_left (by simp; omega)]
    simpa using h1
  · rw [List.getElem?_append_right (by simp; omega)] at ht
    simp only [repL_eq, lenL_eq, List.length_map, List.getElem?_replicate] at ht
    split at ht
    · rename_i hlt
      simp at ht
      subst ht
      refine ⟨undef, ?_, ⟨[], trivial, rfl⟩⟩
      rw [Array.getElem?_append_right (by simp; omega), Array.getElem?_replicate]
      rw [if_pos (by simp; omega)]
    · simp at ht

/-- What a function hands back. -/
def resM (tmps : Array Value) (r : ResultVar) : Sem Value := match r with
  | .tmp t => pure (tmps.getD t undef)
  | .cell a t => do loadVar t (← asAddr (tmps.getD a undef))

theorem evResults_sound {α : Al} {st : St} {w : World} {fr : Fr} {tmps : Array Value} (hR : R α st w) (hf : FrOk α fr tmps) : ∀ {rs : List ResultVar} {k : List SA → Prop}, evResults P st fr rs k →
    ∃ l vs, k l ∧ RepsA α l vs ∧ (rs.mapM (resM tmps)).run P w = .ok vs w
  | [], k, h => ⟨[], [], h, trivial, by simp⟩
  | .tmp t :: r, k, h => by
    simp only [evResults] at h
    split at h
    · rename_i a ha
      obtain ⟨l, vs, h1, h2, h3⟩ := evResults_sound hR hf h
      obtain ⟨v, x1, x2⟩ := hf.2 t _ ha
      refine ⟨a :: l, v :: vs, h1, ⟨x2, h2⟩, ?_⟩
      simp [List.mapM_cons, resM, h3, x1]
    · exact h.elim
  | .cell t T :: r, k, h => by
    simp only [evResults] at h
    split at h
    · rename_i a ha
      obtain ⟨v, x1, x2⟩ := hf.2 t _ ha
      obtain ⟨sv, u, y1, y2, y3⟩ := evLoad_sound hR x2 h
      split at y3
      · rename_i b
        obtain ⟨l, vs, h1, h2, h3⟩ := evResults_sound hR hf y3
        refine ⟨b :: l, u :: vs, h1, ⟨y2, h2⟩, ?_⟩
        have hload : (do loadVar T (← asAddr v) : Sem Value).run P w = .ok u w := by
          unfold Instr.loadAt at y1
          cases v <;> first | (simp [Instr.sureAddr, stuck] at y1; done) | skip
          rename_i p
          cases p with
          | none => simp [Instr.sureAddr, stuck] at y1
          | some p => simpa [Instr.sureAddr, asAddr] using y1
        simp only [List.mapM_cons, resM, Sem.run_bind, x1, Array.getD_eq_getD_getElem?, Option.getD_some]
        simp only [Sem.run_bind] at hload
        rw [hload]
        simp [h3]
      · exact y3.elim
    · exact h.elim

theorem results_run {fn : Func} {tmps : Array Value} {vs : List Value} {w : World} (h : (fn.results.toList.mapM (resM tmps)).run P w = .ok vs w) :
    (results fn tmps).run P w = .ok (if h : vs.toArray.size = 1 then vs.toArray[0] else .tuple vs.toArray) w := by
  have : (fn.results.mapM (resM tmps)).run P w = .ok vs.toArray w := by
    rw [Array.mapM_eq_mapM_toList]
    simp only [Sem.run_map, h, Result.andThen_ok]
  have e : results fn tmps = (do let vs ← fn.results.mapM (resM tmps); pure (if h : vs.size = 1 then vs[0] else .tuple vs)) := by
    unfold results
    congr 1
  rw [e, Sem.run_bind, this]
  rfl

theorem resultV_rep {α : Al} {l : List SA} {vs : List Value} (h : RepsA α l vs) : SV.rep α (resultV l) (if h : vs.toArray.size = 1 then vs.toArray[0] else .tuple vs.toArray) := by
  match l, vs, h with
  | [], [], _ => exact ⟨[], trivial, rfl⟩
  | [a], [v], h => exact h.1
  | a :: b :: r, v :: u :: us, h =>
    refine ⟨v :: u :: us, h, ?_⟩
    rw [dif_neg (by simp)]
  | [a], [], h => exact h.elim
  | [a], v :: u :: us, h => exact h.2.elim
  | a :: b :: r, [v], h => exact h.2.elim

/-- The marks of the loops over functions that an activation bears: blocks laid since it began, with no calls in them, that nobody else has. -/
def MarksOk (w0 : World) (α : Al) (st : St) (w : World) (ds : List Deferred) : Prop :=
  ∃ ms : List Nat, ms.Nodup ∧ ds = ms.map (fun b => ({ target := .collected b, args := #[] } : Deferred)) ∧
    ∀ b ∈ ms, w0.heap.size ≤ b ∧ w.heap[b]? = some (.deferred (some [])) ∧ ∀ o so d, st.get o = some so → α o = some d → so.heapy = true → d.blk ≠ b
theorem MarksOk.nil (w0 : World) (α : Al) (st : St) (w : World) : MarksOk w0 α st w [] := ⟨[], List.nodup_nil, rfl, fun _ h => by cases h⟩
theorem mark_apart {α α' : Al} {st st' : St} {w w' : World} (h : To α st w α' st' w') {b : Nat} (hb : b < w.heap.size) (hn : ∀ o so d, st.get o = some so → α o = some d → so.heapy = true → d.blk ≠ b) :
    ∀ o so d, st'.get o = some so → α' o = some d → so.heapy = true → d.blk ≠ b := by
  intro o so d ho hd hh he
  by_cases hlt : o < st.length
  · obtain ⟨so0, h1, h2, h3⟩ := h.old o so hlt ho
    exact hn o so0 d h1 (by rw [← h.ext o hlt]; exact hd) (h2.trans hh) he
  · have hw := h.fresh o so (by omega) ho hh
    obtain ⟨o2, so2, d2, y1, y2, y3, y4⟩ := h.wrs b hb ⟨o, so, d, ho, hd, hw, he⟩
    exact hn o2 so2 d2 y1 y2 (SO.wr_heapy y3) y4
theorem MarksOk.to {w0 : World} {α α' : Al} {st st' : St} {w w' : World} {ds : List Deferred} (hm : MarksOk w0 α st w ds) (h : To α st w α' st' w') : MarksOk w0 α' st' w' ds := by
  obtain ⟨ms, h1, h2, h3⟩ := hm
  refine ⟨ms, h1, h2, fun b hb => ?_⟩
  obtain ⟨x1, x2, x3⟩ := h3 b hb
  have hlt : b < w.heap.size := (Array.getElem?_eq_some_iff.1 x2).1
  refine ⟨x1, (h.kept b hlt ?_).trans x2, mark_apart h hlt x3⟩
  rintro ⟨o, so, d, y1, y2, y3, y4⟩
  exact x3 o so d y1 y2 (SO.wr_heapy y3) y4
theorem MarksOk.src {w0 w : World} {α α' : Al} {st st' : St} {ds : List Deferred} (hm : MarksOk w0 α st w ds)
    (h : ∀ o so d, st'.get o = some so → α' o = some d → ∃ p so0, st.get p = some so0 ∧ α p = some d ∧ so0.heapy = so.heapy) : MarksOk w0 α' st' w ds := by
  obtain ⟨ms, h1, h2, h3⟩ := hm
  refine ⟨ms, h1, h2, fun b hb => ⟨(h3 b hb).1, (h3 b hb).2.1, fun o so d ho hd hh => ?_⟩⟩
  obtain ⟨p, so0, x1, x2, x3⟩ := h o so d ho hd
  exact (h3 b hb).2.2 p so0 d x1 x2 (x3.trans hh)
/-- A block of one's own that nobody has, turned. -/
theorem To.shut {α α' : Al} {st st' : St} {w w' : World} (h : To α st w α' st' w') {b : Nat} {o : Obj} (hb : w.heap.size ≤ b) (hn : ∀ o so d, st'.get o = some so → α' o = some d → so.heapy = true → d.blk ≠ b) :
    To α st w α' st' (w'.putObj b o) := by
  have hk : ∀ k, k ≠ b → (w'.putObj b o).heap[k]? = w'.heap[k]? := fun k hk => World.putObj_heap_other hk
  refine ⟨⟨fun x so hx => ?_, h.rep.sep, h.rep.none, h.rep.cell⟩, h.ext, h.len, h.old, h.fresh, h.wrs, fun k hkl hkn => ?_, by rw [World.putObj_size]; exact h.size, h.tape, h.os, h.output⟩
  · obtain ⟨d, h1, h2⟩ := h.rep.good x so hx
    exact ⟨d, h1, h2.congr (Al.le.refl _) (fun hh => hk _ (hn x so d hx h1 hh)) (by rw [World.putObj_size]; exact Nat.le_refl _)⟩
  · rw [hk k (by omega)]; exact h.kept k hkl hkn

/-- What is asked of any way's end, off the state in which the function began. -/
def AfterX (α : Al) (st : St) (w : World) (k : Exit → Fr → St → Prop) (N : Exit → Act → World → Prop) : Prop :=
  ∀ ex fr' st' α' a' w', k ex fr' st' → FrOk α' fr' a'.tmps → To α st w α' st' w' → MarksOk w α' st' w' a'.defers → N ex a' w'

/-- A summary of a function: it says just one thing, and that thing is so. -/
def SumOk (P : Program) (g : FuncId) (s : List SA → St → (SV → St → Prop) → Prop) : Prop :=
  ∀ args st, Lin (s args st) ∧ ∀ k, s args st k → ∀ α w vals, R α st w → RepsA α args vals → CallsIn Fence.wide 0 P g vals.toArray w (CallPost α st w k)

theorem onPart_sound {g : FuncId} {s : List SA → St → (SV → St → Prop) → Prop} (hs : SumOk P g s) {args : List SA} {st : St} {k : SV → St → Prop} (h : onPart s args st k)
    {α : Al} {w : World} {vals : List Value} (hR : R α st w) (ha : RepsA α args vals) : CallsIn Fence.wide 0 P g vals.toArray w (CallPost α st w k) := by
  unfold onPart at h
  obtain ⟨hnd, hlt⟩ := reachAll_spec (st := st) (n := 10000) (work := refsA args) (acc := []) (by simp) (by simp)
  generalize reachAll st 10000 (refsA args) [] = objs at h hnd hlt
  simp only [lenL_eq] at h
  split at h
  · rename_i args' loc h1 h2
    refine ((hs args' loc).2 _ h _ w vals (part_R hR hnd h2) (RepsA.ren (fun _ _ => ren_al) h1 ha)).mono fun e w' ⟨v, loc', β1, val, he, hv, hk, hto⟩ => ?_
    dsimp only at hk
    split at hk
    · rename_i v' loc2 h3 h4
      obtain ⟨α2, x1, x2⟩ := part_sound hR hnd hlt h2 hto h4
      exact ⟨v', _, α2, val, he, SV.ren_rep x1 h3 hv, hk, x2⟩
    · exact hk.elim
  · exact h.elim

/-- A context whose summaries hold. -/
structure CxOk (P : Program) (cx : Cx) : Prop where
  prog : cx.P = P
  names : NamesOk P
  mixed : P.follows .mixedOrders = true
  sum : ∀ g s, cx.sum g = some s → SumOk P g s

def RunOk (P : Program) (run : RunT) : Prop :=
  ∀ {f : FuncId} {c : Code} {fr : Fr} {st : St} {k : Exit → Fr → St → Prop} {r : Option Nat} {Q : Exit → Act → World → Prop} {α0 α : Al} {st0 : St} {a : Act} {w0 w : World},
    (f < big → r = none) → To α0 st0 w0 α st w → FrOk α fr a.tmps → MarksOk w0 α st w a.defers → run st0.length f c fr st k → AfterX α0 st0 w0 k Q → c.wpIn (Wide r) 0 P Q a w

/-- Marks let go, one by one. -/
theorem leaves_marks {fn : Func} {tmps : Array Value} {R : Ending → World → Prop} {w0 : World} {α0 α : Al} {st0 st : St} : ∀ (ms : List Nat) (w : World), ms.Nodup → To α0 st0 w0 α st w →
    (∀ b ∈ ms, w0.heap.size ≤ b ∧ w.heap[b]? = some (.deferred (some [])) ∧ ∀ o so d, st.get o = some so → α o = some d → so.heapy = true → d.blk ≠ b) →
    (∀ w', To α0 st0 w0 α st w' → ∃ v, (results fn tmps).run P w' = .ok v w' ∧ R (.returned v) w') →
    LeavesInM Fence.wide 0 P fn tmps R (ms.map fun b => ({ target := .collected b, args := #[] } : Deferred)) .returning w
  | [], w, _, hto, _, hk => by
    exact hk w hto
  | b :: r, w, hnd, hto, hm, hk => by
    obtain ⟨x1, x2, x3⟩ := hm b (by simp)
    rw [List.nodup_cons] at hnd
    refine ⟨by simp, .inl ⟨b, _, rfl, run_takeDeferred x2, ?_⟩⟩
    refine leaves_marks r _ hnd.2 (hto.shut x1 x3) (fun b' hb' => ?_) hk
    obtain ⟨y1, y2, y3⟩ := hm b' (by simp [hb'])
    exact ⟨y1, by rw [World.putObj_heap_other (by rintro rfl; exact hnd.1 hb')]; exact y2, y3⟩

theorem setPs_ok {α : Al} : ∀ {ps : List Nat} {args : List SA} {vals : List Value} {fr fr' : Fr} {tmps : Array Value}, setPs fr ps args = some fr' → RepsA α args vals → FrOk α fr tmps →
    ps.length = vals.length ∧ FrOk α fr' ((ps.zip vals).foldl (fun tmps (t, a) => tmps.setIfInBounds t a) tmps)
  | [], [], vals, fr, fr', tmps, h, ha, hf => by
    cases vals with
    | nil => simp [setPs] at h; subst h; exact ⟨rfl, hf⟩
    | cons _ _ => exact ha.elim
  | p :: ps, x :: xs, vals, fr, fr', tmps, h, ha, hf => by
    cases vals with
    | nil => exact ha.elim
    | cons v vs =>
      simp only [setPs] at h
      have := setPs_ok h ha.2 (tmps := tmps.setIfInBounds p v) (by
        have := FrOk.put (a := ⟨tmps, []⟩) (d := some p) (sv := .sa x) hf ha.1
        simpa [Fr.put, Act.put] using this)
      exact ⟨by simp [this.1], this.2⟩
  | [], _ :: _, vals, fr, fr', tmps, h, ha, hf => by simp [setPs] at h
  | _ :: _, [], vals, fr, fr', tmps, h, ha, hf => by simp [setPs] at h

/-- A loop's record, turned. -/
theorem To.record {α : Al} {st : St} {w : World} (hR : R α st w) {q f : Nat} {fr : Fr} {ps : List Nat} {a b : Code} {s s' : Nat} {j j' : Option Code} {d : Den} {l : Loop}
    (hq : st.get q = some (.lp true f fr ps a b s j)) (hd : α q = some d) (hl : w.heap[d.blk]? = some (.loop l)) :
    To α st w α (st.put q (some (.lp true f fr ps a b s' j'))) (w.putObj d.blk (.loop { l with state := stOf s', pending := j' })) := by
  obtain ⟨d', hd', hval, l', hl', h1, h2, h3, h4, h5, h6⟩ := hR.good q _ hq
  rw [hd] at hd'; cases hd'
  rw [hl] at hl'; cases hl'
  refine To.upd hR hq hd rfl rfl World.putObj_size (fun b hb => World.putObj_heap_other hb) rfl rfl rfl ⟨hval, _, World.putObj_heap_same (Array.getElem?_eq_some_iff.1 hl).1, h1, h2, h3, h4, rfl, rfl⟩

/-- A round, sound. -/
theorem evRound_ok {run : RunT} (hr : RunOk P run) {q : Nat} {args : List SA} {st : St} {k : SV → St → Prop} (h : evRound run q args st k) {α : Al} {w : World} {vals : List Value} (r : Option Nat)
    (hR : R α st w) (ha : RepsA α args vals) : ∃ d l, α q = some d ∧ d.val = .func (.yield d.blk) #[] #[] ∧ w.heap[d.blk]? = some (.loop l) ∧
    vals.length = l.params.size ∧
    RoundIn (Wide r) 0 P d.blk l.fn ((l.params.zip vals.toArray).foldl (fun tmps (t, a) => tmps.setIfInBounds t a) l.tmps) l.assign l.body w (CallPost α st w k) := by
  unfold evRound at h
  split at h
  · rename_i f fr ps a b j hq
    obtain ⟨fr1, hps, h⟩ := opt_iff.1 h
    obtain ⟨d, hd, hval, l, hl, h1, h2, h3, h4, h5, h6⟩ := hR.good q _ hq
    obtain ⟨k1, k2⟩ := setPs_ok hps ha h1
    refine ⟨d, l, hd, hval, hl, by rw [h2]; simp [k1], ?_⟩
    rw [h2, h3, h4]
    have hfold : (ps.toArray.zip vals.toArray).foldl (fun tmps (t, a) => tmps.setIfInBounds t a) l.tmps = (ps.zip vals).foldl (fun tmps (t, a) => tmps.setIfInBounds t a) l.tmps := by
      rw [← Array.foldl_toList]; simp
    rw [hfold]
    refine roundIn_of_wpIn trivial ?_
    refine hr (r := some d.blk) (fun hb => absurd hb (Nat.not_lt.2 (Nat.le_add_left _ _))) (To.refl hR) k2 (MarksOk.nil _ _ _ _) (by rw [lenL_eq] at h; exact h) ?_
    intro ex fr' st' α' a' w' hk hf' hto hm
    unfold kAssign at hk
    split at hk
    · split at hk
      · rename_i f2 fr2 ps2 a2 b2 j2 hq2
        obtain ⟨d2, hd2, hval2, l2, hl2, g1, g2, g3, g4, g5, g6⟩ := hto.rep.good q _ hq2
        have hqlt := St.get_lt hq
        rw [hto.ext q hqlt, hd] at hd2; cases hd2
        have hdd : α' q = some d := by rw [hto.ext q hqlt]; exact hd
        subst g6
        refine ⟨_, run_beginRound hl2 g5, ?_⟩
        have hrec := To.record (s' := 1) (j' := l2.pending) hto.rep hq2 hdd hl2
        have hto2 := hto.trans hrec
        refine hr (r := some d.blk) (fun hb => absurd hb (Nat.not_lt.2 (Nat.le_add_left _ _))) hto2 (hf'.mono (hrec.le hto.rep)) (hm.to hrec) hk ?_
        intro ex fr3 st3 α3 a3 w3 hk3 hf3 hto3 hm3
        have hd3 : α3 q = some d := by rw [hto3.ext q hqlt]; exact hd
        have fin : ∀ jm : Option Code, endRound q st.length jm st3 k → ∃ v w4, (Instr.endRound d.blk jm).run P w3 = .ok v w4 ∧ CallPost α st w k (.returned v) w4 := by
          intro jm he
          unfold endRound at he
          split at he
          · rename_i f4 fr4 ps4 a4 b4 j4 hq4
            obtain ⟨d4, hd4, hval4, l4, hl4, _⟩ := hto3.rep.good q _ hq4
            rw [hd3] at hd4; cases hd4
            have hrec4 := To.record (s' := stAfter (noneB jm)) (j' := jm) hto3.rep hq4 hd3 hl4
            have he2 := run_endRound (P := P) jm hl4
            have hst : (if jm.isNone then LoopState.ready else LoopState.done) = stOf (stAfter (noneB jm)) := by cases jm <;> rfl
            have hbn : jm.isNone = noneB jm := by cases jm <;> rfl
            rw [hst, hbn] at he2
            obtain ⟨α5, v', st5, x1, x2, x3⟩ := collect_sound (hto3.trans hrec4) (v := .sa (.one (.raw (.bool (noneB jm))))) (val := .bool (noneB jm)) rfl he
            exact ⟨_, _, he2, v', st5, α5, _, rfl, x2, x1, x3⟩
          · exact he.elim
        cases ex with
        | normal => exact fin none hk3
        | ret => exact fin (some .ret) hk3
        | exit id => exact fin (some (.exit id)) hk3
        | goto _ => exact hk3.elim
        | panic _ => exact hk3.elim
        | outgrown => exact hk3.elim
      · exact hk.elim
    · exact hk.elim
  · exact h.elim

theorem evCall_ok {cx : Cx} (hx : CxOk P cx) {run : RunT} (hr : RunOk P run) : CallOk P (evCall cx run) := by
  refine ⟨fun g args st k hg h => ?_, fun q args st k h α w vals r hR ha => ?_⟩
  · unfold evCall at h
    rw [show Nat.blt g big = true from Nat.ble_eq_true_of_le hg] at h
    dsimp only at h
    split at h
    · rename_i fn hfn
      split at h
      · rename_i c hc
        rw [hx.prog] at hfn h
        refine ⟨⟨fn, c, hfn, hc⟩, fun α w vals hR ha => ?_⟩
        split at h
        · rename_i s hs
          exact onPart_sound (hx.sum g s hs) h hR ha
        · rw [lenL_eq] at h
          refine callsIn_of_wp_marks hfn hc trivial ?_
          refine hr (r := none) (a := { tmps := vals.toArray ++ Array.replicate (fn.ntmps - vals.toArray.size) undef, defers := [] }) (fun _ => rfl) (To.refl hR) (frame0_ok ha) (MarksOk.nil _ _ _ _) h fun ex fr' st' α' a' w' hk hf hto hm => ?_
          have fin : evResults P st' fr' fn.results.toList (fun l => collect st.length (resultV l) st' k) → LeavesInM Fence.wide 0 P fn a'.tmps (CallPost α st w k) a'.defers .returning w' := by
            intro h
            obtain ⟨ms, m1, m2, m3⟩ := hm
            rw [m2]
            refine leaves_marks ms w' m1 hto m3 fun w'' hto' => ?_
            obtain ⟨l, vs, h1, h2, h3⟩ := evResults_sound hto'.rep hf h
            obtain ⟨α2, v', st2, x1, x2, x3⟩ := collect_sound hto' (resultV_rep h2) h1
            exact ⟨_, results_run h3, v', st2, α2, _, rfl, x2, x1, x3⟩
          cases ex with
          | normal => exact fin hk
          | ret => exact fin hk
          | exit _ => exact hk.elim
          | goto _ => exact hk.elim
          | panic _ => exact hk.elim
          | outgrown => exact hk.elim
      · exact h.elim
    · exact h.elim
  · unfold evCall at h
    rw [show Nat.blt (big + q) big = false from Bool.eq_false_iff.2 fun hh => by have := Nat.le_of_ble_eq_true hh; omega] at h
    dsimp only at h
    rw [Nat.add_sub_cancel_left] at h
    exact evRound_ok hr h r hR ha

end Go.Ev

/- THE ENGINE, part 24: an evaluation hands on one thing alone, and more fuel does no harm; code, sound. -/
namespace Go.Ev
open Go
variable {P : Program}

/-! ### one thing alone -/
def LinG {β : Type} (f : (β → Prop) → Prop) : Prop := ∀ k, f k → ∃ b, k b ∧ ∀ k2 : β → Prop, k2 b → f k2
def FLin (f : (Fr → St → Prop) → Prop) : Prop := ∀ k, f k → ∃ v s, k v s ∧ ∀ k2 : Fr → St → Prop, k2 v s → f k2
def XLin (f : (Exit → Fr → St → Prop) → Prop) : Prop := ∀ k, f k → ∃ e v s, k e v s ∧ ∀ k2 : Exit → Fr → St → Prop, k2 e v s → f k2

theorem evGuard_or {ops : List Oper} {o : Oper} {fr : Fr} {run skip : Fr → Prop} (h : evGuard ops o fr run skip) :
    (∃ fr', run fr' ∧ ∀ run2 skip2 : Fr → Prop, run2 fr' → evGuard ops o fr run2 skip2) ∨ (∃ fr', skip fr' ∧ ∀ run2 skip2 : Fr → Prop, skip2 fr' → evGuard ops o fr run2 skip2) := by
  unfold evGuard at h ⊢
  split at h
  · exact .inl ⟨_, h, fun _ _ x => x⟩
  · split at h
    · exact .inr ⟨_, h, fun _ _ x => x⟩
    · split at h
      · exact .inr ⟨_, h, fun _ _ x => x⟩
      · split at h
        · split at h
          · rcases branch_or h with ⟨e, h⟩ | ⟨e, h⟩
            · exact .inl ⟨_, h, fun _ _ x => branch_iff.2 (.inl ⟨e, x⟩)⟩
            · exact .inr ⟨_, h, fun _ _ x => branch_iff.2 (.inr ⟨e, x⟩)⟩
          · rcases branch_or h with ⟨e, h⟩ | ⟨e, h⟩
            · exact .inr ⟨_, h, fun _ _ x => branch_iff.2 (.inl ⟨e, x⟩)⟩
            · exact .inl ⟨_, h, fun _ _ x => branch_iff.2 (.inr ⟨e, x⟩)⟩
        · exact .inr ⟨_, h, fun _ _ x => x⟩
        · exact h.elim

theorem lin_ops {cx : Cx} {call : CallT} (hc : CallLin call) {all : List Oper} : ∀ {rest : List Oper} {fr : Fr} {st : St}, FLin (evOps cx call all rest fr st)
  | [], fr, st, k, h => ⟨fr, st, h, fun _ h => h⟩
  | o :: r, fr, st, k, h => by
    simp only [evOps, forceV_eq] at h ⊢
    rcases evGuard_or h with ⟨fr', h, hg⟩ | ⟨fr', h, hg⟩
    · obtain ⟨v, s, h1, h2⟩ := lin_op hc _ h
      obtain ⟨v', s', h3, h4⟩ := lin_ops hc _ h1
      exact ⟨v', s', h3, fun k2 hk => hg _ _ (h2 _ (h4 _ hk))⟩
    · obtain ⟨v', s', h3, h4⟩ := lin_ops hc _ h
      exact ⟨v', s', h3, fun k2 hk => hg _ _ (h4 _ hk)⟩

theorem lin_draw {cx : Cx} {call : CallT} (hc : CallLin call) {all : List Oper} : ∀ {rest : List Oper} {fr : Fr} {st : St} {log : List Rec}, FLin (evDraw cx call all rest fr st log)
  | [], fr, st, log, k, h => by
    simp only [evDraw, forceV_eq] at h ⊢
    split at h
    · exact ⟨fr, st, h, fun _ h => h⟩
    · exact h.elim
  | o :: r, fr, st, log, k, h => by
    simp only [evDraw, forceV_eq] at h ⊢
    rcases evGuard_or h with ⟨fr', h, hg⟩ | ⟨fr', h, hg⟩
    · split at h
      · rename_i hb
        obtain ⟨v, s, h1, h2⟩ := lin_op hc _ h
        obtain ⟨v', s', h3, h4⟩ := lin_draw hc _ h1
        refine ⟨v', s', h3, fun k2 hk => hg _ _ ?_⟩
        rw [hb]
        exact h2 _ (h4 _ hk)
      · exact h.elim
    · obtain ⟨v', s', h3, h4⟩ := lin_draw hc _ h
      exact ⟨v', s', h3, fun k2 hk => hg _ _ (h4 _ hk)⟩

theorem lin_results {st : St} {fr : Fr} : ∀ {rs : List ResultVar}, LinG (evResults P st fr rs)
  | [], k, h => ⟨[], h, fun _ h => h⟩
  | .tmp t :: r, k, h => by
    simp only [evResults] at h ⊢
    split at h
    · obtain ⟨l, h1, h2⟩ := lin_results _ h
      exact ⟨_, h1, fun k2 hk => h2 _ hk⟩
    · exact h.elim
  | .cell t T :: r, k, h => by
    simp only [evResults] at h ⊢
    split at h
    · obtain ⟨v, h1, h2⟩ := evLoad_lin h
      split at h1
      · obtain ⟨l, h3, h4⟩ := lin_results _ h1
        exact ⟨_, h3, fun k2 hk => evLoad_mono (fun x hx => by subst hx; exact h4 _ hk) h2⟩
      · exact h1.elim
    · exact h.elim

theorem lin_collect {n0 : Nat} {v : SV} {st : St} : Lin (collect n0 v st) := by
  intro k h
  unfold collect at h ⊢
  split at h
  · exact Lin.ret _ _ k h
  · dsimp only at h ⊢
    split at h
    · exact Lin.ret _ _ k h
    · exact h.elim

theorem step_scopeR {b : Frame} {a : Act} {k : List Item} {cs : List Frame} {w : World} {c : Code} : step P (lone (b.atR a (.code (.scope c) :: k)) cs w) = .next (lone (b.atR a (.code c :: .inScope c :: k)) cs w) :=
  step_lone_go (by simp [stepG, stepG.exec, Frame.atR])
theorem step_inScopeR {b : Frame} {a : Act} {k : List Item} {cs : List Frame} {w : World} {c : Code} : step P (lone (b.atR a (.inScope c :: k)) cs w) = .next (lone (b.atR a k) cs w) :=
  step_lone_go (by simp [stepG, stepG.exec, Frame.atR])
/-- A scope that no jump leaves. -/
theorem wpIn_scope {F : Fence} {n : Nat} {Q : Exit → Act → World → Prop} {a : Act} {w : World} {c : Code} (h : c.wpIn F n P (fun e a w => match e with | .goto _ => False | e => Q e a w) a w) : (Code.scope c).wpIn F n P Q a w := by
  intro b k cs hro hb hr
  have h0 : (lone (b.atR a (.code (.scope c) :: k)) cs w).fenced P F := fenced_calm hb hr rfl
  obtain ⟨e, a₁, w₁, hq, harr⟩ := h b (.inScope c :: k) cs hro hb hr
  cases e with
  | normal => exact ⟨.normal, a₁, w₁, hq, .head h0 step_scopeR (StepsIn.trans harr (.one (fenced_calm hb hr rfl) step_inScopeR))⟩
  | exit id =>
    have hx : exitTo id (.inScope c :: k) = exitTo id k := by simp [exitTo]
    exact ⟨_, a₁, w₁, hq, fun k' hk => .head h0 step_scopeR (harr.1 k' (by rw [hx]; exact hk)),
      fun hr' hk => let ⟨k₁, h1, h2⟩ := harr.2 hr' (by rw [hx]; exact hk); ⟨k₁, h1, .head h0 step_scopeR h2⟩⟩
  | goto l => exact hq.elim
  | ret => exact ⟨_, a₁, w₁, hq, .of_steps (.one h0 step_scopeR) harr⟩
  | panic ch => exact ⟨_, a₁, w₁, hq, .of_steps (.one h0 step_scopeR) harr⟩
  | outgrown => exact ⟨_, a₁, w₁, hq, .of_steps (.one h0 step_scopeR) harr⟩

def RunLin (run : RunT) : Prop := ∀ n0 f c fr st, XLin (run n0 f c fr st)
def SumLin (cx : Cx) : Prop := ∀ g s, cx.sum g = some s → ∀ args st, Lin (s args st)

theorem lin_onPart {s : List SA → St → (SV → St → Prop) → Prop} (hs : ∀ args st, Lin (s args st)) {args : List SA} {st : St} : Lin (onPart s args st) := by
  intro k h
  unfold onPart at h ⊢
  dsimp only at h ⊢
  split at h
  · obtain ⟨v, loc, h1, h2⟩ := hs _ _ _ h
    split at h1
    · rename_i v' loc2 h3 h4
      refine ⟨_, _, h1, fun k2 hk => h2 _ ?_⟩
      rw [h3, h4]
      exact hk
    · exact h1.elim
  · exact h.elim

theorem XLin.ret (e : Exit) (v : Fr) (s : St) : XLin (fun k => k e v s) := fun _ h => ⟨e, v, s, h, fun _ h => h⟩
theorem XLin.branch {b : Bool} {f g : (Exit → Fr → St → Prop) → Prop} (hf : XLin f) (hg : XLin g) : XLin (fun k => Ev.branch b (f k) (g k)) := fun k h => by
  rcases branch_or h with ⟨hb, h⟩ | ⟨hb, h⟩
  · obtain ⟨e, v, s, h1, h2⟩ := hf k h
    exact ⟨e, v, s, h1, fun k2 h => branch_iff.2 (.inl ⟨hb, h2 k2 h⟩)⟩
  · obtain ⟨e, v, s, h1, h2⟩ := hg k h
    exact ⟨e, v, s, h1, fun k2 h => branch_iff.2 (.inr ⟨hb, h2 k2 h⟩)⟩

theorem lin_endRound {q n0 : Nat} {j : Option Code} {st : St} : Lin (endRound q n0 j st) := by
  intro k h
  unfold endRound at h ⊢
  split at h
  · exact lin_collect k h
  · exact h.elim
theorem lin_kRound {q n0 : Nat} {ex : Exit} {fr : Fr} {st : St} : Lin (fun k => kRound q n0 k ex fr st) := by
  intro k h
  cases ex with
  | normal => exact lin_endRound k h
  | ret => exact lin_endRound k h
  | exit id => exact lin_endRound k h
  | goto _ => exact h.elim
  | panic _ => exact h.elim
  | outgrown => exact h.elim
theorem lin_kAssign {run : RunT} (hr : RunLin run) {q n0 f : Nat} {b : Code} {ex : Exit} {fr : Fr} {st : St} : Lin (fun k => kAssign run q n0 f b k ex fr st) := by
  intro k h
  unfold kAssign at h ⊢
  split at h
  · split at h
    · obtain ⟨e2, v2, s2, h1, h2⟩ := hr _ _ _ _ _ _ h
      obtain ⟨v, s, h3, h4⟩ := lin_kRound k h1
      exact ⟨v, s, h3, fun k2 hk => h2 _ (h4 _ hk)⟩
    · exact h.elim
  · exact h.elim
theorem lin_round {run : RunT} (hr : RunLin run) {q : Nat} {args : List SA} {st : St} : Lin (evRound run q args st) := by
  intro k h
  unfold evRound at h ⊢
  split at h
  · obtain ⟨fr1, hp, h⟩ := opt_iff.1 h
    obtain ⟨e2, v2, s2, h1, h2⟩ := hr _ _ _ _ _ _ h
    obtain ⟨v, s, h3, h4⟩ := lin_kAssign hr k h1
    exact ⟨v, s, h3, fun k2 hk => opt_iff.2 ⟨_, hp, h2 _ (h4 _ hk)⟩⟩
  · exact h.elim

theorem lin_call {cx : Cx} (hsum : SumLin cx) {run : RunT} (hr : RunLin run) : CallLin (evCall cx run) := by
  intro g args st k h
  unfold evCall at h ⊢
  split at h
  · exact lin_round hr k h
  split at h
  · split at h
    · rename_i fn _ _ _ _
      split at h
      · rename_i s hs
        exact lin_onPart (hsum g s hs) k h
      obtain ⟨ex, fr, s, h1, h2⟩ := hr _ _ _ _ _ _ h
      have fin : evResults cx.P s fr fn.results.toList (fun l => collect (lenL st) (resultV l) s k) → ∃ v s', k v s' ∧ ∀ k2 : SV → St → Prop, k2 v s' → evResults cx.P s fr fn.results.toList (fun l => collect (lenL st) (resultV l) s k2) := by
        intro h
        obtain ⟨l, h3, h4⟩ := lin_results _ h
        obtain ⟨v, s', h5, h6⟩ := lin_collect _ h3
        exact ⟨v, s', h5, fun k2 hk => h4 _ (h6 _ hk)⟩
      cases ex with
      | normal => obtain ⟨v, s', h3, h4⟩ := fin h1; exact ⟨v, s', h3, fun k2 hk => h2 _ (h4 _ hk)⟩
      | ret => obtain ⟨v, s', h3, h4⟩ := fin h1; exact ⟨v, s', h3, fun k2 hk => h2 _ (h4 _ hk)⟩
      | exit _ => exact h1.elim
      | goto _ => exact h1.elim
      | panic _ => exact h1.elim
      | outgrown => exact h1.elim
    · exact h.elim
  · exact h.elim

theorem lin_head {cx : Cx} {f : FuncId} {c : Code} {n0 : Nat} {fr : Fr} {st : St} {K : Fr → St → Prop} (h : atHead cx f c n0 fr st K) :
    ∃ fr' st', K fr' st' ∧ ∀ K2 : Fr → St → Prop, K2 fr' st' → atHead cx f c n0 fr st K2 := by
  unfold atHead at h ⊢
  split at h
  · split at h
    · unfold forget at h ⊢
      dsimp only at h ⊢
      split at h
      · exact ⟨_, _, h, fun _ h => h⟩
      · exact h.elim
    · exact ⟨_, _, h, fun _ h => h⟩
  · exact ⟨_, _, h, fun _ h => h⟩

theorem ev_succ (cx : Cx) (n : Nat) : ev cx (n + 1) = evStep cx (ev cx n) := rfl

theorem lin_ev {cx : Cx} (hsum : SumLin cx) : ∀ n, RunLin (ev cx n)
  | 0, n0, f, c, fr, st, k, h => h.elim
  | n + 1, n0, f, c, fr, st, k, h => by
    have ih := lin_ev hsum n
    cases c with
    | skip => exact XLin.ret _ _ _ k h
    | label _ => exact XLin.ret _ _ _ k h
    | exit id => exact XLin.ret _ _ _ k h
    | ret => exact XLin.ret _ _ _ k h
    | region id ops draw =>
      cases draw with
      | true =>
        obtain ⟨v, s, h1, h2⟩ := lin_draw (lin_call hsum ih) _ h
        exact ⟨_, v, s, h1, fun k2 hk => h2 _ hk⟩
      | false =>
        obtain ⟨v, s, h1, h2⟩ := lin_ops (lin_call hsum ih) _ h
        exact ⟨_, v, s, h1, fun k2 hk => h2 _ hk⟩
    | seq a b =>
      obtain ⟨ex, v, s, h1, h2⟩ := ih _ _ _ _ _ _ h
      cases ex with
      | normal =>
        obtain ⟨ex', v', s', h3, h4⟩ := ih _ _ _ _ _ _ h1
        exact ⟨ex', v', s', h3, fun k2 hk => h2 _ (h4 _ hk)⟩
      | exit _ => exact ⟨_, v, s, h1, fun k2 hk => h2 _ hk⟩
      | goto _ => exact ⟨_, v, s, h1, fun k2 hk => h2 _ hk⟩
      | ret => exact ⟨_, v, s, h1, fun k2 hk => h2 _ hk⟩
      | panic _ => exact ⟨_, v, s, h1, fun k2 hk => h2 _ hk⟩
      | outgrown => exact ⟨_, v, s, h1, fun k2 hk => h2 _ hk⟩
    | cond o a b =>
      simp only [ev_succ, evStep] at h ⊢
      split at h
      · split at h
        · exact (XLin.branch (ih _ _ _ _ _) (ih _ _ _ _ _)) k h
        · exact h.elim
      · exact (XLin.branch (ih _ _ _ _ _) (ih _ _ _ _ _)) k h
      · exact h.elim
    | block id c =>
      obtain ⟨ex, v, s, h1, h2⟩ := ih _ _ _ _ _ _ h
      cases ex with
      | exit id' =>
        unfold kBlock at h1
        dsimp only at h1
        cases hb : Nat.beq id' id with
        | true => rw [hb] at h1; exact ⟨.normal, v, s, h1, fun k2 hk => h2 _ (by unfold kBlock; dsimp only; rw [hb]; exact hk)⟩
        | false => rw [hb] at h1; exact ⟨.exit id', v, s, h1, fun k2 hk => h2 _ (by unfold kBlock; dsimp only; rw [hb]; exact hk)⟩
      | normal => exact ⟨_, v, s, h1, fun k2 hk => h2 _ hk⟩
      | goto _ => exact ⟨_, v, s, h1, fun k2 hk => h2 _ hk⟩
      | ret => exact ⟨_, v, s, h1, fun k2 hk => h2 _ hk⟩
      | panic _ => exact ⟨_, v, s, h1, fun k2 hk => h2 _ hk⟩
      | outgrown => exact ⟨_, v, s, h1, fun k2 hk => h2 _ hk⟩
    | loop c =>
      obtain ⟨fr0, st0, h, hg⟩ := lin_head h
      obtain ⟨ex, v, s, h1, h2⟩ := ih _ _ _ _ _ _ h
      cases ex with
      | normal =>
        obtain ⟨ex', v', s', h3, h4⟩ := ih _ _ _ _ _ _ h1
        exact ⟨ex', v', s', h3, fun k2 hk => hg _ (h2 _ (h4 _ hk))⟩
      | exit _ => exact ⟨_, v, s, h1, fun k2 hk => hg _ (h2 _ hk)⟩
      | goto _ => exact ⟨_, v, s, h1, fun k2 hk => hg _ (h2 _ hk)⟩
      | ret => exact ⟨_, v, s, h1, fun k2 hk => hg _ (h2 _ hk)⟩
      | panic _ => exact ⟨_, v, s, h1, fun k2 hk => hg _ (h2 _ hk)⟩
      | outgrown => exact ⟨_, v, s, h1, fun k2 hk => hg _ (h2 _ hk)⟩
    | scope c =>
      obtain ⟨ex, v, s, h1, h2⟩ := ih _ _ _ _ _ _ h
      cases ex with
      | goto _ => exact h1.elim
      | normal => exact ⟨_, v, s, h1, fun k2 hk => h2 _ hk⟩
      | exit _ => exact ⟨_, v, s, h1, fun k2 hk => h2 _ hk⟩
      | ret => exact ⟨_, v, s, h1, fun k2 hk => h2 _ hk⟩
      | panic _ => exact ⟨_, v, s, h1, fun k2 hk => h2 _ hk⟩
      | outgrown => exact ⟨_, v, s, h1, fun k2 hk => h2 _ hk⟩
    | rangeFunc g ps a b =>
      simp only [ev_succ, evStep] at h ⊢
      split at h
      · obtain ⟨gv, hgv, h⟩ := opt_iff.1 h
        obtain ⟨v, s, h1, h2⟩ := lin_iter (lin_call hsum ih) _ h
        unfold kRange at h1
        split at h1
        · rename_i f' fr' ps' a' b' s' j hq
          split at h1
          · exact h1.elim
          · rename_i hb
            split at h1
            · refine ⟨_, _, _, h1, fun k2 hk => opt_iff.2 ⟨gv, hgv, h2 _ ?_⟩⟩
              unfold kRange
              rw [hq]
              dsimp only
              rw [hb]
              exact hk
            · obtain ⟨ex, v2, s2, h3, h4⟩ := ih _ _ _ _ _ _ h1
              refine ⟨ex, v2, s2, h3, fun k2 hk => opt_iff.2 ⟨gv, hgv, h2 _ ?_⟩⟩
              unfold kRange
              rw [hq]
              dsimp only
              rw [hb]
              exact h4 _ hk
        · exact h1.elim
      · exact h.elim
    | _ => exact h.elim

/-! ### code, sound -/
theorem CxOk.lin {cx : Cx} (hx : CxOk P cx) : SumLin cx := fun g s hs args st => (hx.sum g s hs args st).1

theorem AfterX.of {α : Al} {st : St} {w : World} {ds : List Deferred} {k : Exit → Fr → St → Prop} {N : Exit → Act → World → Prop} (hK : AfterX α st w k N) {α1 : Al} {st1 : St} {w1 : World}
    (hto : To α st w α1 st1 w1) (hm : MarksOk w α1 st1 w1 ds) : After α1 st1 w1 ds (fun fr st => k .normal fr st) (N .normal) :=
  fun fr' st' α' a' w' x1 x2 x3 x4 => hK _ _ _ _ _ _ x1 x2 (hto.trans x3) (by rw [x4]; exact hm.to x3)

theorem MarksOk.enter {w0 w : World} {α : Al} {st : St} {ds : List Deferred} (hm : MarksOk w0 α st w ds) (hR : R α st w) (hle : w0.heap.size ≤ w.heap.size) :
    MarksOk w0 α st (w.alloc (.deferred (some []))) ({ target := .collected w.heap.size, args := #[] } :: ds) := by
  obtain ⟨ms, m1, m2, m3⟩ := hm
  have hlt : ∀ b ∈ ms, b < w.heap.size := fun b hb => (Array.getElem?_eq_some_iff.1 (m3 b hb).2.1).1
  refine ⟨w.heap.size :: ms, ?_, by rw [m2]; rfl, fun b hb => ?_⟩
  · rw [List.nodup_cons]
    exact ⟨fun hin => by have := hlt _ hin; omega, m1⟩
  · rcases List.mem_cons.1 hb with rfl | hb
    · refine ⟨hle, heap_alloc_eq _ _, fun o so d ho hd hh he => ?_⟩
      obtain ⟨d', h1, h2⟩ := hR.good o so ho
      rw [hd] at h1; cases h1
      have := h2.lt hh
      omega
    · obtain ⟨x1, x2, x3⟩ := m3 b hb
      exact ⟨x1, by rw [heap_alloc_lt w _ (hlt b hb)]; exact x2, x3⟩
/-- A range over a function is entered. -/
theorem enter_record {α : Al} {st : St} {w : World} (hR : R α st w) {fr : Fr} {tmps : Array Value} (hf : FrOk α fr tmps) (f : Nat) (ps : Array Tmp) (x y : Code) (fn : FuncId) :
    ∃ (α1 : Al) (l : Nat) (w1 : World) (m : Deferred) (d : Den), (Instr.enterLoop fn tmps ps x y none).run P w = .ok (l, [m]) w1 ∧ To α st w α1 (st ++ [some (.lp true f fr ps.toList x y 0 none)]) w1 ∧
      α1 st.length = some d ∧ d.blk = l ∧ d.val = .func (.yield l) #[] #[] ∧
      (∀ w0 ds, w0.heap.size ≤ w.heap.size → MarksOk w0 α st w ds → MarksOk w0 α1 (st ++ [some (.lp true f fr ps.toList x y 0 none)]) w1 ([m] ++ ds)) := by
  have hto1 : To α st w α st (w.alloc (.deferred (some []))) := by
    refine ⟨⟨fun o so ho => ?_, hR.sep, hR.none, hR.cell⟩, fun _ _ => rfl, Nat.le_refl _, fun o so _ ho => ⟨so, ho, rfl, rfl⟩, fun o so hlo ho => by have := St.get_lt ho; omega, fun _ _ h => h,
      fun b hb _ => heap_alloc_lt w _ hb, by simp, rfl, rfl, rfl⟩
    obtain ⟨d, h1, h2⟩ := hR.good o so ho
    exact ⟨d, h1, h2.congr (Al.le.refl _) (fun hh => heap_alloc_lt w _ (h2.lt hh)) (by simp)⟩
  have hrec := To.new (ob := .loop { state := .ready, pending := none, fn, tmps := tmps, params := ps, assign := x, body := y, defers := w.heap.size }) (so := .lp true f fr ps.toList x y 0 none)
    (d := ⟨(w.alloc (.deferred (some []))).heap.size, 0, 0, 0, .func (.yield (w.alloc (.deferred (some []))).heap.size) #[] #[]⟩) hto1.rep (fun _ => rfl) (fun _ => rfl) rfl
    ⟨rfl, _, heap_alloc_eq _ _, hf.mono (Al.le_add (hR.none _ (Nat.le_refl _))), by simp, rfl, rfl, rfl, rfl⟩
  have hsz : (w.alloc (.deferred (some []))).heap.size = w.heap.size + 1 := by simp
  refine ⟨_, w.heap.size + 1, _, _, _, run_enterLoop_outer fn tmps ps x y, hto1.trans hrec, Al.add_same, hsz, by rw [hsz], fun w0 ds hle hm => ?_⟩
  exact MarksOk.to (hm.enter hR hle) hrec

theorem ev_sound {cx : Cx} (hx : CxOk P cx) : ∀ n, RunOk P (ev cx n) ∧
    ∀ {f : FuncId} {c : Code} {fr : Fr} {st : St} {k : Exit → Fr → St → Prop} {r : Option Nat} {Q : Exit → Act → World → Prop} {α0 α : Al} {st0 : St} {a : Act} {w0 w : World},
    (f < big → r = none) → To α0 st0 w0 α st w → FrOk α fr a.tmps → MarksOk w0 α st w a.defers → ev cx n st0.length f (.loop c) fr st k → AfterX α0 st0 w0 k Q → Code.roundsIn (Wide r) 0 P c Q n a w
  | 0 => ⟨fun _ _ _ _ h _ => h.elim, fun _ _ _ _ h _ => h.elim⟩
  | n + 1 => by
    obtain ⟨ih, ihl⟩ := ev_sound hx n
    have hL := lin_call hx.lin (lin_ev hx.lin n)
    have hC : CallOk P (evCall cx (ev cx n)) := evCall_ok (run := ev cx n) hx @ih
    have loopCase : ∀ {f : FuncId} {c : Code} {fr : Fr} {st : St} {k : Exit → Fr → St → Prop} {r : Option Nat} {Q : Exit → Act → World → Prop} {α0 α : Al} {st0 : St} {a : Act} {w0 w : World},
        (f < big → r = none) → To α0 st0 w0 α st w → FrOk α fr a.tmps → MarksOk w0 α st w a.defers → ev cx (n + 1) st0.length f (.loop c) fr st k → AfterX α0 st0 w0 k Q → Code.roundsIn (Wide r) 0 P c Q (n + 1) a w := by
      intro f c fr st k r Q α0 α st0 a w0 w hfr hto hf hm h hK
      obtain ⟨α2, fr2, st2, h, hf, hto, hsrc⟩ := atHead_sound hto hf h
      have hm := hm.src hsrc
      rw [roundsIn_succ]
      refine ih hfr hto hf hm h fun ex fr' st' α' a' w' hk hf' hto hd => ?_
      cases ex with
      | normal => exact ihl hfr hto hf' hd hk hK
      | exit _ => exact hK _ _ _ _ _ _ hk hf' hto hd
      | goto _ => exact hK _ _ _ _ _ _ hk hf' hto hd
      | ret => exact hK _ _ _ _ _ _ hk hf' hto hd
      | panic _ => exact hK _ _ _ _ _ _ hk hf' hto hd
      | outgrown => exact hK _ _ _ _ _ _ hk hf' hto hd
    refine ⟨?_, loopCase⟩
    intro f c fr st k r Q α0 α st0 a w0 w hfr hto hf hm h hK
    cases c with
    | skip => exact wpIn_skip (hK _ _ _ _ _ _ h hf hto hm)
    | label _ => exact wpIn_label (hK _ _ _ _ _ _ h hf hto hm)
    | exit id => exact wpIn_exit (hK _ _ _ _ _ _ h hf hto hm)
    | ret => exact wpIn_ret (hK _ _ _ _ _ _ h hf hto hm)
    | region id ops draw =>
      cases draw with
      | true => exact evDraw_sound hx.prog hx.names hC hL hx.mixed hto.rep hf h (hK.of hto hm)
      | false =>
        refine wpIn_region ?_
        have := evOps_sound (r := r) (Q := Q) hx.prog hx.names hC ops.toList 0 rfl hto.rep hf h (hK.of hto hm)
        simpa [List.range_eq_range'] using this
    | seq x y =>
      refine wpIn_seq (ih hfr hto hf hm h fun ex fr' st' α' a' w' hk hf' hto hd => ?_)
      cases ex with
      | normal => exact ih hfr hto hf' hd hk hK
      | exit _ => exact hK _ _ _ _ _ _ hk hf' hto hd
      | goto _ => exact hK _ _ _ _ _ _ hk hf' hto hd
      | ret => exact hK _ _ _ _ _ _ hk hf' hto hd
      | panic _ => exact hK _ _ _ _ _ _ hk hf' hto hd
      | outgrown => exact hK _ _ _ _ _ _ hk hf' hto hd
    | cond o x y =>
      simp only [ev_succ, evStep] at h
      split at h
      · rename_i t
        split at h
        · rename_i b hb
          obtain ⟨v, h1, h2⟩ := hf.2 t _ hb
          simp only [SV.rep, SA.rep, SC.val?, Option.some.injEq] at h2
          subst h2
          have he : a.eval (.tmp t) = .bool b := by simp [Act.eval, h1]
          rcases branch_or h with ⟨e, h⟩ | ⟨e, h⟩
          · subst e; exact wpIn_cond_true he (ih hfr hto (hf.say h1 (by simp [SV.rep, SA.rep, SC.val?])) hm h hK)
          · subst e; exact wpIn_cond_false he (ih hfr hto (hf.say h1 (by simp [SV.rep, SA.rep, SC.val?])) hm h hK)
        · exact h.elim
      · rename_i b
        rcases branch_or h with ⟨e, h⟩ | ⟨e, h⟩
        · subst e; exact wpIn_cond_true rfl (ih hfr hto hf hm h hK)
        · subst e; exact wpIn_cond_false rfl (ih hfr hto hf hm h hK)
      · exact h.elim
    | block id c =>
      refine wpIn_block (ih hfr hto hf hm h fun ex fr' st' α' a' w' hk hf' hto hd => ?_)
      cases ex with
      | exit id' =>
        unfold kBlock at hk
        dsimp only at hk
        simp only [Exit.inBlock]
        cases hb : Nat.beq id' id with
        | true =>
          rw [hb] at hk
          rw [if_pos (Nat.eq_of_beq_eq_true hb)]
          exact hK _ _ _ _ _ _ hk hf' hto hd
        | false =>
          rw [hb] at hk
          rw [if_neg (Nat.ne_of_beq_eq_false hb)]
          exact hK _ _ _ _ _ _ hk hf' hto hd
      | normal => exact hK _ _ _ _ _ _ hk hf' hto hd
      | goto _ => exact hK _ _ _ _ _ _ hk hf' hto hd
      | ret => exact hK _ _ _ _ _ _ hk hf' hto hd
      | panic _ => exact hK _ _ _ _ _ _ hk hf' hto hd
      | outgrown => exact hK _ _ _ _ _ _ hk hf' hto hd
    | loop c => exact wpIn_loop_rounds (n + 1) (loopCase hfr hto hf hm h hK)
    | scope c =>
      refine wpIn_scope (ih hfr hto hf hm h fun ex fr' st' α' a' w' hk hf' hto hd => ?_)
      cases ex with
      | goto _ => exact hk.elim
      | normal => exact hK _ _ _ _ _ _ hk hf' hto hd
      | exit _ => exact hK _ _ _ _ _ _ hk hf' hto hd
      | ret => exact hK _ _ _ _ _ _ hk hf' hto hd
      | panic _ => exact hK _ _ _ _ _ _ hk hf' hto hd
      | outgrown => exact hK _ _ _ _ _ _ hk hf' hto hd
    | rangeFunc g ps x y =>
      simp only [ev_succ, evStep] at h
      split at h
      · rename_i hb
        have hr0 := hfr (Nat.le_of_ble_eq_true hb)
        subst hr0
        obtain ⟨gv, hgv, h⟩ := opt_iff.1 h
        refine wpIn_rangeFunc fun fn _ => ?_
        obtain ⟨α1, l, w1, m, d, he, hto1, hd1, hdb, hdv, hm1⟩ := enter_record (P := P) hto.rep hf f ps x y fn
        have hmk := hm1 w0 a.defers hto.size hm
        have hgr : SA.rep α gv (a.eval g) := by
          have : rhoSA (evOperand fr) g = some gv := hgv
          exact rhoSA_rep (evOperand_rep hf) this
        have hle1 : α.le α1 := hto1.le hto.rep
        have hlast : (SA.one (.ref st.length)).rep α1 (.func (.yield l) #[] #[]) := by simp [SA.rep, SC.val?, hd1, hdv]
        -- the call of the function
        have fin : ∀ (g' : FuncId) (first cap : Array Value) (fs cs : List SA), a.eval g = .func (.func g') first cap → RepsA α1 fs first.toList → RepsA α1 cs cap.toList → g' < big →
            evCall cx (ev cx n) g' (fs ++ [.one (.ref (lenL st))] ++ cs) (st ++ [some (.lp true f fr ps.toList x y 0 none)]) (kRange (ev cx n) st0.length f (lenL st) fr k) →
            ∃ (l : Nat) (mark : List Deferred) (w₁ : World) (d : Deferred) (w₁' : World) (f' : FuncId) (args : Array Value) (w₂ : World),
              (Instr.enterLoop fn a.tmps ps x y (Wide none).round).run P w = .ok (l, mark) w₁ ∧
              (resolve a.eval (rangeCall g l) 0).run P w₁ = .ok d w₁' ∧
              (∀ f'', Target.leads P w₁' d.target d.args = some f'' → (Wide none).fn f'') ∧
              (invoke d.target d.args).run P w₁' = .ok (.enter f' args) w₂ ∧
              ((Wide none).depth.isSome = true → 1 ≤ 0) ∧
              CallsIn (Wide none) (0 - 1) P f' args w₂ (rangePost (Wide none) 0 P l Q { a with defers := mark ++ a.defers }) := by
          intro g' first cap fs cs hev hfs hcs hgb hcall
          obtain ⟨⟨fn', body, g1, g2⟩, hcc⟩ := hC.1 g' _ _ _ hgb hcall
          have hargs : RepsA α1 (fs ++ [.one (.ref (lenL st))] ++ cs) (first ++ #[Value.func (.yield l) #[] #[]] ++ cap).toList := by
            simp only [Array.toList_append, lenL_eq]
            exact (RepsA.append hfs (l' := [SA.one (.ref st.length)]) (vs' := [Value.func (.yield l) #[] #[]]) ⟨hlast, trivial⟩).append hcs
          have hci := hcc α1 w1 _ hto1.rep hargs
          refine ⟨l, [m], w1, { target := .fn (.func g') cap, args := first ++ #[Value.func (.yield l) #[] #[]] }, w1, g', first ++ #[Value.func (.yield l) #[] #[]] ++ cap, w1, he, ?_, fun _ _ => trivial, ?_, fun hdp => by simp [Wide] at hdp, ?_⟩
          · have hr1 : resolve a.eval (rangeCall g l) 0 = Deferred.ofValue (a.eval g) #[Value.func (.yield l) #[] #[]] := by
              simp [rangeCall, resolve, Act.eval]
            rw [hr1, hev]
            rfl
          · have hn := hx.names g' fn' g1 (by simp [g2])
            simp only [invoke, callFunc, Sem.run_bind, run_program, Result.andThen_ok, g1]
            simp [hn, g2]
          · have hci' : CallsIn (Wide none) 0 P g' (first ++ #[Value.func (.yield l) #[] #[]] ++ cap) w1 (CallPost α1 (st ++ [some (.lp true f fr ps.toList x y 0 none)]) w1 (kRange (ev cx n) st0.length f (lenL st) fr k)) := by
              have : (first ++ #[Value.func (.yield l) #[] #[]] ++ cap).toList.toArray = first ++ #[Value.func (.yield l) #[] #[]] ++ cap := Array.toArray_toList
              rw [this] at hci
              exact hci
            refine CallsIn.mono hci' ?_
            rintro e w2 ⟨v, st2, α2, vl, rfl, q1, q2, q3⟩
            -- behind the call
            unfold kRange at q2
            split at q2
            · rename_i f' fr' ps' a' b' s' j hq
              split at q2
              · exact q2.elim
              · rename_i hs
                rw [lenL_eq] at hq q2
                have hd2 : α2 st.length = some d := by rw [q3.ext _ (by simp)]; exact hd1
                obtain ⟨d', hd2', hval2, l2, hl2, c1, c2, c3, c4, c5, c6⟩ := q3.rep.good _ _ hq
                rw [hd2] at hd2'; cases hd2'
                rw [hdb] at hl2
                have hnb : l2.state ≠ .busy := by
                  rw [c5]
                  have hne : s' ≠ 1 := fun e => by subst e; simp at hs
                  match s', hne with
                  | 0, _ => simp [stOf]
                  | 1, h => exact absurd rfl h
                  | 2, _ => simp [stOf]
                  | n + 3, _ => simp [stOf]
                have hend := run_endLoop (P := P) hl2 hnb
                subst c6
                have hrec := To.record (s' := 3) (j' := l2.pending) q3.rep hq hd2 (by rw [hdb]; exact hl2)
                rw [hdb] at hrec
                have hall := hto.trans (hto1.trans (q3.trans hrec))
                have hmf := hmk.to (q3.trans hrec)
                have hff : FrOk α2 fr a.tmps := (hf.mono hle1).mono ((q3.trans hrec).le hto1.rep)
                refine ⟨l2.pending, _, hend, ?_⟩
                split at q2
                · rename_i hp
                  rw [hp] at hall hmf ⊢
                  exact hK _ _ _ _ { a with defers := [m] ++ a.defers } _ q2 hff hall hmf
                · rename_i c hp
                  rw [hp] at hall hmf ⊢
                  exact ih (fun _ => rfl) hall (a := { a with defers := [m] ++ a.defers }) hff hmf q2 hK
            · exact q2.elim
        unfold evIter at h
        split at h
        · rename_i g' first cap
          simp only [SA.rep, SC.val?, Option.some.injEq] at hgr
          split at h
          · rename_i hgb
            exact fin g' first cap _ _ hgr.symm (RepsA.ofValues _) (RepsA.ofValues _) (Nat.le_of_ble_eq_true hgb) h
          · exact h.elim
        · rename_i q
          split at h
          · rename_i g' first cap hst
            obtain ⟨dq, hdq, va, vb, x1, x2, x3⟩ := hto1.rep.good q _ hst
            have hgr1 := SA.rep_mono hle1 hgr
            simp only [SA.rep, SC.val?, hdq, Option.some.injEq] at hgr1
            split at h
            · rename_i hgb
              exact fin g' va.toArray vb.toArray _ _ (by rw [← hgr1, x3]) (by simpa using x1) (by simpa using x2) (Nat.le_of_ble_eq_true hgb) h
            · exact h.elim
          · exact h.elim
        · exact h.elim
      · exact h.elim
    | _ => exact h.elim

end Go.Ev

/- THE ENGINE, part 25: from an evaluation to a call. -/
namespace Go.Ev
open Go Go.RowKit
variable {P : Program}

def theCx (P : Program) (wr : FuncId → Nat) : Cx := { P := P, sum := fun _ => none, loop := fun _ _ => none, wr := wr, force := true }

/-- No function with a body bears the name that the model answers by itself: a check that runs. -/
def namesB (P : Program) : Bool := P.funcs.toList.all fun fn => match fn.body with | some _ => !(fn.name == "runtime.NumGoroutine") | none => true
theorem namesOk_of {P : Program} (h : namesB P = true) : NamesOk P := by
  intro f fn hf hb
  unfold namesB at h
  rw [List.all_eq_true] at h
  have := h fn (by rw [Array.mem_toList_iff]; exact Array.mem_of_getElem? hf)
  cases hbb : fn.body with
  | none => rw [hbb] at hb; cases hb
  | some c => rw [hbb] at this; simpa using this

theorem theCx_ok {P : Program} {wr : FuncId → Nat} (h1 : namesB P = true) (h2 : P.follows .mixedOrders = true) : CxOk P (theCx P wr) :=
  ⟨rfl, namesOk_of h1, h2, fun _ _ h => by cases h⟩

theorem R.empty (w : World) : R (fun _ => Option.none) [] w :=
  ⟨fun o so h => by cases o <;> simp [St.get, getL] at h, fun o o' so so' d d' _ h => by cases o <;> simp [St.get, getL] at h, fun _ _ => rfl, fun _ _ h => by cases h⟩

theorem To.below {α α' : Al} {st st' : St} {w w' : World} (h : To α st w α' st' w') (hn : ∀ b, ¬ Wr α st b) : Below w.heap.size w w' :=
  ⟨h.os, h.tape, h.output, h.size, fun k hk => h.kept k hk (hn k)⟩

theorem call_top {cx : Cx} (hx : CxOk P cx) {n : Nat} {f : FuncId} {args : List SA} {vals : List Value} {st : St} {α : Al} {w : World} {k : SV → St → Prop} (hR : R α st w) (ha : RepsA α args vals)
    (hn : ∀ b, ¬ Wr α st b) (h : evCall cx (ev cx n) f args st k) (hk : ∀ v st', k v st' → v = .sa (.one (.raw (.bool true)))) (hb : f < big := by decide) :
    Calls P f vals.toArray w fun e w' => e = .returned (.bool true) ∧ Below w.heap.size w w' := by
  have hC : CallOk P (evCall cx (ev cx n)) := evCall_ok (run := ev cx n) hx (ev_sound hx n).1
  refine callsIn_wide.1 (((hC.1 f args st k hb h).2 α w vals hR ha).mono fun e w' ⟨v, st', α', val, he, hv, hk', hto⟩ => ?_)
  have := hk _ _ hk'
  subst this
  simp only [SV.rep, SA.rep, SC.val?, Option.some.injEq] at hv
  subst hv
  exact ⟨he, hto.below hn⟩

/-- A closed run. -/
theorem closed_top {P : Program} {wr : FuncId → Nat} {n : Nat} {f : FuncId} (h1 : namesB P = true) (h2 : P.follows .mixedOrders = true)
    (h : evCall (theCx P wr) (ev (theCx P wr) n) f [] [] (fun v _ => v = .sa (.one (.raw (.bool true)))) = (SV.sa (.one (.raw (.bool true))) = SV.sa (.one (.raw (.bool true))))) (w : World) (hb : f < big := by decide) :
    Calls P f #[] w fun e w' => e = .returned (.bool true) ∧ Below w.heap.size w w' := by
  refine call_top (theCx_ok h1 h2) (R.empty w) (args := []) (vals := []) trivial ?_ (by rw [h]) (fun _ _ h => h) hb
  rintro b ⟨o, so, d, h, _⟩
  cases o <;> simp [St.get, getL] at h

end Go.Ev

/- THE ENGINE, part 25b: contexts with summaries; parts of code by their ways; words for states. Definitions alone. -/
namespace Go.Ev
open Go

abbrev SumT := List SA → St → (SV → St → Prop) → Prop

def lookSum : List (FuncId × SumT) → FuncId → Option SumT
  | [], _ => none
  | (g, s) :: r, f => match Nat.beq g f with | true => some s | false => lookSum r f
def lookLive : List (FuncId × Nat × List Nat) → FuncId → Nat → Option (List Nat)
  | [], _, _ => none
  | (g, i, l) :: r, f, j => match Nat.beq g f && Nat.beq i j with | true => some l | false => lookLive r f j
def lookWr : List (FuncId × Nat) → FuncId → Nat
  | [], _ => 0
  | (g, n) :: r, f => match Nat.beq g f with | true => n | false => lookWr r f

def mkCx (P : Program) (sums : List (FuncId × SumT)) (live : List (FuncId × Nat × List Nat)) (wr : List (FuncId × Nat)) : Cx :=
  { P := P, sum := lookSum sums, loop := lookLive live, wr := lookWr wr }

/-- A part of a function's code, by its way. -/
def codeDown : Code → List Nat → Code
  | c, [] => c
  | .seq a b, n :: r => match n with | 0 => codeDown a r | _ => codeDown b r
  | .cond _ a b, n :: r => match n with | 0 => codeDown a r | _ => codeDown b r
  | .block _ c, _ :: r => codeDown c r
  | .loop c, _ :: r => codeDown c r
  | c, _ :: _ => c
def codeAt (P : Program) (f : FuncId) (way : List Nat) : Code :=
  match P.funcs[f]? with
  | some fn => match fn.body with
    | some c => codeDown c way
    | none => .skip
  | none => .skip

/-! words for states -/
def iv (k : IntKind) (x : Int) : SC := .raw (.int k x)
def bv (b : Bool) : SC := .raw (.bool b)
/-- A struct that has been made: its cells. -/
def obj (T : TypeId) (m : Nat) (l : List SC) : Option SO := some (.mem true .whole T m (.lst [l]))
def fnone (n : Nat) : Fr := repL n none

/-- A frame of n slots: those that are known. -/
def frmAt (i : Nat) : List (Nat × SV) → Option SV
  | [] => none
  | (j, v) :: r => match Nat.beq j i with | true => some v | false => frmAt i r
def frmFrom (l : List (Nat × SV)) (i : Nat) : Nat → Fr
  | 0 => []
  | n + 1 => frmAt i l :: frmFrom l (i + 1) n
def frm (n : Nat) (l : List (Nat × SV)) : Fr := frmFrom l 0 n

end Go.Ev

/- THE ENGINE, part 26: summaries of functions; parts of code by their ways; words for states. -/
namespace Go.Ev
open Go Go.RowKit
variable {P : Program}

theorem mkCx_ok {P : Program} {sums : List (FuncId × SumT)} {live : List (FuncId × Nat × List Nat)} {wr : List (FuncId × Nat)} (h1 : namesB P = true) (h2 : P.follows .mixedOrders = true)
    (hs : ∀ x ∈ sums, SumOk P x.1 x.2) : CxOk P (mkCx P sums live wr) := by
  refine ⟨rfl, namesOk_of h1, h2, fun g s h => ?_⟩
  simp only [mkCx] at h
  induction sums with
  | nil => cases h
  | cons x r ih =>
    obtain ⟨f, t⟩ := x
    simp only [lookSum] at h
    split at h
    · rename_i hb
      have := Nat.eq_of_beq_eq_true hb
      subst this
      cases h
      exact hs (f, s) (by simp)
    · exact ih (fun x hx => hs x (by simp [hx])) h

theorem sumOk_of {cx : Cx} (hx : CxOk P cx) {g : FuncId} {s : SumT} (hl : ∀ args st, Lin (s args st)) (h : ∀ args st k, s args st k → ∃ n, evCall cx (ev cx n) g args st k) (hb : g < big := by decide) : SumOk P g s := by
  refine fun args st => ⟨hl args st, fun k hk α w vals hR ha => ?_⟩
  obtain ⟨n, hn⟩ := h args st k hk
  have hC : CallOk P (evCall cx (ev cx n)) := evCall_ok (run := ev cx n) hx (ev_sound hx n).1
  exact (hC.1 g args st k hb hn).2 α w vals hR ha

theorem br {b : Bool} {p q : Prop} (h1 : b = true → p) (h2 : b = false → q) : branch b p q := by
  cases b
  · exact h2 rfl
  · exact h1 rfl
theorem nd {b : Bool} {p : Prop} (h1 : b = true) (h2 : p) : need b p := by subst h1; exact h2

end Go.Ev

/- THE ENGINE, part 27: the arguments of a law as objects of a state. -/
namespace Go.Ev
open Go Go.RowKit Go.ChangeShapes Go.WideShapes
variable {P : Program}

/-! ### flat types: numbers and bools, and structs of these -/
def kindOf (P : Program) (t : TypeId) : Option (Option IntKind) :=
  match P.underlying t with
  | some (.int k) => match P.cellsOf t with | 1 => some (some k) | _ => none
  | some .bool => match P.cellsOf t with | 1 => some none | _ => none
  | _ => none
def fieldKinds (P : Program) : List Field → Nat → Option (List (Option IntKind))
  | [], _ => some []
  | f :: r, i => match Nat.beq f.offset i, kindOf P f.type, fieldKinds P r (i + 1) with
    | true, some k, some l => some (k :: l)
    | _, _, _ => none
def flatKinds (P : Program) (t : TypeId) : Option (List (Option IntKind)) :=
  match P.underlying t with
  | some (.struct fs) => match fieldKinds P fs.toList 0 with
    | some l => match Nat.beq (P.cellsOf t) l.length with | true => some l | false => none
    | none => none
  | _ => match kindOf P t with | some k => some [k] | none => none

def CellTyped : Option IntKind → Value → Prop
  | some k, v => ∃ x, v = .int k x ∧ (Lit.int k x).wf = true
  | none, v => ∃ b, v = .bool b
def CellsTyped : List (Option IntKind) → List Value → Prop
  | [], [] => True
  | k :: r, v :: vs => CellTyped k v ∧ CellsTyped r vs
  | _, _ => False

theorem CellsTyped.mk : ∀ {ks : List (Option IntKind)} {vs : List Value}, vs.length = ks.length → (∀ (j : Nat) (k : Option IntKind) (v : Value), ks[j]? = some k → vs[j]? = some v → CellTyped k v) → CellsTyped ks vs
  | [], [], _, _ => trivial
  | k :: r, v :: vs, hl, h => ⟨h 0 k v rfl rfl, CellsTyped.mk (by simpa using hl) fun j k' v' h1 h2 => h (j + 1) k' v' (by simpa using h1) (by simpa using h2)⟩
  | [], _ :: _, h, _ => by simp at h
  | _ :: _, [], h, _ => by simp at h
theorem CellsTyped.get : ∀ {ks : List (Option IntKind)} {vs : List Value}, CellsTyped ks vs → vs.length = ks.length ∧ ∀ (j : Nat) (k : Option IntKind), ks[j]? = some k → ∃ v, vs[j]? = some v ∧ CellTyped k v
  | [], [], _ => ⟨rfl, fun j k h => by simp at h⟩
  | k :: r, v :: vs, h => by
    obtain ⟨h1, h2⟩ := CellsTyped.get h.2
    refine ⟨by simp [h1], fun j k' hj => ?_⟩
    cases j with
    | zero => simp at hj; subst hj; exact ⟨v, rfl, h.1⟩
    | succ j => simpa using h2 j k' (by simpa using hj)
  | [], _ :: _, h => h.elim
  | _ :: _, [], h => h.elim

section
variable {H : Type} {enc : TypeId × Value → H} {w : World} {base : Nat} {spare : Nat → Bool} {held : Bool}

theorem kindOf_typed {t : TypeId} {k : Option IntKind} (hk : kindOf P t = some k) {fuel : Nat} {cs : List Value} {x : DataW H × List MemPlace} (h : DataW.trod enc P w base spare held fuel t cs = some x) :
    P.cellsOf t = 1 ∧ ∃ v, cs = [v] ∧ CellTyped k v := by
  unfold kindOf at hk
  split at hk
  · rename_i k' hu
    split at hk
    · rename_i hc
      cases hk
      obtain ⟨n, h1, _, h3⟩ := DataW.trod_int hu h
      exact ⟨hc, _, h1, n, rfl, h3⟩
    · cases hk
  · rename_i hu
    split at hk
    · rename_i hc
      cases hk
      obtain ⟨b, h1, _⟩ := DataW.trod_bool hu h
      exact ⟨hc, _, h1, b, rfl⟩
    · cases hk
  · cases hk

theorem fieldKinds_get : ∀ {fs : List Field} {i : Nat} {ks : List (Option IntKind)}, fieldKinds P fs i = some ks → ks.length = fs.length ∧ ∀ (j : Nat) (k : Option IntKind), ks[j]? = some k → ∃ f, fs[j]? = some f ∧ f.offset = i + j ∧ kindOf P f.type = some k
  | [], i, ks, h => by simp [fieldKinds] at h; subst h; simp
  | f :: r, i, ks, h => by
    simp only [fieldKinds] at h
    split at h
    · rename_i k l hb hk hl
      cases h
      obtain ⟨h1, h2⟩ := fieldKinds_get hl
      refine ⟨by simp [h1], fun j k' hj => ?_⟩
      cases j with
      | zero => simp at hj; subst hj; exact ⟨f, rfl, by simpa using Nat.eq_of_beq_eq_true hb, hk⟩
      | succ j =>
        obtain ⟨f', x1, x2, x3⟩ := h2 j k' (by simpa using hj)
        exact ⟨f', by simpa using x1, by omega, x3⟩
    · cases h

theorem flat_typed {t : TypeId} {ks : List (Option IntKind)} (hk : flatKinds P t = some ks) {fuel : Nat} {cs : List Value} {x : DataW H × List MemPlace} (h : DataW.trod enc P w base spare held fuel t cs = some x) :
    P.cellsOf t = ks.length ∧ CellsTyped ks cs := by
  unfold flatKinds at hk
  split at hk
  · rename_i fs hu
    split at hk
    · rename_i l hl
      split at hk
      · rename_i hb
        cases hk
        have hc := Nat.eq_of_beq_eq_true hb
        obtain ⟨xs, n, _, _, h3, h4, h5⟩ := DataW.trod_struct hu h
        obtain ⟨g1, g2⟩ := fieldKinds_get hl
        refine ⟨hc, CellsTyped.mk (by rw [h3, hc]) fun j k v hj hv => ?_⟩
        obtain ⟨f, x1, x2, x3⟩ := g2 j k hj
        have hjx : j < xs.length := by
          have := (List.getElem?_eq_some_iff.1 x1).1
          rw [h4]; simpa using this
        have h6 := h5 j f (by simpa using x1)
        rw [List.getElem?_eq_getElem hjx] at h6
        obtain ⟨y1, u, y2, y3⟩ := kindOf_typed x3 h6
        rw [y1, x2, Nat.zero_add] at y2
        have hjc := (List.getElem?_eq_some_iff.1 hv).1
        rw [List.drop_eq_getElem_cons hjc, List.take_succ_cons] at y2
        simp at y2
        have : v = u := by
          have := (List.getElem?_eq_some_iff.1 hv).2
          rw [← this]; exact y2
        rw [this]; exact y3
      · cases hk
    · cases hk
  · split at hk
    · rename_i k hkk
      cases hk
      obtain ⟨h1, v, rfl, h3⟩ := kindOf_typed hkk h
      exact ⟨h1, h3, trivial⟩
    · cases hk

/-! ### a slice of flat elements -/
def ColOk (len : Nat) : Option IntKind → Col → Prop
  | some k, c => ∃ xs, c = .ints k xs ∧ xs.length = len ∧ ∀ x ∈ xs, (Lit.int k x).wf = true
  | none, c => ∃ xs, c = .bools xs ∧ xs.length = len
def ColsOk (len : Nat) : List (Option IntKind) → List Col → Prop
  | [], [] => True
  | k :: r, c :: cs => ColOk len k c ∧ ColsOk len r cs
  | _, _ => False

def intOfV : Value → Int
  | .int _ x => x
  | _ => 0
def boolOfV : Value → Bool
  | .bool b => b
  | _ => false
def colFor (len : Nat) (f : Nat → Value) : Option IntKind → Col
  | some k => .ints k ((List.range len).map fun i => intOfV (f i))
  | none => .bools ((List.range len).map fun i => boolOfV (f i))
def colsFor (len : Nat) (f : Nat → Nat → Value) : List (Option IntKind) → Nat → List Col
  | [], _ => []
  | k :: r, j => colFor len (fun i => f i j) k :: colsFor len f r (j + 1)

theorem colFor_ok {len : Nat} {f : Nat → Value} {k : Option IntKind} (h : ∀ i, i < len → CellTyped k (f i)) : ColOk len k (colFor len f k) ∧ ∀ i, i < len → (colFor len f k).at i = .raw (f i) := by
  cases k with
  | some k =>
    refine ⟨⟨_, rfl, by simp, fun x hx => ?_⟩, fun i hi => ?_⟩
    · simp only [List.mem_map, List.mem_range] at hx
      obtain ⟨i, hi, rfl⟩ := hx
      obtain ⟨x, h1, h2⟩ := h i hi
      rw [h1]; exact h2
    · obtain ⟨x, h1, h2⟩ := h i hi
      simp [colFor, Col.at, hi, h1, intOfV]
  | none =>
    refine ⟨⟨_, rfl, by simp⟩, fun i hi => ?_⟩
    obtain ⟨b, h1⟩ := h i hi
    simp [colFor, Col.at, hi, h1, boolOfV]
theorem colsFor_ok {len : Nat} {f : Nat → Nat → Value} : ∀ {ks : List (Option IntKind)} {j0 : Nat}, (∀ i, i < len → ∀ (j : Nat) (k : Option IntKind), ks[j]? = some k → CellTyped k (f i (j0 + j))) →
    ColsOk len ks (colsFor len f ks j0) ∧ ∀ i, i < len → (colsAt i (colsFor len f ks j0)).length = ks.length ∧ ∀ (j : Nat) (c : SC), (colsAt i (colsFor len f ks j0))[j]? = some c → c = SC.raw (f i (j0 + j))
  | [], j0, _ => ⟨trivial, fun i _ => ⟨rfl, fun j c h => by simp [colsFor, colsAt] at h⟩⟩
  | k :: r, j0, h => by
    obtain ⟨a1, a2⟩ := colFor_ok (k := k) (f := fun i => f i j0) fun i hi => by simpa using h i hi 0 k rfl
    obtain ⟨b1, b2⟩ := colsFor_ok (ks := r) (j0 := j0 + 1) (f := f) (len := len) fun i hi j k' hj => by
      have := h i hi (j + 1) k' (by simpa using hj)
      rwa [show j0 + 1 + j = j0 + (j + 1) by omega]
    refine ⟨⟨a1, b1⟩, fun i hi => ⟨by simp [colsFor, colsAt, (b2 i hi).1], fun j c hc => ?_⟩⟩
    cases j with
    | zero => simp [colsFor, colsAt] at hc; subst hc; exact a2 i hi
    | succ j =>
      have := (b2 i hi).2 j c (by simpa [colsFor, colsAt] using hc)
      rw [this, show j0 + 1 + j = j0 + (j + 1) by omega]

/-- A slice that came in: nothing in it; or a row that is read only. -/
theorem open_rows {t e : TypeId} {ks : List (Option IntKind)} (ht : P.underlying t = some (.slice e)) (hk : flatKinds P e = some ks) (hpos : 0 < ks.length) {v : Value} {d : DataW H} {p : List MemPlace}
    (hv : ∃ a len cap, v = .slice a len cap) (h : DataW.Trod enc P w 0 (fun _ => true) held t v d p) :
    (∃ o, v = .slice o 0 0) ∨ ∃ (d0 : Den) (len cap : Nat) (cols : List Col), v = .slice (some ⟨d0.blk, d0.off, none⟩) len cap ∧ len ≤ cap ∧ cap ≤ maxLen ∧ ColsOk len ks cols ∧ d0.val = .nilFunc ∧
      ∀ α, Good α w d0 (.mem false .ext e ks.length (.tab len cols)) := by
  obtain ⟨a0, len0, cap0, rfl⟩ := hv
  obtain ⟨fuel, h⟩ := h
  simp only [Value.cells] at h
  rcases DataW.trod_slice ht h with ⟨h0, _⟩ | ⟨a, len, cap, elems, rest, n, _, h1, _, _, hle, hm, hlen, hel, hsp, _⟩
  · left
    simp at h0
    obtain ⟨rfl, rfl, rfl⟩ := h0
    exact ⟨none, rfl⟩
  · simp at h1
    obtain ⟨rfl, rfl, rfl⟩ := h1
    obtain ⟨hrl, hr⟩ := hsp rfl
    by_cases hc0 : cap0 = 0
    · subst hc0
      have : len0 = 0 := by omega
      subst this
      exact .inl ⟨_, rfl⟩
    · right
      have each : ∀ i, i < cap0 → P.cellsOf e = ks.length ∧ ∃ cs, w.cells? 0 (a.add (i * P.cellsOf e)) (P.cellsOf e) = some cs ∧ CellsTyped ks cs := by
        intro i hi
        have key : ∃ y, (w.cells? 0 (a.add (i * P.cellsOf e)) (P.cellsOf e)).bind (DataW.trod enc P w 0 (fun _ => true) held n e) = some y := by
          by_cases hil : i < len0
          · exact ⟨_, (hel i hil).trans (List.getElem?_eq_getElem (by omega))⟩
          · have := hr (i - len0) (by omega)
            rw [show len0 + (i - len0) = i by omega] at this
            exact ⟨_, this.trans (List.getElem?_eq_getElem (by omega))⟩
        obtain ⟨y, hy⟩ := key
        rw [Option.bind_eq_some_iff] at hy
        obtain ⟨cs, hcs, hy⟩ := hy
        obtain ⟨h1, h2⟩ := flat_typed hk hy
        exact ⟨h1, cs, hcs, h2⟩
      have hC := (each 0 (by omega)).1
      have cellAt : ∀ i, i < cap0 → ∀ (j : Nat) (k : Option IntKind), ks[j]? = some k → ∃ v, w.cell? (a.add (i * ks.length + j)) = some v ∧ CellTyped k v := by
        intro i hi j k hj
        obtain ⟨_, cs, hcs, hty⟩ := each i hi
        obtain ⟨_, hcl, hat⟩ := World.cells?_some hcs
        obtain ⟨g1, g2⟩ := hty.get
        obtain ⟨v, x1, x2⟩ := g2 j k hj
        have hjl : j < ks.length := (List.getElem?_eq_some_iff.1 hj).1
        have := hat j (by rw [hC]; exact hjl)
        rw [x1, hC] at this
        refine ⟨v, ?_, x2⟩
        rw [← this]
        congr 1
        unfold Addr.add
        by_cases e1 : i * ks.length = 0 <;> by_cases e2 : j = 0 <;> simp_all [Nat.add_assoc]
      have hspot : a.spot = none ∧ a.block < w.heap.size := by
        obtain ⟨v, hv, _⟩ := cellAt 0 (by omega) 0 ks[0] (List.getElem?_eq_getElem hpos)
        simp only [Nat.zero_mul, Nat.add_zero, Addr.add, if_true] at hv
        unfold World.cell? at hv
        split at hv
        · rename_i c _ _ hb
          refine ⟨?_, (Array.getElem?_eq_some_iff.1 hb).1⟩
          cases hs : a.spot with
          | none => rfl
          | some s => simp [hs] at hv
        · cases hv
      have hadd : ∀ n, a.add n = ⟨a.block, a.off + n, none⟩ := by
        intro n
        unfold Addr.add
        split
        · rename_i e1; subst e1
          cases a; simp at hspot ⊢; exact hspot.1
        · rfl
      let f : Nat → Nat → Value := fun i j => (w.cell? (a.add (i * ks.length + j))).getD .nilFunc
      have hf : ∀ i, i < len0 → ∀ (j : Nat) (k : Option IntKind), ks[j]? = some k → CellTyped k (f i (0 + j)) := by
        intro i hi j k hj
        obtain ⟨v, x1, x2⟩ := cellAt i (by omega) j k hj
        simp only [f, Nat.zero_add, x1, Option.getD_some]; exact x2
      obtain ⟨c1, c2⟩ := colsFor_ok hf
      refine ⟨⟨a.block, a.off, ks.length, cap0, .nilFunc⟩, len0, cap0, colsFor len0 f ks 0, ?_, hle, hm, c1, rfl, fun α => ⟨rfl, hpos, hspot.2, fun i hi => ?_⟩⟩
      · cases a; simp at hspot ⊢; exact hspot.1
      · simp only [Ct.len] at hi
        obtain ⟨l1, l2⟩ := c2 i hi
        refine ⟨l1, fun j c hc => ?_⟩
        have hcv := l2 j c hc
        have hjl : j < ks.length := by rw [← l1]; exact (List.getElem?_eq_some_iff.1 hc).1
        obtain ⟨v, x1, x2⟩ := cellAt i (by omega) j ks[j] (List.getElem?_eq_getElem hjl)
        have hfv : f i (0 + j) = v := by simp only [f, Nat.zero_add, x1, Option.getD_some]
        refine ⟨v, by rw [hcv, hfv]; rfl, ?_, ?_⟩
        · show w.cell? ⟨a.block, a.off + i * ks.length + j, none⟩ = some v
          rw [Nat.add_assoc, ← hadd]; exact x1
        · cases hkj : ks[j] with
          | some k => rw [hkj] at x2; obtain ⟨x, rfl, _⟩ := x2; rfl
          | none => rw [hkj] at x2; obtain ⟨b, rfl⟩ := x2; rfl

/-- A struct of flat fields that came in by value. -/
theorem open_flat {t : TypeId} {fs : Array Field} {ks : List (Option IntKind)} (ht : P.underlying t = some (.struct fs)) (hk : flatKinds P t = some ks) {v : Value} {d : DataW H} {p : List MemPlace}
    (hv : ∃ cs, v = .agg cs ∧ cs.size = P.cellsOf t) (h : DataW.Trod enc P w base spare held t v d p) : ∃ vs, v = .agg vs.toArray ∧ CellsTyped ks vs := by
  obtain ⟨cs, rfl, _⟩ := hv
  obtain ⟨fuel, h⟩ := h
  obtain ⟨_, h2⟩ := flat_typed hk h
  exact ⟨cs.toList, by simp, h2⟩
end

/-! ### states of what came in -/
theorem R.ext {α : Al} {st : St} {w : World} (h : R α st w) (hn : ∀ o so, st.get o = some so → so.wr = false) {d : Den} {e : TypeId} {m : Nat} {ct : Ct} (hv : d.val = .nilFunc) (hg : ∀ β, Good β w d (.mem false .ext e m ct)) :
    R (α.add st.length d) (st ++ [some (.mem false .ext e m ct)]) w ∧ ∀ o so, St.get (st ++ [some (.mem false .ext e m ct)]) o = some so → so.wr = false := by
  have hno : α st.length = Option.none := h.none _ (Nat.le_refl _)
  have hle := Al.le_add (d := d) hno
  have hw : ∀ o so, St.get (st ++ [some (.mem false .ext e m ct)]) o = some so → so.wr = false := by
    intro o so ho
    rcases St.get_append ho with ho | ⟨_, e⟩
    · exact hn o so ho
    · cases e; rfl
  refine ⟨⟨?_, ?_, ?_, Al.cell_add h.cell (by rw [hv]; rfl)⟩, hw⟩
  · intro o so ho
    rcases St.get_append ho with ho | ⟨rfl, e⟩
    · obtain ⟨d', h1, h2⟩ := h.good o so ho
      exact ⟨d', hle _ _ h1, h2.congr hle (fun _ => rfl) (Nat.le_refl _)⟩
    · cases e; exact ⟨d, Al.add_same, hg _⟩
  · intro o o' so so' d1 d2 _ ho _ _ _ _ _ hwr
    rw [hw o so ho] at hwr; cases hwr
  · intro o ho
    simp at ho
    rw [Al.add_other (by omega)]; exact h.none o (by omega)

theorem noWr {α : Al} {st : St} (hn : ∀ o so, st.get o = some so → so.wr = false) (b : Nat) : ¬ Wr α st b := by
  rintro ⟨o, so, d, h1, _, h3, _⟩
  rw [hn o so h1] at h3; cases h3
theorem noWr_nil : ∀ (o : Nat) (so : SO), St.get [] o = some so → so.wr = false := by
  intro o so h; cases o <;> simp [St.get, getL] at h

end Go.Ev
