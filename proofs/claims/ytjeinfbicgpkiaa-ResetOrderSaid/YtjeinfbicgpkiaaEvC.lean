/- Part C of a checked reader of the program form: what it computes on an abstract state is what the model does, in any order of a region. No conditions. -/
import Derived.Test.YtjeinfbicgpkiaaEvB
set_option linter.unusedSimpArgs false
set_option linter.unusedVariables false
/- THE ENGINE, part 14: an evaluation hands on just one thing. Printed by a program of mine (mklin.py). -/
namespace Go.Ev
open Go
theorem branch_iff {b : Bool} {p q : Prop} : branch b p q ↔ (b = true ∧ p) ∨ (b = false ∧ q) := by cases b <;> simp [branch]
theorem evBin_lin {P : Program} {op : BinOp} {T : TypeId} {xo yo : Operand} {st : St} {a b : SA} {k : SV → Prop} (h : evBin P op T xo yo st a b k) : ∃ r, k r ∧ evBin P op T xo yo st a b (fun x => x = r) := by
  unfold evBin at h ⊢
  (repeat' split at h) <;> simp_all [need_iff, opt_iff, branch_iff, cutKnown, evBound] <;> first
    | done
    | (obtain ⟨a, ha, hk⟩ := h; exact ⟨_, hk, a, ha, rfl⟩)
    | (obtain ⟨_, a, ha, hk⟩ := h; exact ⟨_, hk, a, ha, rfl⟩)
    | (obtain ⟨h1, h2, hk⟩ := h; exact ⟨_, hk, h1, h2, rfl⟩)
    | grind
theorem pickAt_lin {z : Int} {k : Nat → Prop} : ∀ {c s : Nat}, pickAt z k c s → ∃ r, k r ∧ pickAt z (fun x => x = r) c s
  | 0, _, h => h.elim
  | c + 1, s, h => by
    unfold pickAt at h ⊢
    rcases branch_iff.1 h with ⟨e, h⟩ | ⟨e, h⟩
    · exact ⟨s, h, branch_iff.2 (.inl ⟨e, rfl⟩)⟩
    · obtain ⟨r, h1, h2⟩ := pickAt_lin h
      exact ⟨r, h1, branch_iff.2 (.inr ⟨e, h2⟩)⟩
theorem pickAt_mono {z : Int} {k k2 : Nat → Prop} (hk : ∀ x, k x → k2 x) : ∀ {c s : Nat}, pickAt z k c s → pickAt z k2 c s
  | 0, _, h => h.elim
  | c + 1, s, h => by
    unfold pickAt at h ⊢
    rcases branch_iff.1 h with ⟨e, h⟩ | ⟨e, h⟩
    · exact branch_iff.2 (.inl ⟨e, hk _ h⟩)
    · exact branch_iff.2 (.inr ⟨e, pickAt_mono hk h⟩)
theorem atElem_lin {ct : Ct} {i : Nat} {z : Int} {k : Nat → Prop} (h : atElem ct i z k) : ∃ r, k r ∧ atElem ct i z (fun x => x = r) := by
  unfold atElem at h ⊢
  split at h
  · split at h
    · exact pickAt_lin h
    · exact ⟨_, h, rfl⟩
  · exact ⟨_, h, by simp⟩
theorem atElem_mono {ct : Ct} {i : Nat} {z : Int} {k k2 : Nat → Prop} (hk : ∀ x, k x → k2 x) (h : atElem ct i z k) : atElem ct i z k2 := by
  unfold atElem at h ⊢
  split at h
  · split at h
    · exact pickAt_mono hk h
    · exact hk _ h
  · exact hk _ h
theorem evIndexAddr_lin {P : Program} {T : TypeId} {st : St} {a b : SA} {k : SV → Prop} (h : evIndexAddr P T st a b k) : ∃ r, k r ∧ evIndexAddr P T st a b (fun x => x = r) := by
  unfold evIndexAddr at h ⊢
  split at h
  · split at h
    · split at h
      · split at h
        · obtain ⟨h1, h⟩ := need_iff.1 h
          obtain ⟨h2, h⟩ := need_iff.1 h
          obtain ⟨r, h3, h4⟩ := atElem_lin h
          exact ⟨_, h3, need_iff.2 ⟨h1, need_iff.2 ⟨h2, atElem_mono (fun x e => by rw [e]) h4⟩⟩⟩
        · exact h.elim
      · exact h.elim
    · exact h.elim
  · split at h
    · split at h
      · obtain ⟨h1, h⟩ := need_iff.1 h
        obtain ⟨h2, h⟩ := need_iff.1 h
        obtain ⟨r, h3, h4⟩ := atElem_lin h
        exact ⟨_, h3, need_iff.2 ⟨h1, need_iff.2 ⟨h2, atElem_mono (fun x e => by rw [e]) h4⟩⟩⟩
      · obtain ⟨h1, h⟩ := need_iff.1 h
        obtain ⟨h2, h⟩ := need_iff.1 h
        exact ⟨_, h, need_iff.2 ⟨h1, need_iff.2 ⟨h2, rfl⟩⟩⟩
    · exact h.elim
  · exact h.elim
theorem evIndex_lin {P : Program} {T : TypeId} {a b : SA} {k : SV → Prop} (h : evIndex P T a b k) : ∃ r, k r ∧ evIndex P T a b (fun x => x = r) := by
  unfold evIndex at h ⊢
  split at h
  · split at h <;> simp_all [need_iff, opt_iff]
    obtain ⟨h1, h2, a, ha, hk⟩ := h
    exact ⟨_, hk, a, ha, rfl⟩
  · rename_i s kk z hu
    obtain ⟨h1, h⟩ := need_iff.1 h
    obtain ⟨h2, h⟩ := need_iff.1 h
    refine ⟨_, h, ?_⟩
    exact need_iff.2 ⟨h1, need_iff.2 ⟨h2, rfl⟩⟩
  · exact h.elim
theorem evSrc_lin {st : St} {s : Nat} {x : SA} {k : Ct → Prop} (h : evSrc st s x k) : ∃ r, k r ∧ evSrc st s x (fun x => x = r) := by
  unfold evSrc at h ⊢
  (repeat' split at h) <;> simp_all [need_iff, opt_iff, branch_iff, cutKnown, evBound] <;> first
    | done
    | (obtain ⟨a, ha, hk⟩ := h; exact ⟨_, hk, a, ha, rfl⟩)
    | (obtain ⟨_, a, ha, hk⟩ := h; exact ⟨_, hk, a, ha, rfl⟩)
    | (obtain ⟨h1, h2, hk⟩ := h; exact ⟨_, hk, h1, h2, rfl⟩)
    | grind
theorem evLen_lin {P : Program} {T : TypeId} {st : St} {x : SA} {k : SV → Prop} (h : evLen P T st x k) : ∃ r, k r ∧ evLen P T st x (fun x => x = r) := by
  unfold evLen at h ⊢
  (repeat' split at h) <;> simp_all [need_iff, opt_iff, branch_iff, cutKnown, evBound] <;> first
    | done
    | (obtain ⟨a, ha, hk⟩ := h; exact ⟨_, hk, a, ha, rfl⟩)
    | (obtain ⟨_, a, ha, hk⟩ := h; exact ⟨_, hk, a, ha, rfl⟩)
    | (obtain ⟨h1, h2, hk⟩ := h; exact ⟨_, hk, h1, h2, rfl⟩)
    | grind
theorem evCap_lin {P : Program} {T : TypeId} {st : St} {x : SA} {k : SV → Prop} (h : evCap P T st x k) : ∃ r, k r ∧ evCap P T st x (fun x => x = r) := by
  unfold evCap at h ⊢
  (repeat' split at h) <;> simp_all [need_iff, opt_iff, branch_iff, cutKnown, evBound] <;> first
    | done
    | (obtain ⟨a, ha, hk⟩ := h; exact ⟨_, hk, a, ha, rfl⟩)
    | (obtain ⟨_, a, ha, hk⟩ := h; exact ⟨_, hk, a, ha, rfl⟩)
    | (obtain ⟨h1, h2, hk⟩ := h; exact ⟨_, hk, h1, h2, rfl⟩)
    | grind
theorem evBound_lin {d : Nat} {x : Option SA} {top : Nat} {k : Nat → Prop} (h : evBound d x top k) : ∃ r, k r ∧ evBound d x top (fun x => x = r) := by
  unfold evBound at h ⊢
  (repeat' split at h) <;> simp_all [need_iff, opt_iff, branch_iff, cutKnown] <;> first
    | done
    | (obtain ⟨a, ha, hk⟩ := h; exact ⟨_, hk, a, ha, rfl⟩)
    | (obtain ⟨_, a, ha, hk⟩ := h; exact ⟨_, hk, a, ha, rfl⟩)
    | (obtain ⟨h1, h2, hk⟩ := h; exact ⟨_, hk, h1, h2, rfl⟩)
    | grind
theorem evEntryStore_lin {st : St} {a b c : SA} {k : St → Prop} (h : evEntryStore st a b c k) : ∃ r, k r ∧ evEntryStore st a b c (fun x => x = r) := by
  unfold evEntryStore at h ⊢
  (repeat' split at h) <;> simp_all [need_iff, opt_iff, branch_iff, cutKnown, evBound] <;> first
    | done
    | (obtain ⟨a, ha, hk⟩ := h; exact ⟨_, hk, a, ha, rfl⟩)
    | (obtain ⟨_, a, ha, hk⟩ := h; exact ⟨_, hk, a, ha, rfl⟩)
    | (obtain ⟨h1, h2, hk⟩ := h; exact ⟨_, hk, h1, h2, rfl⟩)
    | grind
theorem evNew_lin {P : Program} {st : St} {T : TypeId} {cells : List SC} {k : SV → St → Prop} (h : evNew P st T cells k) : ∃ v s, k v s ∧ evNew P st T cells (fun x y => x = v ∧ y = s) := by
  unfold evNew at h ⊢
  (repeat' split at h) <;> simp_all [need_iff, opt_iff, branch_iff, cutKnown, evBound] <;> first
    | done
    | (obtain ⟨a, ha, hk⟩ := h; exact ⟨_, _, hk, a, ha, rfl, rfl⟩)
    | (obtain ⟨_, a, ha, hk⟩ := h; exact ⟨_, _, hk, a, ha, rfl, rfl⟩)
    | (obtain ⟨h1, h2, hk⟩ := h; exact ⟨_, hk, h1, h2, rfl⟩)
    | grind
theorem evBuildSlice_lin {P : Program} {T : TypeId} {n : Nat} {parts : List (Nat × SA)} {st : St} {k : SV → St → Prop} (h : evBuildSlice P T n parts st k) : ∃ v s, k v s ∧ evBuildSlice P T n parts st (fun x y => x = v ∧ y = s) := by
  unfold evBuildSlice at h ⊢
  (repeat' split at h) <;> simp_all [need_iff, opt_iff, branch_iff, cutKnown, evBound] <;> first
    | done
    | (obtain ⟨a, ha, hk⟩ := h; exact ⟨_, _, hk, a, ha, rfl, rfl⟩)
    | (obtain ⟨_, a, ha, hk⟩ := h; exact ⟨_, _, hk, a, ha, rfl, rfl⟩)
    | (obtain ⟨h1, h2, hk⟩ := h; exact ⟨_, hk, h1, h2, rfl⟩)
    | grind
theorem evMakeSlice_lin {P : Program} {T : TypeId} {st : St} {x y : SA} {k : SV → St → Prop} (h : evMakeSlice P T st x y k) : ∃ v s, k v s ∧ evMakeSlice P T st x y (fun x y => x = v ∧ y = s) := by
  unfold evMakeSlice at h ⊢
  (repeat' split at h) <;> simp_all [need_iff, opt_iff, branch_iff, cutKnown, evBound] <;> first
    | done
    | (obtain ⟨a, ha, hk⟩ := h; exact ⟨_, _, hk, a, ha, rfl, rfl⟩)
    | (obtain ⟨_, a, ha, hk⟩ := h; exact ⟨_, _, hk, a, ha, rfl, rfl⟩)
    | (obtain ⟨h1, h2, hk⟩ := h; exact ⟨_, hk, h1, h2, rfl⟩)
    | grind
theorem evBin_mono {P : Program} {op : BinOp} {T : TypeId} {xo yo : Operand} {st : St} {a b : SA} {k k2 : SV → Prop} (hk : ∀ x, k x → k2 x) (h : evBin P op T xo yo st a b k) : evBin P op T xo yo st a b k2 := by
  unfold evBin at h ⊢
  (repeat' split at h) <;> simp_all [need_iff, opt_iff, branch_iff, cutKnown, evBound] <;> first
    | done
    | (obtain ⟨a, ha, hb⟩ := h; exact ⟨a, ha, hk _ hb⟩)
    | (obtain ⟨_, a, ha, hb⟩ := h; exact ⟨a, ha, hk _ hb⟩)
    | exact hk _ h
    | exact hk _ h.2
    | exact hk _ h.2.2
    | grind
theorem evIndexAddr_mono {P : Program} {T : TypeId} {st : St} {a b : SA} {k k2 : SV → Prop} (hk : ∀ x, k x → k2 x) (h : evIndexAddr P T st a b k) : evIndexAddr P T st a b k2 := by
  unfold evIndexAddr at h ⊢
  split at h
  · split at h
    · split at h
      · split at h
        · obtain ⟨h1, h⟩ := need_iff.1 h
          obtain ⟨h2, h⟩ := need_iff.1 h
          exact need_iff.2 ⟨h1, need_iff.2 ⟨h2, atElem_mono (fun x h => hk _ h) h⟩⟩
        · exact h.elim
      · exact h.elim
    · exact h.elim
  · split at h
    · split at h
      · obtain ⟨h1, h⟩ := need_iff.1 h
        obtain ⟨h2, h⟩ := need_iff.1 h
        exact need_iff.2 ⟨h1, need_iff.2 ⟨h2, atElem_mono (fun x h => hk _ h) h⟩⟩
      · obtain ⟨h1, h⟩ := need_iff.1 h
        obtain ⟨h2, h⟩ := need_iff.1 h
        exact need_iff.2 ⟨h1, need_iff.2 ⟨h2, hk _ h⟩⟩
    · exact h.elim
  · exact h.elim
theorem evIndex_mono {P : Program} {T : TypeId} {a b : SA} {k k2 : SV → Prop} (hk : ∀ x, k x → k2 x) (h : evIndex P T a b k) : evIndex P T a b k2 := by
  unfold evIndex at h ⊢
  split at h
  · split at h <;> simp_all [need_iff, opt_iff]
    obtain ⟨h1, h2, a, ha, hb⟩ := h
    exact ⟨a, ha, hk _ hb⟩
  · obtain ⟨h1, h⟩ := need_iff.1 h
    obtain ⟨h2, h⟩ := need_iff.1 h
    exact need_iff.2 ⟨h1, need_iff.2 ⟨h2, hk _ h⟩⟩
  · exact h.elim
theorem evSrc_mono {st : St} {s : Nat} {x : SA} {k k2 : Ct → Prop} (hk : ∀ x, k x → k2 x) (h : evSrc st s x k) : evSrc st s x k2 := by
  unfold evSrc at h ⊢
  (repeat' split at h) <;> simp_all [need_iff, opt_iff, branch_iff, cutKnown, evBound] <;> first
    | done
    | (obtain ⟨a, ha, hb⟩ := h; exact ⟨a, ha, hk _ hb⟩)
    | (obtain ⟨_, a, ha, hb⟩ := h; exact ⟨a, ha, hk _ hb⟩)
    | exact hk _ h
    | exact hk _ h.2
    | exact hk _ h.2.2
    | grind
theorem evLen_mono {P : Program} {T : TypeId} {st : St} {x : SA} {k k2 : SV → Prop} (hk : ∀ x, k x → k2 x) (h : evLen P T st x k) : evLen P T st x k2 := by
  unfold evLen at h ⊢
  (repeat' split at h) <;> simp_all [need_iff, opt_iff, branch_iff, cutKnown, evBound] <;> first
    | done
    | (obtain ⟨a, ha, hb⟩ := h; exact ⟨a, ha, hk _ hb⟩)
    | (obtain ⟨_, a, ha, hb⟩ := h; exact ⟨a, ha, hk _ hb⟩)
    | exact hk _ h
    | exact hk _ h.2
    | exact hk _ h.2.2
    | grind
theorem evCap_mono {P : Program} {T : TypeId} {st : St} {x : SA} {k k2 : SV → Prop} (hk : ∀ x, k x → k2 x) (h : evCap P T st x k) : evCap P T st x k2 := by
  unfold evCap at h ⊢
  (repeat' split at h) <;> simp_all [need_iff, opt_iff, branch_iff, cutKnown, evBound] <;> first
    | done
    | (obtain ⟨a, ha, hb⟩ := h; exact ⟨a, ha, hk _ hb⟩)
    | (obtain ⟨_, a, ha, hb⟩ := h; exact ⟨a, ha, hk _ hb⟩)
    | exact hk _ h
    | exact hk _ h.2
    | exact hk _ h.2.2
    | grind
theorem evBound_mono {d : Nat} {x : Option SA} {top : Nat} {k k2 : Nat → Prop} (hk : ∀ x, k x → k2 x) (h : evBound d x top k) : evBound d x top k2 := by
  unfold evBound at h ⊢
  (repeat' split at h) <;> simp_all [need_iff, opt_iff, branch_iff, cutKnown] <;> first
    | done
    | (obtain ⟨a, ha, hb⟩ := h; exact ⟨a, ha, hk _ hb⟩)
    | (obtain ⟨_, a, ha, hb⟩ := h; exact ⟨a, ha, hk _ hb⟩)
    | exact hk _ h
    | exact hk _ h.2
    | exact hk _ h.2.2
    | grind
theorem evEntryStore_mono {st : St} {a b c : SA} {k k2 : St → Prop} (hk : ∀ x, k x → k2 x) (h : evEntryStore st a b c k) : evEntryStore st a b c k2 := by
  unfold evEntryStore at h ⊢
  (repeat' split at h) <;> simp_all [need_iff, opt_iff, branch_iff, cutKnown, evBound] <;> first
    | done
    | (obtain ⟨a, ha, hb⟩ := h; exact ⟨a, ha, hk _ hb⟩)
    | (obtain ⟨_, a, ha, hb⟩ := h; exact ⟨a, ha, hk _ hb⟩)
    | exact hk _ h
    | exact hk _ h.2
    | exact hk _ h.2.2
    | grind
theorem evNew_mono {P : Program} {st : St} {T : TypeId} {cells : List SC} {k k2 : SV → St → Prop} (hk : ∀ x y, k x y → k2 x y) (h : evNew P st T cells k) : evNew P st T cells k2 := by
  unfold evNew at h ⊢
  (repeat' split at h) <;> simp_all [need_iff, opt_iff, branch_iff, cutKnown, evBound] <;> first
    | done
    | (obtain ⟨a, ha, hb⟩ := h; exact ⟨a, ha, hk _ _ hb⟩)
    | (obtain ⟨_, a, ha, hb⟩ := h; exact ⟨a, ha, hk _ _ hb⟩)
    | exact hk _ _ h
    | exact hk _ _ h.2
    | exact hk _ _ h.2.2
    | grind
theorem evBuildSlice_mono {P : Program} {T : TypeId} {n : Nat} {parts : List (Nat × SA)} {st : St} {k k2 : SV → St → Prop} (hk : ∀ x y, k x y → k2 x y) (h : evBuildSlice P T n parts st k) : evBuildSlice P T n parts st k2 := by
  unfold evBuildSlice at h ⊢
  (repeat' split at h) <;> simp_all [need_iff, opt_iff, branch_iff, cutKnown, evBound] <;> first
    | done
    | (obtain ⟨a, ha, hb⟩ := h; exact ⟨a, ha, hk _ _ hb⟩)
    | (obtain ⟨_, a, ha, hb⟩ := h; exact ⟨a, ha, hk _ _ hb⟩)
    | exact hk _ _ h
    | exact hk _ _ h.2
    | exact hk _ _ h.2.2
    | grind
theorem evMakeSlice_mono {P : Program} {T : TypeId} {st : St} {x y : SA} {k k2 : SV → St → Prop} (hk : ∀ x y, k x y → k2 x y) (h : evMakeSlice P T st x y k) : evMakeSlice P T st x y k2 := by
  unfold evMakeSlice at h ⊢
  (repeat' split at h) <;> simp_all [need_iff, opt_iff, branch_iff, cutKnown, evBound] <;> first
    | done
    | (obtain ⟨a, ha, hb⟩ := h; exact ⟨a, ha, hk _ _ hb⟩)
    | (obtain ⟨_, a, ha, hb⟩ := h; exact ⟨a, ha, hk _ _ hb⟩)
    | exact hk _ _ h
    | exact hk _ _ h.2
    | exact hk _ _ h.2.2
    | grind
end Go.Ev

/- THE ENGINE, part 15: an evaluation hands on just one thing: what is made of several steps; any operation. -/
namespace Go.Ev
open Go
variable {P : Program}
def Lin (f : (SV → St → Prop) → Prop) : Prop := ∀ k, f k → ∃ v s, k v s ∧ ∀ k2 : SV → St → Prop, k2 v s → f k2
theorem Lin.ret (v : SV) (s : St) : Lin (fun k => k v s) := fun _ h => ⟨v, s, h, fun _ h => h⟩
theorem Lin.false : Lin (fun _ => False) := fun _ h => h.elim
theorem Lin.need {b : Bool} {f : (SV → St → Prop) → Prop} (hf : Lin f) : Lin (fun k => Ev.need b (f k)) := fun k h => by
  obtain ⟨hb, h⟩ := need_iff.1 h
  obtain ⟨v, s, h1, h2⟩ := hf k h
  exact ⟨v, s, h1, fun k2 h => need_iff.2 ⟨hb, h2 k2 h⟩⟩
theorem Lin.branch {b : Bool} {f g : (SV → St → Prop) → Prop} (hf : Lin f) (hg : Lin g) : Lin (fun k => Ev.branch b (f k) (g k)) := fun k h => by
  rcases branch_or h with ⟨hb, h⟩ | ⟨hb, h⟩
  · obtain ⟨v, s, h1, h2⟩ := hf k h
    exact ⟨v, s, h1, fun k2 h => branch_iff.2 (.inl ⟨hb, h2 k2 h⟩)⟩
  · obtain ⟨v, s, h1, h2⟩ := hg k h
    exact ⟨v, s, h1, fun k2 h => branch_iff.2 (.inr ⟨hb, h2 k2 h⟩)⟩
theorem Lin.opt {β : Type} {x : Option β} {f : β → (SV → St → Prop) → Prop} (hf : ∀ a, Lin (f a)) : Lin (fun k => Ev.opt x fun a => f a k) := fun k h => by
  obtain ⟨a, ha, h⟩ := opt_iff.1 h
  obtain ⟨v, s, h1, h2⟩ := hf a k h
  exact ⟨v, s, h1, fun k2 h => opt_iff.2 ⟨a, ha, h2 k2 h⟩⟩
theorem Lin.bind {β : Type} {e : (β → Prop) → Prop} (hl : ∀ k, e k → ∃ r, k r ∧ e (fun x => x = r)) (hm : ∀ k k2 : β → Prop, (∀ x, k x → k2 x) → e k → e k2) {f : β → (SV → St → Prop) → Prop} (hf : ∀ a, Lin (f a)) :
    Lin (fun k => e fun a => f a k) := fun k h => by
  obtain ⟨a, ha, he⟩ := hl _ h
  obtain ⟨v, s, h1, h2⟩ := hf a k ha
  exact ⟨v, s, h1, fun k2 h => hm _ _ (fun x hx => by subst hx; exact h2 k2 h) he⟩
theorem Lin.of {f : (SV → St → Prop) → Prop} (hl : ∀ k, f k → ∃ v s, k v s ∧ f (fun x y => x = v ∧ y = s)) (hm : ∀ k k2 : SV → St → Prop, (∀ x y, k x y → k2 x y) → f k → f k2) : Lin f := fun k h => by
  obtain ⟨v, s, h1, h2⟩ := hl k h
  exact ⟨v, s, h1, fun k2 hk => hm _ _ (by rintro _ _ ⟨rfl, rfl⟩; exact hk) h2⟩
theorem lin_bound {d : Nat} {x : Option SA} {t : Nat} {f : Nat → (SV → St → Prop) → Prop} (hf : ∀ a, Lin (f a)) : Lin (fun k => evBound d x t fun a => f a k) :=
  Lin.bind (e := evBound d x t) (fun _ h => evBound_lin h) (fun _ _ hk h => evBound_mono hk h) hf
theorem lin_src {st : St} {s : Nat} {x : SA} {f : Ct → (SV → St → Prop) → Prop} (hf : ∀ a, Lin (f a)) : Lin (fun k => evSrc st s x fun a => f a k) :=
  Lin.bind (e := evSrc st s x) (fun _ h => evSrc_lin h) (fun _ _ hk h => evSrc_mono hk h) hf
theorem lin_cut {o i c l n q : Nat} {st : St} : Lin (cutKnown o i c l n q st) := Lin.branch (Lin.ret _ _) (Lin.ret _ _)
def Lin2 {A : Type} (f : (A → St → Prop) → Prop) : Prop := ∀ k, f k → ∃ a s, k a s ∧ ∀ k2 : A → St → Prop, k2 a s → f k2
def LinS (f : (St → Prop) → Prop) : Prop := ∀ k, f k → ∃ s, k s ∧ ∀ k2 : St → Prop, k2 s → f k2
theorem Lin2.ret {A : Type} (a : A) (s : St) : Lin2 (fun k : A → St → Prop => k a s) := fun _ h => ⟨a, s, h, fun _ h => h⟩
theorem Lin2.bind {A B : Type} {e : (A → St → Prop) → Prop} (he : Lin2 e) {f : A → St → (B → St → Prop) → Prop} (hf : ∀ a s, Lin2 (f a s)) : Lin2 (fun k => e fun a s => f a s k) := fun k h => by
  obtain ⟨a, s, h1, h2⟩ := he _ h
  obtain ⟨b, s', h3, h4⟩ := hf a s k h1
  exact ⟨b, s', h3, fun k2 hk => h2 _ (h4 k2 hk)⟩
theorem Lin2.lin {A : Type} {e : (A → St → Prop) → Prop} (he : Lin2 e) {f : A → St → (SV → St → Prop) → Prop} (hf : ∀ a s, Lin (f a s)) : Lin (fun k => e fun a s => f a s k) := fun k h => by
  obtain ⟨a, s, h1, h2⟩ := he _ h
  obtain ⟨b, s', h3, h4⟩ := hf a s k h1
  exact ⟨b, s', h3, fun k2 hk => h2 _ (h4 k2 hk)⟩
theorem Lin2.linS {A : Type} {e : (A → St → Prop) → Prop} (he : Lin2 e) {f : A → St → (St → Prop) → Prop} (hf : ∀ a s, LinS (f a s)) : LinS (fun k => e fun a s => f a s k) := fun k h => by
  obtain ⟨a, s, h1, h2⟩ := he _ h
  obtain ⟨s', h3, h4⟩ := hf a s k h1
  exact ⟨s', h3, fun k2 hk => h2 _ (h4 k2 hk)⟩
theorem LinS.lin {e : (St → Prop) → Prop} (he : LinS e) (v : SV) : Lin (fun k => e fun s => k v s) := fun k h => by
  obtain ⟨s, h1, h2⟩ := he _ h
  exact ⟨v, s, h1, fun k2 hk => h2 _ hk⟩
theorem Lin2.need {A : Type} {b : Bool} {f : (A → St → Prop) → Prop} (hf : Lin2 f) : Lin2 (fun k => Ev.need b (f k)) := fun k h => by
  obtain ⟨h1, h⟩ := need_iff.1 h
  obtain ⟨a, s, h2, h3⟩ := hf k h
  exact ⟨a, s, h2, fun k2 hk => need_iff.2 ⟨h1, h3 k2 hk⟩⟩
theorem Lin2.opt {A B : Type} {x : Option B} {f : B → (A → St → Prop) → Prop} (hf : ∀ a, Lin2 (f a)) : Lin2 (fun k => Ev.opt x fun a => f a k) := fun k h => by
  obtain ⟨b, h1, h⟩ := opt_iff.1 h
  obtain ⟨a, s, h2, h3⟩ := hf b k h
  exact ⟨a, s, h2, fun k2 hk => opt_iff.2 ⟨b, h1, h3 k2 hk⟩⟩
theorem LinS.ret (s : St) : LinS (fun k => k s) := fun _ h => ⟨s, h, fun _ h => h⟩
theorem LinS.need {b : Bool} {f : (St → Prop) → Prop} (hf : LinS f) : LinS (fun k => Ev.need b (f k)) := fun k h => by
  obtain ⟨h1, h⟩ := need_iff.1 h
  obtain ⟨s, h2, h3⟩ := hf k h
  exact ⟨s, h2, fun k2 hk => need_iff.2 ⟨h1, h3 k2 hk⟩⟩
theorem LinS.opt {B : Type} {x : Option B} {f : B → (St → Prop) → Prop} (hf : ∀ a, LinS (f a)) : LinS (fun k => Ev.opt x fun a => f a k) := fun k h => by
  obtain ⟨b, h1, h⟩ := opt_iff.1 h
  obtain ⟨s, h2, h3⟩ := hf b k h
  exact ⟨s, h2, fun k2 hk => opt_iff.2 ⟨b, h1, h3 k2 hk⟩⟩
theorem lin_frzAt {kk : IntKind} {st : St} {o i n : Nat} {c : Option Nat} : Lin2 (frzAt kk st o i n c) := by
  intro k h
  unfold frzAt at h ⊢
  split at h
  · split at h
    · exact (Lin2.need (Lin2.need (Lin2.opt fun _ => Lin2.ret _ _))) k h
    · exact h.elim
  · exact h.elim
theorem lin_frz {kk : IntKind} {st : St} {c : SC} : Lin2 (frz kk st c) := by
  intro k h
  unfold frz at h ⊢
  split at h
  · exact Lin2.ret _ _ k h
  · split at h
    · exact Lin2.ret _ _ k h
    · exact h.elim
  · exact lin_frzAt k h
  · split at h
    · exact lin_frzAt k h
    · exact h.elim
  · exact h.elim
theorem lin_frzRow : ∀ {p : Pat} {cs : List SC} {st : St}, Lin2 (frzRow p cs st)
  | none :: p, c :: r, st => by
    intro k h
    simp only [frzRow] at h
    obtain ⟨a, s, h1, h2⟩ := lin_frzRow _ h
    exact ⟨_, s, h1, fun k2 hk => by simp only [frzRow]; exact h2 _ hk⟩
  | some kk :: p, c :: r, st => by
    intro k h
    simp only [frzRow] at h
    obtain ⟨x, s, h1, h2⟩ := lin_frz _ h
    obtain ⟨a, s', h3, h4⟩ := lin_frzRow _ h1
    exact ⟨_, s', h3, fun k2 hk => by simp only [frzRow]; exact h2 _ (h4 _ hk)⟩
  | [], cs, st => by
    intro k h
    have e : ∀ k, frzRow [] cs st k = k cs st := fun k => by cases cs <;> rfl
    rw [e] at h
    exact ⟨_, _, h, fun k2 hk => by rw [e]; exact hk⟩
  | x :: p, [], st => by
    intro k h
    have e : ∀ k, frzRow (x :: p) [] st k = k [] st := fun k => by cases x <;> rfl
    rw [e] at h
    exact ⟨_, _, h, fun k2 hk => by rw [e]; exact hk⟩
theorem lin_frzRows {p : Pat} : ∀ {vs : List (List SC)} {st : St}, Lin2 (frzRows p vs st)
  | [], st => Lin2.ret _ _
  | e :: r, st => by
    intro k h
    simp only [frzRows] at h
    obtain ⟨x, s, h1, h2⟩ := lin_frzRow _ h
    obtain ⟨a, s', h3, h4⟩ := lin_frzRows _ h1
    exact ⟨_, s', h3, fun k2 hk => by simp only [frzRows]; exact h2 _ (h4 _ hk)⟩
theorem lin_frzCt {p : Pat} {ct : Ct} {st : St} : Lin2 (frzCt p ct st) := by
  intro k h
  unfold frzCt at h ⊢
  split at h
  · obtain ⟨x, s, h1, h2⟩ := lin_frzRows _ h
    exact ⟨_, s, h1, fun k2 hk => h2 _ hk⟩
  · exact Lin2.ret _ _ k h
theorem lin_ghostA {a : SA} {st : St} : Lin (ghostA a st) := by
  intro k h
  unfold ghostA at h ⊢
  split at h
  · exact Lin.ret _ _ k h
  · exact Lin.ret _ _ k h
  · exact Lin.ret _ _ k h
theorem Lin.atK {ct : Ct} {i : Nat} {f : List SC → (SV → St → Prop) → Prop} (hf : ∀ e, Lin (f e)) : Lin (fun k => ct.atK i fun e => f e k) := fun k h => by
  obtain ⟨h1, h2⟩ := Ct.atK_iff.1 h
  obtain ⟨v, s, h3, h4⟩ := hf _ k h2
  exact ⟨v, s, h3, fun k2 hk => Ct.atK_iff.2 ⟨h1, h4 k2 hk⟩⟩
theorem lin_load {T : TypeId} {st : St} {a : SA} : Lin (evLoad P T st a) := by
  intro k h
  unfold evLoad at h ⊢
  split at h
  · split at h
    · split at h
      · exact (Lin.need lin_ghostA) k h
      · exact (Lin.need (Lin.atK fun _ => Lin.opt fun _ => lin_ghostA)) k h
    · exact h.elim
  · split at h
    · exact Lin.ret _ _ k h
    · exact h.elim
  · exact h.elim
theorem lin_putCells {st : St} {o i j : Nat} {cells : List SC} : LinS (putCells st o i j cells) := by
  intro k h
  unfold putCells at h ⊢
  split at h
  · split at h
    · split at h
      · exact (LinS.need (LinS.opt fun _ => LinS.ret _)) k h
      · exact h.elim
    · exact h.elim
  · exact h.elim
theorem lin_putElems {st : St} {o i n : Nat} {cells : List SC} : LinS (putElems st o i n cells) := by
  intro k h
  unfold putElems at h ⊢
  split at h
  · split at h
    · split at h
      · exact (LinS.need (LinS.opt fun _ => LinS.ret _)) k h
      · exact h.elim
    · exact h.elim
  · exact h.elim
theorem lin_store {T : TypeId} {st : St} {a v : SA} : LinS (evStore P T st a v) := by
  intro k h
  unfold evStore at h ⊢
  split at h
  · split at h
    · split at h
      · split at h
        · exact lin_putElems k h
        · exact (Lin2.linS lin_frzRow fun _ _ => lin_putCells) k h
      · exact h.elim
    · exact h.elim
  · split at h
    · exact LinS.ret _ k h
    · exact h.elim
  · exact h.elim
theorem lin_bytes {st : St} {e : TypeId} {o i n : Nat} : Lin (evBytes P st e o i n) := by
  intro k h
  unfold evBytes at h ⊢
  split at h
  · split at h
    · exact (Lin.need (Lin.opt fun _ => Lin.ret _ _)) k h
    · exact h.elim
  · exact h.elim
theorem lin_convert {T T' : TypeId} {st : St} {x : SA} : Lin (evConvert P T T' st x) := by
  intro k h
  unfold evConvert at h ⊢
  split at h
  · split at h
    · exact Lin.ret _ _ k h
    · split at h
      · exact Lin.ret _ _ k h
      · exact h.elim
    · exact h.elim
  · exact (Lin.opt fun _ => Lin.ret _ _) k h
  · split at h
    · exact lin_bytes k h
    · split at h
      · exact (Lin.need (Lin.ret _ _)) k h
      · exact h.elim
    · exact h.elim
  · split at h
    · split at h
      · exact lin_bytes k h
      · exact h.elim
    · exact h.elim
  · exact h.elim
theorem lin_clear {T : TypeId} {st : St} {x : SA} : Lin (evClear P T st x) := by
  intro k h
  unfold evClear at h ⊢
  split at h
  · exact Lin.ret _ _ k h
  · split at h
    · split at h
      · split at h
        · split at h
          · exact (Lin.need (Lin.branch (Lin.ret _ _) (Lin.opt fun _ => Lin.ret _ _))) k h
          · exact h.elim
        · exact h.elim
      · exact h.elim
    · exact h.elim
  · split at h
    · exact Lin.ret _ _ k h
    · exact h.elim
  · exact h.elim
theorem lin_slice3 {T : TypeId} {st : St} {x : SA} {lo : Option SA} {hi mx : SA} : Lin (evSlice3 P T st x lo hi mx) := by
  intro k h
  unfold evSlice3 at h ⊢
  split at h
  · split at h
    · split at h
      · exact (lin_bound fun _ => lin_bound fun _ => lin_bound fun _ => Lin.need lin_cut) k h
      · exact h.elim
    · split at h
      · exact (Lin.need (lin_bound fun _ => lin_bound fun _ => lin_bound fun _ => Lin.need lin_cut)) k h
      · exact h.elim
    · exact h.elim
  · split at h
    · split at h
      · split at h
        · exact (Lin.need (lin_bound fun _ => lin_bound fun _ => lin_bound fun _ => Lin.branch (Lin.ret _ _) (Lin.ret _ _))) k h
        · exact h.elim
      · exact h.elim
    · exact h.elim
  · split at h
    · exact h.elim
    · exact (lin_bound fun _ => lin_bound fun _ => lin_bound fun _ => Lin.ret _ _) k h
  · exact h.elim
theorem lin_slice {T : TypeId} {st : St} {x : SA} {lo hi : Option SA} : Lin (evSlice P T st x lo hi) := by
  intro k h
  unfold evSlice at h ⊢
  split at h
  · split at h
    · split at h
      · exact (lin_bound fun _ => lin_bound fun _ => Lin.need (Lin.need lin_cut)) k h
      · exact h.elim
    · exact h.elim
  · split at h
    · split at h
      · exact (lin_bound fun _ => lin_bound fun _ => Lin.need (Lin.branch (Lin.ret _ _) (Lin.ret _ _))) k h
      · exact h.elim
    · split at h
      · exact (Lin.need (lin_bound fun _ => lin_bound fun _ => Lin.need (Lin.ret _ _))) k h
      · exact h.elim
    · exact h.elim
  · split at h
    · split at h
      · split at h
        · exact (Lin.need (lin_bound fun _ => lin_bound fun _ => Lin.need (Lin.ret _ _))) k h
        · exact h.elim
      · exact h.elim
    · exact h.elim
  · split at h
    · exact (lin_bound fun _ => lin_bound fun _ => Lin.need (Lin.ret _ _)) k h
    · exact h.elim
  · exact (lin_bound fun _ => lin_bound fun _ => Lin.ret _ _) k h
  · split at h
    · split at h
      · exact (lin_bound fun _ => lin_bound fun _ => Lin.need (Lin.need lin_cut)) k h
      · exact h.elim
    · exact h.elim
  · exact h.elim
theorem lin_grown {st : St} {e s bytes n : Nat} {old new : Ct} : Lin (evGrown st e s bytes n old new) := Lin.need (Lin.opt fun _ => Lin.ret _ _)
theorem lin_putKnown {o i n c : Nat} {so : SO} {ct : Ct} {st : St} {new : Ct} : Lin (evPutKnown o i n c so ct st new) := by
  intro k h
  unfold evPutKnown at h ⊢
  split at h
  · exact (Lin.need (Lin.opt fun _ => Lin.ret _ _)) k h
  · exact h.elim
theorem lin_putEnd {w : Bool} {mk : MK} {T' m : Nat} {ct : Ct} {st : St} {o i n : Nat} {new : Ct} : Lin (evPutEnd w mk T' m ct st o i n new) := by
  intro k h
  unfold evPutEnd at h ⊢
  split at h
  · exact (Lin.branch (Lin.ret _ _) (Lin.opt fun _ => Lin.ret _ _)) k h
  · exact (Lin.need (Lin.ret _ _)) k h
theorem lin_appendAt {st : St} {e s bytes o i n : Nat} {c : Option Nat} {new : Ct} : Lin (evAppendAt st e s bytes o i n c new) := by
  intro k h
  unfold evAppendAt at h ⊢
  split at h
  · split at h
    · exact (Lin.need (Lin.branch (Lin.branch (Lin.ret _ _) lin_putKnown) (Lin.need lin_grown))) k h
    · exact (Lin.branch lin_putEnd (Lin.need lin_grown)) k h
    · exact h.elim
  · split at h
    · exact (Lin.need (Lin.branch (Lin.branch (Lin.ret _ _) lin_putKnown) (Lin.need lin_grown))) k h
    · exact h.elim
  · exact h.elim
theorem lin_appendRow {e s bytes : Nat} {st : St} {o i n : Nat} {new : Ct} : Lin (evAppendRow e s bytes st o i n new) := by
  intro k h
  unfold evAppendRow at h ⊢
  split at h
  · split at h
    · exact (Lin.need (Lin.branch (Lin.opt fun _ => Lin.ret _ _) lin_grown)) k h
    · exact h.elim
  · exact h.elim
theorem lin_appendRef {e s bytes : Nat} {st : St} {q : Nat} {new : Ct} : Lin (evAppendRef e s bytes st q new) := by
  intro k h
  unfold evAppendRef at h ⊢
  split at h
  · split at h
    · exact lin_grown k h
    · exact h.elim
  · exact (Lin.need (Lin.ret _ _)) k h
  · split at h
    · split at h
      · exact (Lin.need (Lin.branch (Lin.ret _ _) lin_appendRow)) k h
      · exact h.elim
    · exact h.elim
  · exact h.elim
theorem lin_appendTo {st : St} {e s bytes o i n : Nat} {new : Ct} : Lin (fun k => match st.get o with
    | some (.own ..) => need (decide (0 < n)) (evAppendRow e s bytes st o i n new k)
    | _ => evAppendAt st e s bytes o i n none new k) := by
  intro k h
  dsimp only at h ⊢
  split at h
  · exact (Lin.need lin_appendRow) k h
  · exact lin_appendAt k h
theorem lin_appendWith {ice : Bool × Bool} {e s bytes : Nat} {st : St} {a : SA} {new : Ct} : Lin (evAppendWith P ice e s bytes st a new) := by
  intro k h
  unfold evAppendWith at h ⊢
  split at h
  · exact (Lin2.lin lin_frzCt fun _ _ => lin_grown) k h
  · exact (Lin2.lin lin_frzCt fun _ _ => lin_appendAt) k h
  · exact (Lin2.lin lin_frzCt fun _ _ => lin_appendTo) k h
  · exact (Lin2.lin lin_frzCt fun _ _ => lin_appendRef) k h
  · exact h.elim
theorem lin_more {T2 s bytes : Nat} {z : Value} {st : St} {x : SA} {f : Ct → (SV → St → Prop) → Prop} (hf : ∀ a, Lin (f a)) : Lin (fun k => evMore P T2 s bytes z st x fun a => f a k) := by
  intro k h
  unfold evMore at h ⊢
  split at h
  · exact (lin_src hf) k h
  · split at h
    · split at h
      · exact (Lin.need (Lin.need (Lin.need (hf _)))) k h
      · exact h.elim
    · exact h.elim
theorem lin_append {ice : Bool × Bool} {T T2 : TypeId} {st : St} {a x : SA} : Lin (evAppend P ice T T2 st a x) := by
  intro k h
  unfold evAppend at h ⊢
  split at h
  · split at h
    · split at h
      · exact (lin_more fun new => lin_appendWith) k h
      · exact h.elim
    · exact h.elim
  · exact h.elim
theorem lin_copyWith {s : Nat} {st : St} {d : SA} {new : Ct} : Lin (evCopyWith s st d new) := by
  intro k h
  unfold evCopyWith at h ⊢
  split at h
  · exact Lin.ret _ _ k h
  · split at h
    · split at h
      · split at h
        · split at h
          · exact (Lin.need (Lin.branch (Lin.ret _ _) (Lin.opt fun _ => Lin.ret _ _))) k h
          · exact h.elim
        · exact h.elim
      · exact h.elim
    · exact h.elim
  · exact h.elim
theorem lin_copy {T : TypeId} {st : St} {a x : SA} : Lin (evCopy P T st a x) := by
  intro k h
  unfold evCopy at h ⊢
  split at h
  · split at h
    · exact (lin_src fun new => lin_copyWith) k h
    · exact h.elim
  · exact h.elim
theorem evFind_lin {kt : TypeId} {d : TypeDesc} {x : Value} : ∀ {es : List SE} {i : Nat} {K : Option (Nat × SE) → Prop}, evFind P kt d x es i K → ∃ r, K r ∧ evFind P kt d x es i (fun y => y = r)
  | [], i, K, h => ⟨none, h, rfl⟩
  | e :: es, i, K, h => by
    simp only [evFind] at h ⊢
    split at h
    · rcases branch_or h with ⟨hb, h⟩ | ⟨hb, h⟩
      · exact ⟨_, h, branch_iff.2 (.inl ⟨hb, rfl⟩)⟩
      · obtain ⟨r, h1, h2⟩ := evFind_lin h
        exact ⟨r, h1, branch_iff.2 (.inr ⟨hb, h2⟩)⟩
    · exact h.elim
theorem evFind_mono {kt : TypeId} {d : TypeDesc} {x : Value} : ∀ {es : List SE} {i : Nat} {K K2 : Option (Nat × SE) → Prop}, (∀ y, K y → K2 y) → evFind P kt d x es i K → evFind P kt d x es i K2
  | [], i, K, K2, hk, h => hk _ h
  | e :: es, i, K, K2, hk, h => by
    simp only [evFind] at h ⊢
    split at h
    · rcases branch_or h with ⟨hb, h⟩ | ⟨hb, h⟩
      · exact branch_iff.2 (.inl ⟨hb, hk _ h⟩)
      · exact branch_iff.2 (.inr ⟨hb, evFind_mono hk h⟩)
    · exact h.elim
theorem lin_find {kt : TypeId} {d : TypeDesc} {x : Value} {es : List SE} {i : Nat} {f : Option (Nat × SE) → (SV → St → Prop) → Prop} (hf : ∀ a, Lin (f a)) : Lin (fun k => evFind P kt d x es i fun a => f a k) :=
  Lin.bind (e := evFind P kt d x es i) (fun _ h => evFind_lin h) (fun _ _ hk h => evFind_mono hk h) hf
theorem lin_stays {d : TypeDesc} {old x : Value} {f : (SV → St → Prop) → Prop} (hf : Lin f) : Lin (fun k => evStays d old x (f k)) := by
  intro k h
  unfold evStays at h ⊢
  split at h
  · exact hf k h
  · exact (Lin.need hf) k h
theorem lin_found {z : Value} {ok : Bool} {st : St} {r : Option (Nat × SE)} : Lin (fun k => evFound z ok (fun v => k v st) r) := by
  intro k h
  unfold evFound at h ⊢
  split at h
  · split at h
    · exact Lin.ret _ _ k h
    · exact Lin.ret _ _ k h
  · split at h
    · exact Lin.ret _ _ k h
    · exact Lin.ret _ _ k h
theorem lin_lookup {T : TypeId} {st : St} {a b : SA} {ok : Bool} : Lin (fun k => evLookup P T st a b ok fun v => k v st) := by
  intro k h
  unfold evLookup at h ⊢
  split at h
  · split at h
    · split at h
      · split at h
        · exact lin_found k h
        · exact h.elim
      · split at h
        · split at h
          · exact (lin_find fun r => lin_found) k h
          · exact h.elim
        · exact h.elim
      · exact h.elim
    · exact h.elim
  · exact h.elim
theorem lin_updWith {d : TypeDesc} {x : Value} {v : SA} {es : List SE} {cl : Nat} {st : St} {o : Nat} {r : Option (Nat × SE)} {u : SV} : Lin (fun k => evUpdWith d x v es cl st o r fun st' => k u st') := by
  intro k h
  unfold evUpdWith at h ⊢
  cases r with
  | some p => exact (lin_stays (Lin.ret _ _)) k h
  | none => exact Lin.ret _ _ k h
theorem lin_delWith {es : List SE} {cl : Nat} {st : St} {o : Nat} {r : Option (Nat × SE)} {u : SV} : Lin (fun k => evDelWith es cl st o r fun st' => k u st') := by
  intro k h
  unfold evDelWith at h ⊢
  cases r with
  | some p => exact Lin.ret _ _ k h
  | none => exact Lin.ret _ _ k h
theorem lin_mapUpdate {T : TypeId} {st : St} {a b c : SA} {v : SV} : Lin (fun k => evMapUpdate P T st a b c fun st' => k v st') := by
  intro k h
  unfold evMapUpdate at h ⊢
  split at h
  · split at h
    · split at h
      · split at h
        · exact (lin_find fun r => lin_updWith) k h
        · exact h.elim
      · exact h.elim
    · exact h.elim
  · exact h.elim
theorem lin_entryWith {d : TypeDesc} {x z : Value} {es : List SE} {cl : Nat} {st : St} {o : Nat} {r : Option (Nat × SE)} : Lin (evEntryWith d x z es cl st o r) := by
  intro k h
  unfold evEntryWith at h ⊢
  cases r with
  | some p => exact (lin_stays (Lin.ret _ _)) k h
  | none => exact Lin.ret _ _ k h
theorem lin_mapEntry {T : TypeId} {st : St} {a b : SA} : Lin (evMapEntry P T st a b) := by
  intro k h
  unfold evMapEntry at h ⊢
  split at h
  · split at h
    · split at h
      · split at h
        · exact (lin_find fun r => lin_entryWith) k h
        · exact h.elim
      · exact h.elim
    · exact h.elim
  · exact h.elim
theorem lin_delete {T : TypeId} {st : St} {a b : SA} {v : SV} : Lin (fun k => evDelete P T st a b fun st' => k v st') := by
  intro k h
  unfold evDelete at h ⊢
  split at h
  · split at h
    · split at h
      · split at h
        · exact (lin_find fun r => lin_delWith) k h
        · exact h.elim
      · exact h.elim
    · exact h.elim
  · exact h.elim
theorem lin_val {e : (SV → Prop) → Prop} {st : St} (hl : ∀ k, e k → ∃ r, k r ∧ e (fun x => x = r)) (hm : ∀ k k2 : SV → Prop, (∀ x, k x → k2 x) → e k → e k2) : Lin (fun k => e fun v => k v st) :=
  Lin.bind hl hm fun a => Lin.ret a st
theorem lin_st {e : (St → Prop) → Prop} {v : SV} (hl : ∀ k, e k → ∃ r, k r ∧ e (fun x => x = r)) (hm : ∀ k k2 : St → Prop, (∀ x, k x → k2 x) → e k → e k2) : Lin (fun k => e fun s => k v s) :=
  Lin.bind hl hm fun a => Lin.ret v a
theorem lin_ghostB {a : SA} {st : St} {f : (SV → St → Prop) → SV → St → Prop} (hf : ∀ v s, Lin (fun k => f k v s)) : Lin (fun k => ghostA a st (f k)) := by
  intro k h
  obtain ⟨v, s, h1, h2⟩ := lin_ghostA _ h
  obtain ⟨v', s', h3, h4⟩ := hf v s k h1
  exact ⟨v', s', h3, fun k2 hk => h2 _ (h4 _ hk)⟩
theorem lin_lookK {ok : Bool} {v : SV} {s : St} : Lin (fun k => lookK ok k v s) := by
  intro k h
  unfold lookK at h ⊢
  split at h
  · split at h
    · exact Lin.ret _ _ k h
    · exact h.elim
  · exact Lin.ret _ _ k h
theorem lin_vfind {x : List Int} {f : Nat → VE → (SV → St → Prop) → Prop} (hf : ∀ i e, Lin (f i e)) : ∀ {es : List VE} {i : Nat}, Lin (fun k => vfind x es i fun j e => f j e k)
  | [], _ => fun k h => h.elim
  | [e], i => Lin.need (hf i e)
  | e :: e' :: r, i => Lin.branch (hf i e) (lin_vfind hf (es := e' :: r) (i := i + 1))
theorem lin_foundV {z : Value} {st : St} {ok : Bool} {en : VE} : Lin (fun k => foundV z st ok k en) := by
  intro k h
  unfold foundV at h ⊢
  split at h
  · exact lin_lookK k h
  · exact lin_found k h
theorem lin_look {T : TypeId} {st : St} {a b : SA} {ok : Bool} : Lin (evLook P T st a b ok) := by
  intro k h
  unfold evLook at h ⊢
  split at h
  · split at h
    · unfold evLookT at h ⊢
      split at h
      · split at h
        · exact (Lin.branch (lin_ghostB fun _ _ => lin_lookK) lin_found) k h
        · exact h.elim
      · exact h.elim
    · unfold evLookV at h ⊢
      split at h
      · split at h
        · exact lin_vfind (f := fun _ en k => foundV _ st ok k en) (fun _ _ => lin_foundV) k h
        · exact h.elim
      · exact h.elim
    · exact lin_lookup k h
  · exact lin_lookup k h
theorem lin_putT {kt : TypeId} {va : Bool} {o : Nat} {x : Value} {cells : List SC} {st : St} {u : SV} : Lin (fun k => evPutT P kt va o x cells st fun st' => k u st') := by
  intro k h
  unfold evPutT at h ⊢
  split at h
  · split at h
    · exact (Lin.branch (Lin.opt fun _ => Lin.ret _ _) (Lin.opt fun _ => Lin.ret _ _)) k h
    · exact h.elim
  · exact h.elim
theorem lin_mapUp {T : TypeId} {st : St} {a b c : SA} {v : SV} : Lin (fun k => evMapUp P T st a b c fun st' => k v st') := by
  intro k h
  unfold evMapUp at h ⊢
  split at h
  · split at h
    · unfold evUpdT at h ⊢
      split at h
      · split at h
        · obtain ⟨x, s, h1, h2⟩ := lin_frzRow _ h
          obtain ⟨v', s', h3, h4⟩ := lin_putT _ h1
          exact ⟨v', s', h3, fun k2 hk => h2 _ (h4 _ hk)⟩
        · exact h.elim
      · exact h.elim
    · unfold evUpdV at h ⊢
      split at h
      · split at h
        · refine lin_vfind (f := fun i e k => match e.val with
            | some _ => k v _
            | none => k v _) (fun i e => ?_) k h
          cases e.val
          · exact Lin.ret _ _
          · exact Lin.ret _ _
        · exact h.elim
      · exact h.elim
    · exact lin_mapUpdate k h
  · exact lin_mapUpdate k h
theorem lin_del {T : TypeId} {st : St} {a b : SA} {v : SV} : Lin (fun k => evDel P T st a b fun st' => k v st') := by
  intro k h
  unfold evDel at h ⊢
  split at h
  · split at h
    · unfold evDelT at h ⊢
      split at h
      · split at h
        · exact (Lin.branch (Lin.ret _ _) (Lin.ret _ _)) k h
        · exact h.elim
      · exact h.elim
    · unfold evDelV at h ⊢
      split at h
      · split at h
        · refine lin_vfind (f := fun i e k => k v _) (fun i e => ?_) k h
          exact Lin.ret _ _
        · exact h.elim
      · exact h.elim
    · exact lin_delete k h
  · exact lin_delete k h
theorem lin_entK {b : Int} {v : SV} {s : St} : Lin (fun k => entK b k v s) := by
  intro k h
  unfold entK at h ⊢
  split at h
  · exact Lin.ret _ _ k h
  · exact h.elim
theorem lin_mapEnt {T : TypeId} {st : St} {a b : SA} : Lin (evMapEnt P T st a b) := by
  intro k h
  unfold evMapEnt at h ⊢
  split at h
  · split at h
    · unfold evEntT at h ⊢
      split at h
      · split at h
        · refine (Lin.branch (lin_ghostB fun _ _ => lin_entK) ?_) k h
          intro k h
          split at h
          · exact (Lin.opt fun _ => Lin.ret _ _) k h
          · exact h.elim
        · exact h.elim
      · exact h.elim
    · unfold evEntV at h ⊢
      split at h
      · split at h
        · refine lin_vfind (f := fun i e k => match e.val with
            | some v => k (.tup [v, .one (.raw (.int .i64 e.born))]) _
            | none => k (.tup [SA.ofValue _, .one (.raw (.int .i64 _))]) _) (fun i e => ?_) k h
          cases e.val
          · exact Lin.ret _ _
          · exact Lin.ret _ _
        · exact h.elim
      · exact h.elim
    · exact lin_mapEntry k h
  · exact lin_mapEntry k h
theorem lin_entSt {st : St} {a b c : SA} {v : SV} : Lin (fun k => evEntSt st a b c fun st' => k v st') := by
  have old : Lin (fun k => evEntryStore st a b c fun st' => k v st') := Lin.bind (fun _ h => evEntryStore_lin h) (fun _ _ hk h => evEntryStore_mono hk h) fun a => Lin.ret v a
  intro k h
  unfold evEntSt at h ⊢
  split at h
  · split at h
    · unfold evEntStT at h ⊢
      split at h
      · split at h
        · exact (Lin.need (Lin.opt fun _ => Lin.ret _ _)) k h
        · exact h.elim
      · exact h.elim
    · unfold evEntStV at h ⊢
      split at h
      · split at h
        · exact (Lin.need (Lin.ret _ _)) k h
        · exact h.elim
      · exact h.elim
    · exact old k h
  · exact old k h
theorem lin_builtin {ice : Bool × Bool} {b : Builtin} {ts : List TypeId} {T : TypeId} {args : List SA} {st : St} : Lin (evBuiltin P ice b ts T args st) := by
  intro k h
  unfold evBuiltin at h ⊢
  split at h
  · exact (lin_val (e := evLen P _ st _) (fun _ h => evLen_lin h) (fun _ _ hk h => evLen_mono hk h)) k h
  · exact (lin_val (e := evCap P _ st _) (fun _ h => evCap_lin h) (fun _ _ hk h => evCap_mono hk h)) k h
  · exact lin_append k h
  · exact lin_copy k h
  · exact lin_clear k h
  · exact lin_del k h
  · exact (Lin.opt fun _ => Lin.opt fun _ => Lin.ret _ _) k h
  · exact (Lin.opt fun _ => Lin.opt fun _ => Lin.ret _ _) k h
  · exact h.elim
theorem lin_pick {x y : Option SV} {st : St} {cv : SA} : Lin (evPick x y st cv) := by
  intro k h
  unfold evPick at h ⊢
  split at h
  · exact (Lin.branch (Lin.opt fun _ => Lin.ret _ _) (Lin.opt fun _ => Lin.ret _ _)) k h
  · exact h.elim
theorem lin_un {op : UnOp} {st : St} {a : SA} : Lin (evUn P op st a) := by
  intro k h
  unfold evUn at h ⊢
  split at h
  · exact (Lin.opt fun _ => Lin.ret _ _) k h
  · exact h.elim
theorem lin_makeMap {tab : Bool} {T : TypeId} {st : St} {a : SA} : Lin (evMakeMap P tab T st a) := by
  intro k h
  unfold evMakeMap at h ⊢
  split at h
  · exact Lin.ret _ _ k h
  · exact h.elim
theorem lin_sliceMax {T : TypeId} {st : St} {a : SA} {l h' : Option SA} {z : SA} : Lin (evSliceMax P T st a l h' z) := by
  intro k h
  unfold evSliceMax at h ⊢
  cases h' with
  | some q => exact lin_slice3 k h
  | none => exact h.elim
def CallLin (call : CallT) : Prop := ∀ g args st, Lin (call g args st)
theorem lin_ovl {args : List SA} {st : St} : Lin (evOvl st args) := by
  intro k h
  unfold evOvl at h ⊢
  split at h
  · split at h
    · split at h
      · exact Lin.need (Lin.ret _ _) k h
      · exact h.elim
    · exact h.elim
  · exact h.elim
theorem lin_fn {ovl : FuncId → Bool} {call : CallT} (hc : CallLin call) {g : FuncId} {args : List SA} {st : St} : Lin (evFn ovl call g args st) := by
  intro k h
  unfold evFn at h ⊢
  split at h
  · exact lin_ovl k h
  · split at h
    · exact hc _ _ _ k h
    · exact h.elim
theorem lin_callee {ovl : FuncId → Bool} {call : CallT} (hc : CallLin call) {f : SA} {args : List SA} {st : St} : Lin (evCallee ovl call f args st) := by
  intro k h
  unfold evCallee at h ⊢
  split at h
  · exact lin_fn hc k h
  · split at h
    · split at h
      · exact hc _ _ _ k h
      · exact h.elim
    · exact hc _ _ _ k h
    · exact h.elim
  · exact h.elim
theorem lin_iter {call : CallT} (hc : CallLin call) {f : SA} {args : List SA} {st : St} : Lin (evIter call f args st) := by
  intro k h
  unfold evIter at h ⊢
  split at h
  · split at h
    · exact hc _ _ _ k h
    · exact h.elim
  · split at h
    · split at h
      · exact hc _ _ _ k h
      · exact h.elim
    · exact h.elim
  · exact h.elim
theorem lin_op {cx : Cx} {call : CallT} {ρ : Operand → Option SV} {st : St} {o : Oper} (hc : CallLin call) : Lin (evOp cx call ρ st o) := by
  intro k h
  unfold evOp at h ⊢
  dsimp only at h ⊢
  split at h
  · exact (Lin.opt fun _ => Lin.ret _ _) k h
  · exact (Lin.opt fun _ => Lin.ret _ _) k h
  · exact (Lin.opt fun _ => lin_pick) k h
  · exact (Lin.opt fun _ => Lin.of (f := evNew _ st _ _) (fun _ h => evNew_lin h) (fun _ _ hk h => evNew_mono hk h)) k h
  · exact (Lin.opt fun _ => Lin.of (f := evNew _ st _ _) (fun _ h => evNew_lin h) (fun _ _ hk h => evNew_mono hk h)) k h
  · exact (Lin.opt fun _ => Lin.opt fun _ => Lin.ret _ _) k h
  · exact (Lin.opt fun _ => Lin.of (f := evBuildSlice _ _ _ _ st) (fun _ h => evBuildSlice_lin h) (fun _ _ hk h => evBuildSlice_mono hk h)) k h
  · exact (Lin.opt fun _ => lin_load) k h
  · exact (Lin.opt fun _ => Lin.opt fun _ => LinS.lin lin_store _) k h
  · exact (Lin.opt fun _ => Lin.opt fun _ => Lin.ret _ _) k h
  · exact (Lin.opt fun _ => Lin.opt fun _ => lin_val (e := evBin _ _ _ _ _ st _ _) (fun _ h => evBin_lin h) (fun _ _ hk h => evBin_mono hk h)) k h
  · exact (Lin.opt fun _ => lin_un) k h
  · exact (Lin.opt fun _ => lin_convert) k h
  · exact (Lin.opt fun _ => Lin.opt fun _ => Lin.ret _ _) k h
  · split at h
    · exact Lin.ret _ _ k h
    · exact (Lin.opt fun _ => lin_makeMap) k h
  · split at h
    · exact (Lin.opt fun _ => Lin.opt fun _ => Lin.opt fun _ => lin_slice) k h
    · exact (Lin.opt fun _ => Lin.opt fun _ => Lin.opt fun _ => Lin.opt fun _ => lin_sliceMax) k h
  · exact (Lin.opt fun _ => Lin.opt fun _ => Lin.ret _ _) k h
  · exact (Lin.opt fun _ => Lin.opt fun _ => Lin.ret _ _) k h
  · exact (Lin.opt fun _ => Lin.opt fun _ => lin_val (e := evIndexAddr _ _ st _ _) (fun _ h => evIndexAddr_lin h) (fun _ _ hk h => evIndexAddr_mono hk h)) k h
  · exact (Lin.opt fun _ => Lin.opt fun _ => lin_val (e := evIndex _ _ _ _) (fun _ h => evIndex_lin h) (fun _ _ hk h => evIndex_mono hk h)) k h
  · exact (Lin.opt fun _ => Lin.opt fun _ => lin_look) k h
  · exact (Lin.opt fun _ => Lin.opt fun _ => Lin.opt fun _ => lin_mapUp) k h
  · exact (Lin.opt fun _ => Lin.opt fun _ => lin_mapEnt) k h
  · exact (Lin.opt fun _ => Lin.opt fun _ => Lin.opt fun _ => lin_entSt) k h
  · exact (Lin.opt fun _ => Lin.opt fun _ => Lin.of (f := evMakeSlice _ _ st _ _) (fun _ h => evMakeSlice_lin h) (fun _ _ hk h => evMakeSlice_mono hk h)) k h
  · split at h
    · exact (Lin.opt fun _ => Lin.ret _ _) k h
    · exact h.elim
  · split at h
    · exact (Lin.opt fun _ => lin_builtin) k h
    · exact (Lin.opt fun _ => Lin.opt fun _ => lin_callee hc) k h
    · exact h.elim
  · exact h.elim
end Go.Ev

/- THE ENGINE, part 16: an operation looks at its operands alone; what is said of references below a bound. -/
namespace Go.Ev
open Go
variable {P : Program}
theorem rhoSA_congr {ρ ρ' : Operand → Option SV} {x : Operand} (h : ρ x = ρ' x) : rhoSA ρ x = rhoSA ρ' x := by simp only [rhoSA, h]
theorem rhoSAs_congr {ρ ρ' : Operand → Option SV} : ∀ {xs : List Operand}, (∀ x ∈ xs, ρ x = ρ' x) → rhoSAs ρ xs = rhoSAs ρ' xs
  | [], _ => rfl
  | x :: r, h => by simp only [rhoSAs, rhoSA_congr (h x (by simp)), rhoSAs_congr (xs := r) fun y hy => h y (by simp [hy])]
theorem rhoParts_congr {ρ ρ' : Operand → Option SV} : ∀ {xs : List (Nat × Operand)}, (∀ x ∈ xs.map (·.2), ρ x = ρ' x) → rhoParts ρ xs = rhoParts ρ' xs
  | [], _ => rfl
  | x :: r, h => by simp only [rhoParts, rhoSA_congr (h x.2 (by simp)), rhoParts_congr (xs := r) fun y hy => h y (by simp at hy ⊢; exact .inr hy)]
theorem rhoOpt_congr {ρ ρ' : Operand → Option SV} {x : Option Operand} (h : ∀ y, x = some y → ρ y = ρ' y) : rhoOpt ρ x = rhoOpt ρ' x := by
  cases x with
  | none => rfl
  | some y => simp only [rhoOpt, rhoSA_congr (h y rfl)]
theorem evOp_congr {cx : Cx} {call : CallT} {ρ ρ' : Operand → Option SV} {st : St} {o : Oper} {k : SV → St → Prop} (h : ∀ x ∈ o.op.operands, ρ x = ρ' x) :
    evOp cx call ρ st o k = evOp cx call ρ' st o k := by
  unfold evOp
  generalize o.op = op at h ⊢
  cases op
  case call c =>
    cases hc : c.callee with
    | value f =>
      simp only [hc, rhoSA_congr (h f (by simp [Op.operands, Call.operands, hc])), rhoSAs_congr (xs := c.args.toList) fun x hx => h x (by simp [Op.operands, Call.operands]; right; simpa using hx)]
    | builtin b =>
      simp only [hc, rhoSAs_congr (xs := c.args.toList) fun x hx => h x (by simp [Op.operands, Call.operands]; right; simpa using hx)]
    | invoke r m => simp only [hc]
  case pick c a b =>
    simp only [rhoSA_congr (h c (by simp [Op.operands])), h a (by simp [Op.operands]), h b (by simp [Op.operands])]
  case build T ps =>
    simp only [rhoParts_congr (xs := ps.toList) fun x hx => h x (by simp [Op.operands]; simpa using hx)]
  case buildSlice T n ps =>
    simp only [rhoParts_congr (xs := ps.toList) fun x hx => h x (by simp [Op.operands]; simpa using hx)]
  case makeFunc fn first cap =>
    simp only [rhoSAs_congr (xs := first.toList) fun x hx => h x (by simp [Op.operands]; left; simpa using hx), rhoSAs_congr (xs := cap.toList) fun x hx => h x (by simp [Op.operands]; right; simpa using hx)]
  case makeMap T r =>
    cases r with
    | none => rfl
    | some x => simp only [rhoSA_congr (h x (by simp [Op.operands]))]
  case slice T x lo hi mx =>
    have e1 := rhoSA_congr (h x (by simp [Op.operands]))
    have e2 := rhoOpt_congr (x := lo) fun y hy => h y (by subst hy; simp [Op.operands])
    have e3 := rhoOpt_congr (x := hi) fun y hy => h y (by subst hy; simp [Op.operands])
    cases mx with
    | none => simp only [e1, e2, e3]
    | some y => simp only [e1, e2, e3, rhoSA_congr (h y (by simp [Op.operands]))]
  all_goals
    simp only [Op.operands, Array.mem_def, List.mem_cons, List.not_mem_nil, or_false, forall_eq_or_imp, forall_eq] at h
    first
      | rfl
      | simp only [rhoSA, h]
theorem belowL_iff {n : Nat} {l : List Nat} : belowL n l = true ↔ ∀ o ∈ l, o < n := by
  induction l with
  | nil => simp [belowL]
  | cons x r ih =>
    simp only [belowL]
    split
    · rename_i h; rw [ih]; have := Nat.le_of_ble_eq_true h; simp only [List.mem_cons, forall_eq_or_imp]; exact ⟨fun h => ⟨by omega, h⟩, fun h => h.2⟩
    · rename_i h
      simp only [Bool.false_eq_true, false_iff]
      intro hh
      have := hh x (by simp)
      rw [show Nat.blt x n = true from Nat.ble_eq_true_of_le this] at h; simp at h
def Al.upto (α : Al) (n : Nat) : Al := fun o => if o < n then α o else none
theorem Al.upto_lt {α : Al} {n o : Nat} (h : o < n) : α.upto n o = α o := by simp [Al.upto, h]
theorem Al.upto_le (α : Al) (n : Nat) : (α.upto n).le α := by
  intro o d h
  simp only [Al.upto] at h
  split at h
  · exact h
  · simp at h
theorem SC.val?_at {α β : Al} {c : SC} {v : Value} (h : ∀ o ∈ c.refs, β o = α o) (e : c.val? α = some v) : c.val? β = some v := by
  cases c <;> simp only [SC.val?] at e ⊢
  · exact e
  case dat => simp at e
  all_goals rw [h _ (by simp [SC.refs])]; exact e
theorem Reps.at {α β : Al} : ∀ {l : List SC} {vs : List Value}, (∀ o ∈ refsL l, β o = α o) → Reps α l vs → Reps β l vs
  | [], [], _, _ => trivial
  | _ :: _, _ :: _, h, e => ⟨SC.val?_at (fun o ho => h o (by simp [refsL, ho])) e.1, Reps.at (fun o ho => h o (by simp [refsL, ho])) e.2⟩
  | [], _ :: _, _, e => e.elim
  | _ :: _, [], _, e => e.elim
theorem SA.rep_at {α β : Al} {a : SA} {v : Value} (h : ∀ o ∈ a.refs, β o = α o) (e : a.rep α v) : a.rep β v := by
  cases a with
  | one c => exact SC.val?_at h e
  | agg l => obtain ⟨vs, r, e⟩ := e; exact ⟨vs, r.at h, e⟩
theorem RepsA.at {α β : Al} : ∀ {l : List SA} {vs : List Value}, (∀ o ∈ refsA l, β o = α o) → RepsA α l vs → RepsA β l vs
  | [], [], _, _ => trivial
  | _ :: _, _ :: _, h, e => ⟨SA.rep_at (fun o ho => h o (by simp [refsA, ho])) e.1, RepsA.at (fun o ho => h o (by simp [refsA, ho])) e.2⟩
  | [], _ :: _, _, e => e.elim
  | _ :: _, [], _, e => e.elim
theorem SV.rep_at {α β : Al} {a : SV} {v : Value} (h : ∀ o ∈ a.refs, β o = α o) (e : a.rep α v) : a.rep β v := by
  cases a with
  | sa c => exact SA.rep_at h e
  | tup l => obtain ⟨vs, r, e⟩ := e; exact ⟨vs, r.at h, e⟩
theorem EntsRep.at {α β : Al} : ∀ {es : List SE} {xs : List MapEntry}, (∀ o ∈ refsE es, β o = α o) → EntsRep α es xs → EntsRep β es xs
  | [], [], _, _ => trivial
  | _ :: _, _ :: _, h, e => ⟨⟨e.1.1, e.1.2.1, SA.rep_at (fun o ho => h o (by simp [refsE, ho])) e.1.2.2⟩, EntsRep.at (fun o ho => h o (by simp [refsE, ho])) e.2⟩
  | [], _ :: _, _, e => e.elim
  | _ :: _, [], _, e => e.elim
theorem VesRep.at {α β : Al} {kk : List IntKind} : ∀ {es : List VE} {ps : List MapEntry}, (∀ o ∈ refsV es, β o = α o) → VesRep α kk es ps → VesRep β kk es ps
  | [], _, _, e => e
  | ⟨_, none, _⟩ :: r, _, h, e => VesRep.at (es := r) h e
  | ⟨_, some _, _⟩ :: _, _, h, ⟨p, q, h1, h2, hb, h3, h4⟩ => ⟨p, q, h1, h2, hb, SA.rep_at (fun o ho => h o (by simp [refsV, ho])) h3, VesRep.at (fun o ho => h o (by simp [refsV, ho])) h4⟩
theorem mem_refsLL {o : Nat} {c : SC} : ∀ {vs : List (List SC)} {i j : Nat}, (vs[i]?.getD [])[j]? = some c → o ∈ c.refs → o ∈ refsLL vs
  | [], i, j, h, _ => by simp at h
  | l :: r, 0, j, h, ho => by
    simp at h
    simp only [refsLL, List.mem_append]
    left
    clear r
    induction l generalizing j with
    | nil => simp at h
    | cons d l ih => cases j with
      | zero => simp at h; subst h; simp [refsL, ho]
      | succ j => simp only [refsL, List.mem_append]; exact .inr (ih j (by simpa using h))
  | l :: r, i + 1, j, h, ho => by
    simp only [refsLL, List.mem_append]
    exact .inr (mem_refsLL (vs := r) (i := i) (j := j) (by simpa using h) ho)
def Ct.told : Ct → List (List SC)
  | .lst vs => vs
  | .ext _ _ vs => vs
  | .at1 _ _ _ e => [e]
  | _ => []
theorem colsAt_refs (i : Nat) : ∀ (cs : List Col), ∀ c ∈ colsAt i cs, c.refs = []
  | [], _, hc => by cases hc
  | x :: r, c, hc => by
    simp only [colsAt, List.mem_cons] at hc
    rcases hc with rfl | hc
    · cases x <;> rfl
    · exact colsAt_refs i r c hc
theorem Ct.ext_get {n : Nat} {cs : List Col} {vs : List (List SC)} {i : Nat} : (Ct.ext n cs vs).get i = if i < n then colsAt i cs else (Ct.lst vs).get (i - n) := by
  show (match Nat.blt i n with | true => colsAt i cs | false => getL [] vs (i - n)) = _
  by_cases hi : i < n
  · rw [if_pos hi, show Nat.blt i n = true by rw [Nat.blt_eq]; exact hi]
  · rw [if_neg hi]
    split
    · rename_i hb; rw [Nat.blt_eq] at hb; exact absurd hb hi
    · rfl
theorem Ct.at1_get {n : Nat} {vs : List Value} {j i : Nat} {e : List SC} : (Ct.at1 n vs j e).get i = if i = j then e else [.raw (getL (.bool false) vs i)] := by
  show (match Nat.beq i j with | true => e | false => [.raw (getL (.bool false) vs i)]) = _
  by_cases h : i = j
  · subst h; rw [if_pos rfl, Nat.beq_refl]
  · rw [if_neg h, show Nat.beq i j = false by cases hb : Nat.beq i j with | false => rfl | true => exact absurd (Nat.eq_of_beq_eq_true hb) h]
theorem Ct.Cells.at {w : World} {α β : Al} {ct : Ct} {m : Nat} {g : Nat → Nat → Option Value} (h : ∀ o ∈ refsLL ct.told, β o = α o) (hc : ct.Cells w α m g) : ct.Cells w β m g := by
  intro i hi
  obtain ⟨h1, h2⟩ := hc i hi
  refine ⟨h1, fun j c hj => ?_⟩
  obtain ⟨v, h3, h4, h5⟩ := h2 j c hj
  by_cases hdat : ∃ k xs, c = .dat k xs
  · obtain ⟨k, xs, rfl⟩ := hdat
    exact ⟨v, h3, h4, h5⟩
  refine ⟨v, CellOk.of (SC.val?_at (fun o ho => ?_) (h3.val fun k xs e => hdat ⟨k, xs, e⟩)), h4, h5⟩
  cases ct with
  | lst vs =>
    refine h o (mem_refsLL (vs := vs) (i := i) (j := j) ?_ ho)
    simpa [Ct.get] using hj
  | ints k xs =>
    have := List.mem_of_getElem? hj
    simp only [Ct.get, List.mem_singleton] at this
    subst this; simp [SC.refs] at ho
  | tab n cs =>
    have := List.mem_of_getElem? hj
    have hno : ∀ (cs : List Col), ∀ c ∈ colsAt i cs, c.refs = [] := by
      intro cs
      induction cs with
      | nil => intro c hc; cases hc
      | cons x r ih =>
        intro c hc
        simp only [colsAt, List.mem_cons] at hc
        rcases hc with rfl | hc
        · cases x <;> rfl
        · exact ih c hc
    rw [hno cs c this] at ho
    cases ho
  | ext n cs vs =>
    rw [Ct.ext_get] at hj
    split at hj
    · rw [colsAt_refs i cs c (List.mem_of_getElem? hj)] at ho
      cases ho
    · refine h o (mem_refsLL (vs := vs) (i := i - n) (j := j) ?_ ho)
      simpa [Ct.get] using hj
  | at1 n vs l e =>
    rw [Ct.at1_get] at hj
    split at hj
    · exact h o (mem_refsLL (vs := [e]) (i := 0) (j := j) (by simpa [getL] using hj) ho)
    · have := List.mem_of_getElem? hj
      simp only [List.mem_singleton] at this
      subst this; simp [SC.refs] at ho
theorem mem_frRefs {sv : SV} {o : Nat} : ∀ {fr : Fr} {t : Nat}, fr[t]?.getD none = some sv → o ∈ sv.refs → o ∈ frRefs fr
  | [], t, h, _ => by simp at h
  | none :: r, 0, h, _ => by simp at h
  | none :: r, t + 1, h, ho => by simp only [frRefs]; exact mem_frRefs (fr := r) (t := t) (by simpa using h) ho
  | some v :: r, 0, h, ho => by simp at h; subst h; simp only [frRefs, List.mem_append]; exact .inl ho
  | some v :: r, t + 1, h, ho => by simp only [frRefs, List.mem_append]; exact .inr (mem_frRefs (fr := r) (t := t) (by simpa using h) ho)
theorem FrOk.at {α β : Al} {fr : Fr} {tmps : Array Value} (h : ∀ o ∈ frRefs fr, β o = α o) (hf : FrOk α fr tmps) : FrOk β fr tmps :=
  ⟨hf.1, fun t sv ht => let ⟨v, h1, h2⟩ := hf.2 t sv ht; ⟨v, h1, SV.rep_at (fun o ho => h o (mem_frRefs (by rw [← Fr.get_eq]; exact ht) ho)) h2⟩⟩
theorem Good.at {α β : Al} {w : World} {d : Den} {so : SO} (h : ∀ o ∈ so.refs, β o = α o) (hg : Good α w d so) : Good β w d so := by
  cases so with
  | mem wb k T m ct =>
    have hc : ∀ o ∈ refsLL ct.told, β o = α o := fun o ho => h o (by cases ct <;> first | exact ho | cases ho)
    obtain ⟨h1, h2, h4⟩ := hg
    refine ⟨h1, h2, ?_⟩
    cases k with
    | ext => exact ⟨h4.1, h4.2.at hc⟩
    | whole => obtain ⟨cs, fz, h5, h6, h7, h8, h9, h10⟩ := h4; exact ⟨cs, fz, h5, h6, h7, h8, h9, h10.at hc⟩
    | row => obtain ⟨cs, fz, h5, h6, h7, h8, h9, h10⟩ := h4; exact ⟨cs, fz, h5, h6, h7, h8, h9, h10.at hc⟩
  | own wb k T m ct =>
    have hc : ∀ o ∈ refsLL ct.told, β o = α o := fun o ho => h o (by cases ct <;> first | exact ho | cases ho)
    obtain ⟨h1, h2, h3 | ⟨h3, hv, hcap, h4⟩⟩ := hg
    · exact ⟨h1, h2, .inl h3⟩
    · refine ⟨h1, h2, .inr ⟨h3, hv, hcap, ?_⟩⟩
      cases k with
      | ext => exact ⟨h4.1, h4.2.at hc⟩
      | whole => obtain ⟨cs, fz, h5, h6, h7, h10⟩ := h4; exact ⟨cs, fz, h5, h6, h7, h10.at hc⟩
      | row => obtain ⟨cs, fz, h5, h6, h7, h10⟩ := h4; exact ⟨cs, fz, h5, h6, h7, h10.at hc⟩
  | mt wb kc va cs bs cl => exact hg
  | abs wb t D => exact hg
  | box wb ob => exact hg
  | mv wb kk es rs cl hot => obtain ⟨h1, xs, ps, h2, h3⟩ := hg; exact ⟨h1, xs, ps, h2, { h3 with rep := h3.rep.at fun o ho => h o (by simpa [SO.refs] using ho) }⟩
  | clo f a b =>
    obtain ⟨va, vb, h1, h2, h3⟩ := hg
    exact ⟨va, vb, h1.at fun o ho => h o (by simp [SO.refs, ho]), h2.at fun o ho => h o (by simp [SO.refs, ho]), h3⟩
  | part o i n => obtain ⟨e, a, c, h1, h2⟩ := hg; exact ⟨e, a, c, (h o (by simp [SO.refs])).trans h1, h2⟩
  | nul => exact hg
  | mp k es cl => obtain ⟨h1, xs, h2, h3⟩ := hg; exact ⟨h1, xs, h2, h3.at fun o ho => h o (by simpa [SO.refs] using ho)⟩
  | lp wb f fr ps a b s j => obtain ⟨h1, r, h2, h3, h4⟩ := hg; exact ⟨h1, r, h2, h3.at fun o ho => h o (by simpa [SO.refs] using ho), h4⟩
theorem belowS_get {n : Nat} : ∀ {st : St}, belowS n st = true → ∀ {x : Nat} {so : SO}, st[x]? = some (some so) → ∀ o ∈ so.refs, o < n
  | [], _, x, so, h => by simp at h
  | none :: r, hb, 0, so, h => by simp at h
  | some s :: r, hb, 0, so, h => by
    simp at h; subst h
    simp only [belowS] at hb
    split at hb
    · rename_i hl; exact belowL_iff.1 hl
    · simp at hb
  | none :: r, hb, x + 1, so, h => belowS_get (st := r) (by simpa [belowS] using hb) (x := x) (by simpa using h)
  | some s :: r, hb, x + 1, so, h => by
    simp only [belowS] at hb
    split at hb
    · exact belowS_get (st := r) hb (x := x) (by simpa using h)
    · simp at hb
theorem opRefs_mem {ρ : Operand → Option SV} {x : Operand} {sv : SV} : ∀ {xs : List Operand}, x ∈ xs → ρ x = some sv → ∀ o ∈ sv.refs, o ∈ opRefs ρ xs
  | [], h, _, _, _ => by simp at h
  | y :: r, h, hx, o, ho => by
    simp only [opRefs]
    rcases List.mem_cons.1 h with rfl | h
    · rw [hx]; simp [ho]
    · have := opRefs_mem h hx o ho
      split
      · simp [this]
      · exact this
end Go.Ev

/- THE ENGINE, part 16: a region that draws its order. -/
namespace Go.Ev
open Go
variable {P : Program}
theorem hasN_iff {n : Nat} {l : List Nat} : hasN n l = true ↔ n ∈ l := by
  induction l with
  | nil => simp [hasN]
  | cons m r ih =>
    simp only [hasN, List.mem_cons]
    split
    · rename_i h; simp [Nat.eq_of_beq_eq_true h]
    · rename_i h
      have hne : n ≠ m := fun e => by subst e; simp at h
      rw [ih]; simp [hne]
theorem mem_upFrom {n i x : Nat} : x ∈ upFrom i n ↔ i ≤ x ∧ x < i + n := by
  induction n generalizing i with
  | zero => simp [upFrom]
  | succ n ih => simp only [upFrom, List.mem_cons, ih]; omega
theorem meets_iff {l r : List Nat} : meets l r = true ↔ ∃ x, x ∈ l ∧ x ∈ r := by
  induction l with
  | nil => simp [meets]
  | cons m l ih =>
    simp only [meets]
    split
    · rename_i h; simp only [true_iff]; exact ⟨m, by simp, hasN_iff.1 h⟩
    · rename_i h
      rw [ih]
      constructor
      · rintro ⟨x, h1, h2⟩; exact ⟨x, by simp [h1], h2⟩
      · rintro ⟨x, h1, h2⟩
        rcases List.mem_cons.1 h1 with rfl | h1
        · rw [hasN_iff.2 h2] at h; simp at h
        · exact ⟨x, h1, h2⟩
theorem restrict_length (rd wr : List Nat) : ∀ (i : Nat) (st : St), (restrict rd wr i st).length = st.length
  | _, [] => rfl
  | i, x :: r => by simp [restrict, restrict_length rd wr (i + 1) r]
theorem restrict_get (rd wr : List Nat) : ∀ (i : Nat) (st : St) (x : Nat), x < st.length →
    (restrict rd wr i st)[x]? = some (if i + x ∈ wr then st[x]?.getD none else if i + x ∈ rd then (st[x]?.getD none).map SO.asRo else none)
  | i, [], x, h => by simp at h
  | i, y :: r, 0, _ => by
    simp only [restrict, List.getElem?_cons_zero, Nat.add_zero, Option.getD_some]
    cases h1 : hasN i wr with
    | true => simp [hasN_iff.1 h1]
    | false =>
      have hn : i ∉ wr := fun e => by rw [hasN_iff.2 e] at h1; simp at h1
      cases h2 : hasN i rd with
      | true => simp [hn, hasN_iff.1 h2]
      | false =>
        have hn2 : i ∉ rd := fun e => by rw [hasN_iff.2 e] at h2; simp at h2
        simp [hn, hn2]
  | i, y :: r, x + 1, h => by
    simp only [restrict, List.getElem?_cons_succ]
    rw [restrict_get rd wr (i + 1) r x (by simpa using h)]
    rw [show i + 1 + x = i + (x + 1) from by omega]
theorem mergeS_get (wr : List Nat) : ∀ (i : Nat) (st s : St) (x : Nat),
    (mergeS wr i st s)[x]? = if x < st.length then some (if i + x ∈ wr then s[x]?.getD none else st[x]?.getD none) else s[x]?
  | i, [], s, x => by simp [mergeS]
  | i, y :: r, s, x => by
    have ih := mergeS_get wr (i + 1) r (s.drop 1)
    simp only [mergeS, dropL_eq, getL_eq]
    cases x with
    | zero =>
      simp only [List.getElem?_cons_zero, List.length_cons, Nat.zero_lt_succ, if_true, Nat.add_zero, Option.getD_some]
      cases h1 : hasN i wr with
      | true => simp [hasN_iff.1 h1]
      | false =>
        have hn : i ∉ wr := fun e => by rw [hasN_iff.2 e] at h1; simp at h1
        simp [hn]
    | succ x =>
      simp only [List.getElem?_cons_succ, List.length_cons, Nat.add_lt_add_iff_right]
      rw [ih x, show i + 1 + x = i + (x + 1) from by omega]
      simp only [List.getElem?_drop, Nat.add_comm 1 x]
theorem mergeS_length (wr : List Nat) : ∀ (i : Nat) (st s : St), (mergeS wr i st s).length = max st.length s.length
  | i, [], s => by simp [mergeS]
  | i, y :: r, s => by
    simp only [mergeS, dropL_eq, List.length_cons, mergeS_length wr (i + 1) r, List.length_drop]
    omega
def updF (N : Nat) (F : Nat → Option SV) (d : Option Nat) (v : SV) : Nat → Option SV := fun u => if d = some u ∧ u < N then some v else F u
def foldF (N : Nat) (dst : Nat → Option Nat) (val : Nat → SV) (F0 : Nat → Option SV) (D : Nat → Bool) : Nat → Nat → Option SV
  | 0 => F0
  | n + 1 => if D n = true then updF N (foldF N dst val F0 D n) (dst n) (val n) else foldF N dst val F0 D n
theorem foldF_stop {N : Nat} {dst : Nat → Option Nat} {val : Nat → SV} {F0 : Nat → Option SV} {D : Nat → Bool} {i t : Nat} :
    ∀ n, i ≤ n → (∀ j, i ≤ j → j < n → dst j = some t → D j = false) → foldF N dst val F0 D n t = foldF N dst val F0 D i t
  | 0, h, _ => by have : i = 0 := by omega
                  subst this; rfl
  | n + 1, h, hw => by
    by_cases e : i = n + 1
    · subst e; rfl
    · have ih := foldF_stop (D := D) (i := i) (t := t) (N := N) (dst := dst) (val := val) (F0 := F0) n (by omega) (fun j h1 h2 => hw j h1 (by omega))
      simp only [foldF]
      split
      · rename_i hd
        simp only [updF]
        rw [if_neg ?_]
        · exact ih
        · rintro ⟨h1, _⟩
          have := hw n (by omega) (by omega) h1
          rw [hd] at this; simp at this
      · exact ih
theorem foldF_all {N : Nat} {dst : Nat → Option Nat} {val : Nat → SV} {F0 : Nat → Option SV} {D : Nat → Bool} {t : Nat} :
    ∀ i, (∀ j, j < i → dst j = some t → D j = true) → foldF N dst val F0 D i t = foldF N dst val F0 (fun _ => true) i t
  | 0, _ => rfl
  | i + 1, hw => by
    have ih := foldF_all (D := D) (t := t) (N := N) (dst := dst) (val := val) (F0 := F0) i (fun j hj => hw j (by omega))
    simp only [foldF, if_true]
    by_cases hd : D i = true
    · rw [if_pos hd]
      simp only [updF]
      split
      · rfl
      · exact ih
    · rw [if_neg hd]
      simp only [updF]
      rw [if_neg ?_]
      · exact ih
      · rintro ⟨h1, _⟩
        exact hd (hw i (by omega) h1)
def foldS (ws : Nat → Nat → Bool) (post : Nat → St) (C0 : Nat → Option SO) (D : Nat → Bool) : Nat → Nat → Option SO
  | 0 => C0
  | n + 1 => if D n = true then (fun x => if ws n x = true then (post n).get x else foldS ws post C0 D n x) else foldS ws post C0 D n
theorem foldS_stop {ws : Nat → Nat → Bool} {post : Nat → St} {C0 : Nat → Option SO} {D : Nat → Bool} {i x : Nat} :
    ∀ n, i ≤ n → (∀ j, i ≤ j → j < n → ws j x = true → D j = false) → foldS ws post C0 D n x = foldS ws post C0 D i x
  | 0, h, _ => by have : i = 0 := by omega
                  subst this; rfl
  | n + 1, h, hw => by
    by_cases e : i = n + 1
    · subst e; rfl
    · have ih := foldS_stop (D := D) (i := i) (x := x) (ws := ws) (post := post) (C0 := C0) n (by omega) (fun j h1 h2 => hw j h1 (by omega))
      simp only [foldS]
      split
      · rename_i hd
        simp only
        rw [if_neg ?_]
        · exact ih
        · intro h1
          have := hw n (by omega) (by omega) h1
          rw [hd] at this; simp at this
      · exact ih
theorem foldS_all {ws : Nat → Nat → Bool} {post : Nat → St} {C0 : Nat → Option SO} {D : Nat → Bool} {x : Nat} :
    ∀ i, (∀ j, j < i → ws j x = true → D j = true) → foldS ws post C0 D i x = foldS ws post C0 (fun _ => true) i x
  | 0, _ => rfl
  | i + 1, hw => by
    have ih := foldS_all (D := D) (x := x) (ws := ws) (post := post) (C0 := C0) i (fun j hj => hw j (by omega))
    simp only [foldS, if_true]
    by_cases hd : D i = true
    · rw [if_pos hd]
      split
      · rfl
      · exact ih
    · rw [if_neg hd, if_neg ?_]
      · exact ih
      · intro h1
        exact hd (hw i (by omega) h1)
def Closed (ops : List Oper) (D : Nat → Bool) : Prop :=
  ∀ (j : Nat) (o : Oper), ops[j]? = some o → D j = true → ∀ e ∈ o.after.toList, Region.binds .any e = true → D e.on = true
theorem uniN_mem {i : Nat} : ∀ {l m : List Nat}, i ∈ uniN l m → i ∈ l ∨ i ∈ m
  | [], m, h => .inr h
  | x :: r, m, h => by
    unfold uniN at h
    split at h
    · rcases uniN_mem h with h | h
      · exact .inl (List.mem_cons_of_mem _ h)
      · exact .inr h
    · rcases uniN_mem h with h | h
      · exact .inl (List.mem_cons_of_mem _ h)
      · rcases List.mem_cons.1 h with rfl | h
        · exact .inl (List.mem_cons_self ..)
        · exact .inr h
theorem ancestors_spec {D : Nat → Bool} : ∀ (rest all : List Oper) (acc : List (List Nat)), all.drop acc.length = rest → Closed all D →
    (∀ (j i : Nat), i ∈ acc[j]?.getD [] → D j = true → D i = true) → ∀ (j i : Nat), i ∈ (ancestors rest acc)[j]?.getD [] → D j = true → D i = true
  | [], all, acc, _, _, hacc => by simpa [ancestors] using hacc
  | o :: rest, all, acc, hd, hc, hacc => by
    simp only [ancestors]
    have ho : all[acc.length]? = some o := by
      have : (all.drop acc.length)[0]? = some o := by rw [hd]; rfl
      simpa using this
    refine ancestors_spec rest all _ (by simp; rw [← List.drop_drop, hd]; rfl) hc fun j i hi hj => ?_
    by_cases hlt : j < acc.length
    · rw [List.getElem?_append_left hlt] at hi
      exact hacc j i hi hj
    · rw [List.getElem?_append_right (by omega)] at hi
      by_cases he : j = acc.length
      · subst he
        simp only [Nat.sub_self, List.getElem?_cons_zero, Option.getD_some] at hi
        have hi := (uniN_mem hi).resolve_right (by simp)
        simp only [List.mem_flatMap] at hi
        obtain ⟨e, he, hm⟩ := hi
        split at hm
        · rename_i hb
          have hon := hc _ o ho hj e he hb
          rcases List.mem_cons.1 hm with rfl | hm
          · exact hon
          · rw [getL_eq] at hm
            exact hacc _ _ hm hon
        · simp at hm
      · have : (acc ++ [uniN (o.after.toList.flatMap fun e => if Region.binds .any e then e.on :: getL [] acc e.on else []) []]).length ≤ j := by simp; omega
        rw [List.getElem?_eq_none (by simp; omega)] at hi
        simp at hi
end Go.Ev

/- THE ENGINE, part 18: what a run in the text's order leaves behind, operation by operation. -/
namespace Go.Ev
open Go
variable {P : Program}
def slots (ops : List Oper) (o : Oper) : List Nat := match o.guard with
  | some (j, _) => (match ops[j]? with | some oj => oj.dst.toList | none => [])
  | none => []
def Wants (ops : Array Oper) (o : Oper) (fr : Fr) (b : Bool) : Prop :=
  ∀ (α : Al) (tmps : Array Value), (∀ d ∈ slots ops.toList o, ∀ sv, fr.get d = some sv → ∃ v, tmps[d]? = some v ∧ SV.rep α sv v) → Region.wanted o (yielded ops tmps) = b
theorem Fr.put_same {fr : Fr} {t : Nat} {v : SV} (h : fr.get t = some v) : fr.put (some t) v = fr := by
  rw [Fr.put_some]
  apply List.ext_getElem?
  intro i
  rw [List.getElem?_set]
  split
  · rename_i e
    subst e
    rw [Fr.get_eq] at h
    by_cases hlt : t < fr.length
    · rw [if_pos hlt]
      rw [List.getElem?_eq_getElem hlt] at h ⊢
      simp at h; rw [h]
    · rw [List.getElem?_eq_none (by omega)] at h; simp at h
  · rfl
theorem evGuard_split {ops : Array Oper} {o : Oper} {fr : Fr} {run skip : Fr → Prop} (h : evGuard ops.toList o fr run skip) :
    (run fr ∧ Wants ops o fr true) ∨ (skip fr ∧ Wants ops o fr false) := by
  unfold evGuard at h
  unfold Wants Region.wanted slots
  split at h
  · rename_i hg
    left
    exact ⟨h, fun _ _ _ => by simp [hg]⟩
  · rename_i j want hg
    simp only [hg]
    split at h
    · rename_i hj
      right
      refine ⟨h, fun _ _ _ => ?_⟩
      have : ops[j]? = none := by simpa using hj
      simp [yielded, this]
    · rename_i oj hj
      have hj' : ops[j]? = some oj := by simpa using hj
      simp only [hj]
      split at h
      · rename_i hd
        right
        exact ⟨h, fun _ _ _ => by simp [yielded, hj', hd]⟩
      · rename_i d hd
        simp only [hd, Option.toList_some, List.mem_singleton, forall_eq]
        split at h
        · rename_i b hb
          have key : ∀ (α : Al) (tmps : Array Value), (∀ sv, fr.get d = some sv → ∃ v, tmps[d]? = some v ∧ SV.rep α sv v) → yielded ops tmps j = some b := by
            intro α tmps ht
            obtain ⟨v, h1, h2⟩ := ht _ hb
            simp only [SV.rep, SA.rep, SC.val?, Option.some.injEq] at h2
            subst h2
            simp [yielded, hj', hd, h1]
          split at h
          · rcases branch_or h with ⟨e, h⟩ | ⟨e, h⟩
            · left; rw [Fr.put_same (by rw [hb, e])] at h; exact ⟨h, fun α tmps ht => by simp [key α tmps ht, e]⟩
            · right; rw [Fr.put_same (by rw [hb, e])] at h; exact ⟨h, fun α tmps ht => by simp [key α tmps ht, e]⟩
          · rcases branch_or h with ⟨e, h⟩ | ⟨e, h⟩
            · right; rw [Fr.put_same (by rw [hb, e])] at h; exact ⟨h, fun α tmps ht => by simp [key α tmps ht, e]⟩
            · left; rw [Fr.put_same (by rw [hb, e])] at h; exact ⟨h, fun α tmps ht => by simp [key α tmps ht, e]⟩
        · rename_i hb
          right
          refine ⟨h, fun α tmps ht => ?_⟩
          obtain ⟨v, h1, vs, h2, h3⟩ := ht _ hb
          subst h3
          simp [yielded, hj', hd, h1]
        · exact h.elim
theorem sameC_eq {a b : SC} (h : sameC a b = true) : a = b := by
  unfold sameC at h
  split at h
  · split at h
    · rename_i hk
      rw [of_decide_eq_true hk, eqK_t.1 h]
    · cases h
  · rw [eq_of_beq h]
  · rfl
  · simp only [Bool.and_eq_true, Nat.beq_eq] at h
    obtain ⟨h1, h2⟩ := h
    subst h1 h2; rfl
  · simp only [Bool.and_eq_true, Nat.beq_eq] at h
    obtain ⟨⟨h1, h2⟩, h3⟩ := h
    subst h1 h2 h3; rfl
  · simp only [Nat.beq_eq] at h
    subst h; rfl
  · cases h
theorem sameCs_eq : ∀ {a b : List SC}, sameCs a b = true → a = b
  | [], [], _ => rfl
  | a :: l, b :: r, h => by
    simp only [sameCs] at h
    split at h
    · rename_i h1; rw [sameC_eq h1, sameCs_eq h]
    · cases h
  | [], _ :: _, h => by cases h
  | _ :: _, [], h => by cases h
theorem sameV_eq {a b : SV} (h : sameV a b = true) : a = b := by
  unfold sameV at h
  split at h
  · rw [sameC_eq h]
  · rw [sameCs_eq h]
  · cases h
theorem load_same {T : TypeId} {st : St} {a : SA} {K : SV → St → Prop} (h : evLoad P T st a K) (hK : ∀ v s, K v s → s.length = st.length) : ∃ v, K v st ∧ ∀ K2 : SV → St → Prop, K2 v st → evLoad P T st a K2 := by
  obtain ⟨v, s, h1, h2⟩ := lin_load _ h
  have hs := hK _ _ h1
  have : s = st := by
    have h3 := h2 (fun v' s' => s' = s ∧ v' = v) ⟨rfl, rfl⟩
    have hg : ∀ (c : SA) (K : SV → St → Prop), ghostA c st K → (∀ v s, K v s → s.length = st.length) → ∀ s, (∀ v' s', K v' s' → s' = s) → s = st := by
      intro c K hc hl s hk
      unfold ghostA at hc
      split at hc
      · have := hl _ _ hc; simp at this
      · exact (hk _ _ hc).symm
      · rename_i l
        have gl : ∀ (l : List SC) (st : St), st.length ≤ (ghosts l st).2.length ∧ ((ghosts l st).2.length = st.length → (ghosts l st).2 = st) := by
          intro l
          induction l with
          | nil => intro st; exact ⟨Nat.le_refl _, fun _ => rfl⟩
          | cons c r ih =>
            intro st
            cases c with
            | dat k xs =>
              simp only [ghosts]
              have := (ih (st ++ [some (.own false .ext 0 1 (.ints k xs))])).1
              simp at this
              exact ⟨by omega, fun h => by omega⟩
            | _ => simp only [ghosts]; exact ih st
        have h1 := hl _ _ hc
        have h2 := hk _ _ hc
        rw [← h2]
        exact (gl l st).2 h1
    have hl3 : ∀ v' s', (s' = s ∧ v' = v) → s'.length = st.length := fun v' s' e => by rw [e.1]; exact hs
    unfold evLoad at h3
    split at h3
    · split at h3
      · split at h3
        · obtain ⟨_, h3⟩ := need_iff.1 h3
          exact hg _ _ h3 hl3 s fun v' s' e => e.1
        · obtain ⟨_, h3⟩ := need_iff.1 h3
          obtain ⟨_, _, h3⟩ := opt_iff.1 (Ct.atK_iff.1 h3).2
          exact hg _ _ h3 hl3 s fun v' s' e => e.1
      · exact h3.elim
    · split at h3
      · exact h3.1.symm
      · exact h3.elim
    · exact h3.elim
  subst this
  exact ⟨v, h1, h2⟩
def Reads (P : Program) (T : TypeId) (st : St) (a : SA) (v : SV) : Prop := evLoad P T st a fun v' s => sameV v' v = true ∧ s = st
def StillC (P : Program) (anc wr : List Nat) (st : St) (log : List Rec) (i0 : Nat) : Prop :=
  ∀ i r T a v, log[i]? = some r → r.ld = some (T, a, v) → meets wr r.rd = true → i0 + i ∉ anc → Reads P T st a v
theorem still_iff {anc wr : List Nat} {st : St} : ∀ {log : List Rec} {i0 : Nat} {p : Prop}, still P anc wr st log i0 p ↔ StillC P anc wr st log i0 ∧ p
  | [], i0, p => by simp [still, StillC]
  | r :: rs, i0, p => by
    have tail : StillC P anc wr st (r :: rs) i0 → StillC P anc wr st rs (i0 + 1) := fun h i r' T a v h1 h2 h3 h4 =>
      h (i + 1) r' T a v (by simpa using h1) h2 h3 (by rw [show i0 + (i + 1) = i0 + 1 + i by omega]; exact h4)
    have cons : StillC P anc wr st rs (i0 + 1) → (∀ T a v, r.ld = some (T, a, v) → meets wr r.rd = true → i0 ∉ anc → Reads P T st a v) → StillC P anc wr st (r :: rs) i0 := by
      intro h h0 i r' T a v h1 h2 h3 h4
      cases i with
      | zero => simp at h1; subst h1; exact h0 T a v h2 h3 (by simpa using h4)
      | succ i => exact h i r' T a v (by simpa using h1) h2 h3 (by rw [show i0 + 1 + i = i0 + (i + 1) by omega]; exact h4)
    simp only [still]
    split
    · rename_i T a v hld
      split
      · rename_i hm
        split
        · rename_i ha
          rw [still_iff]
          refine ⟨fun ⟨h1, h2⟩ => ⟨cons h1 fun T' a' v' e _ hn => absurd (hasN_iff.1 ha) hn, h2⟩, fun ⟨h1, h2⟩ => ⟨tail h1, h2⟩⟩
        · rename_i ha
          have ha : i0 ∉ anc := fun e => by rw [hasN_iff.2 e] at ha; cases ha
          constructor
          · intro h
            obtain ⟨v', s', h1, h2⟩ := lin_load _ h
            have h1' := h1
            split at h1'
            · rename_i hl
              have hl : s'.length = st.length := by simpa using hl
              obtain ⟨hv, h3⟩ := need_iff.1 h1'
              obtain ⟨g1, g2⟩ := still_iff.1 h3
              refine ⟨cons g1 fun T' a' v'' e _ _ => ?_, g2⟩
              rw [hld] at e
              cases e
              obtain ⟨v2, e1, e2⟩ := load_same (K := fun x y => x = v' ∧ y = s') (h2 _ ⟨rfl, rfl⟩) (fun x y e => by rw [e.2]; exact hl)
              refine e2 _ ⟨?_, rfl⟩
              rw [e1.1]; exact hv
            · exact h1'.elim
          · rintro ⟨h1, h2⟩
            have hr := h1 0 r T a v rfl hld hm (by simpa using ha)
            obtain ⟨v', s', g1, g2⟩ := lin_load _ hr
            obtain ⟨hv, rfl⟩ := g1
            refine g2 _ ?_
            have hb : Nat.beq (lenL s') (lenL s') = true := Nat.beq_refl _
            rw [hb]
            dsimp only
            exact need_iff.2 ⟨hv, still_iff.2 ⟨tail h1, h2⟩⟩
      · rename_i hm
        rw [still_iff]
        exact ⟨fun ⟨h1, h2⟩ => ⟨cons h1 fun _ _ _ _ e _ => (by rw [hm] at e; cases e), h2⟩, fun ⟨h1, h2⟩ => ⟨tail h1, h2⟩⟩
    · rename_i hld
      rw [still_iff]
      exact ⟨fun ⟨h1, h2⟩ => ⟨cons h1 fun _ _ _ e _ _ => (by rw [hld] at e; cases e), h2⟩, fun ⟨h1, h2⟩ => ⟨tail h1, h2⟩⟩
theorem stillIf_iff {b : Bool} {anc wr : List Nat} {st : St} {log : List Rec} {p : Prop} : stillIf b P anc wr st log p ↔ (b = true → StillC P anc wr st log 0) ∧ p := by
  cases b with
  | true => simp only [stillIf, still_iff, forall_const]
  | false => simp [stillIf]
structure Tr where
  fr : Nat → Fr
  st : Nat → St
  ran : Nat → Bool
  rd : Nat → List Nat
  wr : Nat → List Nat
  v : Nat → SV
  loc : Nat → St
  ld : Nat → Option (TypeId × SA × SV)
  fn : Nat → Bool
def nCons {α : Type} (x : α) (f : Nat → α) : Nat → α
  | 0 => x
  | i + 1 => f i
def Tr.cons (t : Tr) (fr : Fr) (st : St) (ran : Bool) (rd wr : List Nat) (v : SV) (loc : St) (ld : Option (TypeId × SA × SV)) (fn : Bool) : Tr :=
  ⟨nCons fr t.fr, nCons st t.st, nCons ran t.ran, nCons rd t.rd, nCons wr t.wr, nCons v t.v, nCons loc t.loc, nCons ld t.ld, nCons fn t.fn⟩
def Tr.log (t : Tr) (i : Nat) : Rec := ⟨t.rd i, t.wr i ++ upFrom (t.st i).length ((t.loc i).length - (t.st i).length), t.ld i, t.fn i⟩
structure Tr.Ok (cx : Cx) (call : CallT) (ops : Array Oper) (t : Tr) (i : Nat) (o : Oper) : Prop where
  nfr : t.fr (i + 1) = (t.fr i).put o.dst (t.v i)
  nst : t.st (i + 1) = mergeS (t.wr i) 0 (t.st i) (t.loc i)
  yes : t.ran i = true → Wants ops o (t.fr i) true ∧ belowL (t.st i).length (opRefs (evOperand (t.fr i)) o.op.operands.toList) = true ∧
    belowS (t.st i).length (restrict (t.rd i) (t.wr i) 0 (t.st i)) = true ∧
    evOp cx call (evOperand (t.fr i)) (restrict (t.rd i) (t.wr i) 0 (t.st i)) o (fun x y => x = t.v i ∧ y = t.loc i)
  no : t.ran i = false → Wants ops o (t.fr i) false ∧ t.rd i = [] ∧ t.wr i = [] ∧ t.v i = undefV ∧ t.loc i = t.st i
  ld : ∀ T a v, t.ld i = some (T, a, v) → v = t.v i ∧ (t.loc i).length = (t.st i).length ∧ t.ran i = true ∧ t.wr i = [] ∧ (∀ q ∈ a.refs, q ∈ t.rd i) ∧ ∃ x, o.op = .load T x ∧ rhoSA (evOperand (t.fr i)) x = some a
theorem mem_prt {st : St} {q : Nat} : ∀ {l : List Nat}, q ∈ l → q ∈ prt st l
  | o :: r, h => by
    simp only [prt]
    rcases List.mem_cons.1 h with rfl | h
    · split <;> simp
    · split
      · exact List.mem_cons_of_mem _ (List.mem_cons_of_mem _ (mem_prt h))
      · exact List.mem_cons_of_mem _ (mem_prt h)
theorem ldOf_spec {ρ : Operand → Option SV} {o : Oper} {v : SV} {old new : Nat} {T : TypeId} {a : SA} {v' : SV} (h : ldOf ρ o v old new = some (T, a, v')) :
    v' = v ∧ old = new ∧ ∃ x, o.op = .load T x ∧ rhoSA ρ x = some a := by
  unfold ldOf at h
  split at h
  · rename_i T' x hop
    split at h
    · rename_i a' ha hb
      have hb : old = new := by simpa using hb
      cases h
      exact ⟨rfl, hb, x, hop, ha⟩
    · cases h
  · cases h
theorem touch_load {cx : Cx} {ρ : Operand → Option SV} {st : St} {o : Oper} {T : TypeId} {x : Operand} {a : SA} (ho : o.op = .load T x) (ha : rhoSA ρ x = some a) : (touch cx ρ st o).2 = [] ∧ ∀ q ∈ a.refs, q ∈ (touch cx ρ st o).1 := by
  unfold touch
  simp only [ho]
  refine ⟨trivial, fun q hq => mem_prt ?_⟩
  unfold rhoSA at ha
  split at ha
  · rename_i a' hr
    cases ha
    simp only [opRefs, hr]
    exact List.mem_append_left _ hq
  · cases ha
theorem mergeS_nil : ∀ (i : Nat) (st : St), mergeS [] i st st = st
  | _, [] => rfl
  | i, y :: r => by simp [mergeS, hasN, mergeS_nil (i + 1) r]
theorem evDraw_trace {cx : Cx} {call : CallT} {ops : Array Oper} {k : Fr → St → Prop} (hc : CallLin call) :
    ∀ (rest : List Oper) (fr : Fr) (st : St) (log : List Rec), evDraw cx call ops.toList rest fr st log k →
      ∃ t : Tr, t.fr 0 = fr ∧ t.st 0 = st ∧ (∀ i o, rest[i]? = some o → t.Ok cx call ops i o) ∧
        logOk ops.toList (log ++ (List.range rest.length).map t.log) = true ∧ k (t.fr rest.length) (t.st rest.length) ∧
        ∀ i, i < rest.length → t.ran i = true → t.fn i = true → StillC cx.P (getL [] (ancestors ops.toList []) (log.length + i)) (t.wr i) (t.st (i + 1)) (log ++ (List.range i).map t.log) 0
  | [], fr, st, log, h => by
    simp only [evDraw, forceV_eq, forceL_eq, forceS_eq] at h
    split at h
    · rename_i hl
      exact ⟨⟨fun _ => fr, fun _ => st, fun _ => false, fun _ => [], fun _ => [], fun _ => undefV, fun _ => st, fun _ => none, fun _ => false⟩, rfl, rfl, fun i o hi => by simp at hi, by simpa using hl, h, fun i hi => by simp at hi⟩
    · exact h.elim
  | o :: r, fr, st, log, h => by
    simp only [evDraw, forceV_eq, forceL_eq, forceS_eq] at h
    have shape0 : ∀ (t : Tr) (ran : Bool) (rd wr : List Nat) (v : SV) (loc : St) (ld : Option (TypeId × SA × SV)) (fn : Bool) (n : Nat),
        (log ++ [⟨rd, wr ++ upFrom st.length (loc.length - st.length), ld, fn⟩]) ++ (List.range n).map t.log =
          log ++ (List.range (n + 1)).map (t.cons fr st ran rd wr v loc ld fn).log := by
      intro t ran rd wr v loc ld fn n
      simp only [List.range_succ_eq_map, List.map_cons, List.map_map, List.append_assoc, List.singleton_append]
      rfl
    have shape : ∀ (t : Tr) (ran : Bool) (rd wr : List Nat) (v : SV) (loc : St) (ld : Option (TypeId × SA × SV)) (fn : Bool),
        (log ++ [⟨rd, wr ++ upFrom st.length (loc.length - st.length), ld, fn⟩]) ++ (List.range r.length).map t.log =
          log ++ (List.range (o :: r).length).map (t.cons fr st ran rd wr v loc ld fn).log := by
      intro t ran rd wr v loc ld fn
      simp only [List.length_cons, List.range_succ_eq_map, List.map_cons, List.map_map, List.append_assoc, List.singleton_append]
      rfl
    have stills : ∀ (t : Tr) (ran : Bool) (rd wr : List Nat) (v : SV) (loc : St) (ld : Option (TypeId × SA × SV)) (fn : Bool),
        (∀ i, i < r.length → t.ran i = true → t.fn i = true → StillC cx.P (getL [] (ancestors ops.toList []) ((log ++ [(⟨rd, wr ++ upFrom st.length (loc.length - st.length), ld, fn⟩ : Rec)]).length + i)) (t.wr i) (t.st (i + 1)) ((log ++ [⟨rd, wr ++ upFrom st.length (loc.length - st.length), ld, fn⟩]) ++ (List.range i).map t.log) 0) →
        (ran = true → fn = true → StillC cx.P (getL [] (ancestors ops.toList []) log.length) wr (t.st 0) log 0) →
        ∀ i, i < (o :: r).length → (t.cons fr st ran rd wr v loc ld fn).ran i = true → (t.cons fr st ran rd wr v loc ld fn).fn i = true → StillC cx.P (getL [] (ancestors ops.toList []) (log.length + i)) ((t.cons fr st ran rd wr v loc ld fn).wr i) ((t.cons fr st ran rd wr v loc ld fn).st (i + 1)) (log ++ (List.range i).map (t.cons fr st ran rd wr v loc ld fn).log) 0 := by
      intro t ran rd wr v loc ld fn h1 h2 i hi hr hfn
      cases i with
      | zero =>
        have := h2 hr hfn
        simp only [Nat.add_zero, List.range_zero, List.map_nil, List.append_nil]
        exact this
      | succ i =>
        have := h1 i (by simpa using hi) hr hfn
        rw [shape0 t ran rd wr v loc ld fn i] at this
        rw [show (log ++ [(⟨rd, wr ++ upFrom st.length (loc.length - st.length), ld, fn⟩ : Rec)]).length + i = log.length + (i + 1) by simp; omega] at this
        exact this
    have oks : ∀ (t : Tr) (ran : Bool) (rd wr : List Nat) (v : SV) (loc : St) (ld : Option (TypeId × SA × SV)) (fn : Bool), (∀ i o, r[i]? = some o → t.Ok cx call ops i o) →
        (t.cons fr st ran rd wr v loc ld fn).Ok cx call ops 0 o → ∀ i o', (o :: r)[i]? = some o' → (t.cons fr st ran rd wr v loc ld fn).Ok cx call ops i o' := by
      intro t ran rd wr v loc ld fn h1 h2 i o' hi
      cases i with
      | zero => simp at hi; subst hi; exact h2
      | succ i =>
        have := h1 i o' (by simpa using hi)
        exact ⟨this.1, this.2, this.3, this.4, this.5⟩
    rcases evGuard_split h with ⟨h, hw⟩ | ⟨h, hw⟩
    · generalize hrd : (touch cx (evOperand fr) st o).1 = rd at h
      generalize hwr : (touch cx (evOperand fr) st o).2 = wr at h
      split at h
      · rename_i hb
        rw [Bool.and_eq_true] at hb
        simp only [lenL_eq] at h hb
        obtain ⟨v, loc, h1, h2⟩ := lin_op hc _ h
        replace h2 := h2 (fun x y => x = v ∧ y = loc) ⟨rfl, rfl⟩
        obtain ⟨hst, h1⟩ := stillIf_iff.1 h1
        obtain ⟨t, t1, t2, t3, t4, t5, t6⟩ := evDraw_trace hc r _ _ _ h1
        refine ⟨t.cons fr st true rd wr v loc (ldOf (evOperand fr) o v st.length loc.length) (isFn o), rfl, rfl, oks t _ _ _ _ _ _ _ t3 ⟨t1, t2, fun _ => ⟨hw, hb.1, hb.2, h2⟩, fun e => (by cases e), fun T a v' e => ?_⟩, ?_, t5, stills t _ _ _ _ _ _ _ t6 fun _ hfn => by rw [t2]; exact hst hfn⟩
        · obtain ⟨e1, e2, x, e3, e4⟩ := ldOf_spec (show ldOf (evOperand fr) o v st.length loc.length = some (T, a, v') from e)
          have ht := touch_load (cx := cx) (st := st) e3 e4
          rw [hrd, hwr] at ht
          exact ⟨e1, e2.symm, rfl, ht.1, ht.2, x, e3, e4⟩
        · rw [← shape]; exact t4
      · exact h.elim
    · have e0 : (⟨[], [], none, false⟩ : Rec) = ⟨[], [] ++ upFrom st.length (st.length - st.length), none, false⟩ := by simp [upFrom]
      rw [e0] at h
      obtain ⟨t, t1, t2, t3, t4, t5, t6⟩ := evDraw_trace hc r _ _ _ h
      refine ⟨t.cons fr st false [] [] undefV st none false, rfl, rfl, oks t _ _ _ _ _ _ _ t3 ⟨t1, t2.trans (mergeS_nil 0 st).symm, fun e => (by cases e), fun _ => ⟨hw, rfl, rfl, rfl, rfl⟩, fun _ _ _ e => (by cases e)⟩, ?_, t5, stills t _ _ _ _ _ _ _ t6 fun e => by cases e⟩
      rw [← shape]
      exact t4
theorem edgesBack_spec : ∀ {ops : List Oper} {i : Nat}, edgesBack ops i = true → ∀ {a : Nat} {o : Oper}, ops[a]? = some o → ∀ e ∈ o.after.toList, Region.binds .any e = true → e.on < i + a
  | [], i, _, a, o, h => by simp at h
  | x :: r, i, hb, a, o, h => by
    simp only [edgesBack, Bool.and_eq_true, List.all_eq_true] at hb
    intro e he hbi
    cases a with
    | zero =>
      simp at h; subst h
      have := hb.1 e he
      simp only [hbi, Bool.not_true, Bool.false_or] at this
      have := Nat.le_of_ble_eq_true this
      omega
    | succ a =>
      have := edgesBack_spec hb.2 (a := a) (by simpa using h) e he hbi
      omega
theorem tmpPairs1_spec {anc : List (List Nat)} {ops : List Oper} {x : Oper} {i : Nat} : ∀ {ys : List Oper} {j : Nat}, tmpPairs1 anc ops x i ys j = true →
    ∀ {m : Nat} {y : Oper}, ys[m]? = some y → tmpClash ops x y = true → i ∈ anc[j + m]?.getD []
  | [], j, _, m, y, h => by simp at h
  | y' :: ys, j, hp, m, y, h1 => by
    intro hc
    simp only [tmpPairs1] at hp
    split at hp
    · cases hp
    · rename_i hn
      cases m with
      | zero =>
        simp at h1
        subst h1
        simp only [hc, Bool.true_and, getL_eq, Bool.not_eq_false'] at hn
        exact hasN_iff.1 hn
      | succ m =>
        have := tmpPairs1_spec hp (m := m) (by simpa using h1) hc
        rwa [show j + (m + 1) = j + 1 + m from by omega]
theorem tmpPairs_spec {anc : List (List Nat)} {ops : List Oper} : ∀ {xs : List Oper} {i : Nat}, tmpPairs anc ops xs i = true →
    ∀ {a b : Nat} {x y : Oper}, a < b → xs[a]? = some x → xs[b]? = some y → tmpClash ops x y = true → i + a ∈ anc[i + b]?.getD []
  | [], i, _, a, b, x, y, _, h, _ => by simp at h
  | x' :: xs, i, hp, a, b, x, y, hab, h1, h2 => by
    intro hc
    simp only [tmpPairs] at hp
    split at hp
    · rename_i hq
      cases b with
      | zero => omega
      | succ b =>
        cases a with
        | zero =>
          simp at h1
          subst h1
          have := tmpPairs1_spec hq (m := b) (by simpa using h2) hc
          rwa [show i + (b + 1) = i + 1 + b from by omega]
        | succ a =>
          have := tmpPairs_spec hp (a := a) (b := b) (by omega) (by simpa using h1) (by simpa using h2) hc
          rwa [show i + (b + 1) = i + 1 + b from by omega, show i + (a + 1) = i + 1 + a from by omega]
    · cases hp
theorem dynPairs1_spec {ops : List Oper} {rx : Rec} {i : Nat} : ∀ {rs : List Rec} {j : Nat}, dynPairs1 ops rx i rs j = true →
    ∀ {m : Nat} {ry : Rec}, rs[m]? = some ry → rx.clashT ry = true → i ∈ (ancestors ops [])[j + m]?.getD []
  | [], j, _, m, ry, h => by simp at h
  | r' :: rs, j, hp, m, ry, h1 => by
    intro hc
    simp only [dynPairs1] at hp
    cases m with
    | zero =>
      simp at h1
      subst h1
      rw [hc] at hp
      simp only at hp
      split at hp
      · rename_i hn; rw [getL_eq] at hn; exact hasN_iff.1 hn
      · cases hp
    | succ m =>
      have hp2 : dynPairs1 ops rx i rs (j + 1) = true := by
        split at hp
        · split at hp
          · exact hp
          · cases hp
        · exact hp
      have := dynPairs1_spec hp2 (m := m) (by simpa using h1) hc
      rwa [show j + (m + 1) = j + 1 + m from by omega]
theorem dynPairs_spec {ops : List Oper} : ∀ {rs : List Rec} {i : Nat}, dynPairs ops rs i = true →
    ∀ {a b : Nat} {rx ry : Rec}, a < b → rs[a]? = some rx → rs[b]? = some ry → rx.clashT ry = true → i + a ∈ (ancestors ops [])[i + b]?.getD []
  | [], i, _, a, b, rx, ry, _, h, _ => by simp at h
  | r' :: rs, i, hp, a, b, rx, ry, hab, h1, h2 => by
    intro hc
    simp only [dynPairs] at hp
    split at hp
    · rename_i hq
      cases b with
      | zero => omega
      | succ b =>
        cases a with
        | zero =>
          simp at h1
          subst h1
          have := dynPairs1_spec hq (m := b) (by simpa using h2) hc
          rwa [show i + (b + 1) = i + 1 + b from by omega]
        | succ a =>
          have := dynPairs_spec hp (a := a) (b := b) (by omega) (by simpa using h1) (by simpa using h2) hc
          rwa [show i + (b + 1) = i + 1 + b from by omega, show i + (a + 1) = i + 1 + a from by omega]
    · cases hp
theorem logOk_iff {ops : List Oper} {log : List Rec} (h : logOk ops log = true) : dynPairs ops log 0 = true ∧ edgesBack ops 0 = true ∧ tmpPairs (ancestors ops []) ops ops 0 = true := by
  unfold logOk at h
  split at h
  · rename_i hd
    unfold staticOk at h
    rw [Bool.and_eq_true] at h
    exact ⟨hd, h.1, h.2⟩
  · cases h
end Go.Ev

/- THE ENGINE, part 19: any order does what the text's order does. -/
namespace Go.Ev
open Go
variable {P : Program}
theorem foldF_congr {N : Nat} {dst : Nat → Option Nat} {val : Nat → SV} {F0 : Nat → Option SV} {D D' : Nat → Bool} {t : Nat} :
    ∀ n, (∀ j, j < n → dst j = some t → D j = D' j) → foldF N dst val F0 D n t = foldF N dst val F0 D' n t
  | 0, _ => rfl
  | n + 1, h => by
    have ih := foldF_congr (N := N) (val := val) (F0 := F0) n (fun j hj => h j (by omega))
    by_cases hd : dst n = some t
    · have he := h n (by omega) hd
      simp only [foldF, he]
      split
      · simp only [updF, ih]
      · exact ih
    · have aux : ∀ D : Nat → Bool, foldF N dst val F0 D (n + 1) t = foldF N dst val F0 D n t := by
        intro D
        simp only [foldF]
        split
        · simp only [updF]; rw [if_neg (fun h => hd h.1)]
        · rfl
      rw [aux, aux]; exact ih
theorem foldS_congr {ws : Nat → Nat → Bool} {post : Nat → St} {C0 : Nat → Option SO} {D D' : Nat → Bool} {x : Nat} :
    ∀ n, (∀ j, j < n → ws j x = true → D j = D' j) → foldS ws post C0 D n x = foldS ws post C0 D' n x
  | 0, _ => rfl
  | n + 1, h => by
    have ih := foldS_congr (ws := ws) (post := post) (C0 := C0) n (fun j hj => h j (by omega))
    by_cases hd : ws n x = true
    · have he := h n (by omega) hd
      simp only [foldS, he]
      split
      · simp only [ih]
      · exact ih
    · have aux : ∀ D : Nat → Bool, foldS ws post C0 D (n + 1) x = foldS ws post C0 D n x := by
        intro D
        simp only [foldS]
        split
        · simp only [hd]; rfl
        · rfl
      rw [aux, aux]; exact ih
section
variable (ops : Array Oper) (t : Tr)
def dstAt (i : Nat) : Option Nat := match ops[i]? with | some o => o.dst | none => none
def wsAt (i x : Nat) : Bool := hasN x (t.wr i) || (Nat.ble (t.st i).length x && Nat.blt x (t.loc i).length)
def valD (D : Nat → Bool) (n : Nat) : Nat → Option SV := foldF (t.fr 0).length (dstAt ops) t.v (t.fr 0).get D n
def objD (D : Nat → Bool) (n : Nat) : Nat → Option SO := foldS (wsAt t) (fun i => t.st (i + 1)) (t.st 0).get D n
def stD (D : Nat → Bool) (n : Nat) : St := (List.range (t.st n).length).map (objD t D n)
end
theorem stD_length {t : Tr} {D : Nat → Bool} {n : Nat} : (stD t D n).length = (t.st n).length := by simp [stD]
theorem stD_get {t : Tr} {D : Nat → Bool} {n x : Nat} (h : x < (t.st n).length) : (stD t D n).get x = objD t D n x := by
  simp [St.get_eq, stD, List.getElem?_map, List.getElem?_range h]
theorem stD_some {t : Tr} {D : Nat → Bool} {n x : Nat} {so : SO} (h : (stD t D n).get x = some so) : x < (t.st n).length ∧ objD t D n x = some so := by
  have hl := St.get_lt h
  rw [stD_length] at hl
  exact ⟨hl, by rw [← stD_get hl]; exact h⟩
theorem wsAt_iff {t : Tr} {i x : Nat} : wsAt t i x = true ↔ x ∈ t.wr i ∨ ((t.st i).length ≤ x ∧ x < (t.loc i).length) := by
  simp only [wsAt, Bool.or_eq_true, hasN_iff, Bool.and_eq_true, Nat.ble_eq]
  constructor
  · rintro (h | ⟨h1, h2⟩)
    · exact .inl h
    · exact .inr ⟨h1, Nat.le_of_ble_eq_true h2⟩
  · rintro (h | ⟨h1, h2⟩)
    · exact .inl h
    · exact .inr ⟨h1, Nat.ble_eq_true_of_le h2⟩
section
variable {cx : Cx} {call : CallT} {ops : Array Oper} {t : Tr}
structure Tr.All (cx : Cx) (call : CallT) (ops : Array Oper) (t : Tr) : Prop where
  ok : ∀ i o, ops[i]? = some o → t.Ok cx call ops i o
  log : logOk ops.toList ((List.range ops.size).map t.log) = true
  still : ∀ i, i < ops.size → t.ran i = true → t.fn i = true → StillC cx.P (getL [] (ancestors ops.toList []) i) (t.wr i) (t.st (i + 1)) ((List.range i).map t.log) 0
theorem Tr.All.op (_hA : t.All cx call ops) {i : Nat} (h : i < ops.size) : ∃ o, ops[i]? = some o := ⟨ops[i], by simp [h]⟩
theorem Tr.All.mono (hA : t.All cx call ops) {i j : Nat} (hij : i ≤ j) (hj : j ≤ ops.size) : (t.st i).length ≤ (t.st j).length := by
  induction j with
  | zero => have : i = 0 := by omega
            subst this; exact Nat.le_refl _
  | succ j ih =>
    by_cases e : i = j + 1
    · subst e; exact Nat.le_refl _
    · obtain ⟨o, ho⟩ := hA.op (i := j) (by omega)
      have := (hA.ok j o ho).nst
      rw [this, mergeS_length]
      have := ih (by omega) (by omega)
      omega
theorem Tr.All.next (hA : t.All cx call ops) {i : Nat} (hi : i < ops.size) : (t.st (i + 1)).length = max (t.st i).length (t.loc i).length := by
  obtain ⟨o, ho⟩ := hA.op hi
  rw [(hA.ok i o ho).nst, mergeS_length]
theorem Tr.All.frlen (hA : t.All cx call ops) {i : Nat} (hi : i ≤ ops.size) : (t.fr i).length = (t.fr 0).length := by
  induction i with
  | zero => rfl
  | succ i ih =>
    obtain ⟨o, ho⟩ := hA.op (i := i) (by omega)
    rw [(hA.ok i o ho).nfr]
    cases o.dst with
    | none => exact ih (by omega)
    | some d => rw [Fr.put_some]; simpa using ih (by omega)
theorem Tr.All.frAt (hA : t.All cx call ops) {i : Nat} (hi : i ≤ ops.size) (u : Nat) : (t.fr i).get u = valD ops t (fun _ => true) i u := by
  induction i with
  | zero => rfl
  | succ i ih =>
    obtain ⟨o, ho⟩ := hA.op (i := i) (by omega)
    have hl := hA.frlen (i := i) (by omega)
    have ih := ih (by omega)
    rw [(hA.ok i o ho).nfr]
    simp only [valD, foldF, if_true, updF] at ih ⊢
    have hd : dstAt ops i = o.dst := by simp [dstAt, ho]
    rw [hd]
    cases o.dst with
    | none => simpa [Fr.put] using ih
    | some d =>
      rw [Fr.put_some, Fr.get_eq, List.getElem?_set]
      by_cases e : d = u
      · subst e
        by_cases hlt : d < (t.fr 0).length
        · simp [hl, hlt]
        · simp only [hl, hlt, if_true, if_false, and_false]
          rw [← ih, Fr.get_eq, List.getElem?_eq_none (Nat.le_of_not_lt (by rw [hl]; exact hlt))]
      · simp only [e, if_false, Option.some.injEq, false_and]
        rw [← ih, Fr.get_eq]
theorem Tr.All.stAt (hA : t.All cx call ops) {i : Nat} (hi : i ≤ ops.size) (x : Nat) : (t.st i).get x = objD t (fun _ => true) i x := by
  induction i with
  | zero => rfl
  | succ i ih =>
    obtain ⟨o, ho⟩ := hA.op (i := i) (by omega)
    have ih := ih (by omega)
    simp only [objD, foldS, if_true] at ih ⊢
    split
    · rfl
    · rename_i hw
      rw [wsAt_iff] at hw
      rw [← ih, (hA.ok i o ho).nst, St.get_eq, St.get_eq, mergeS_get]
      by_cases hlt : x < (t.st i).length
      · rw [if_pos hlt, if_neg (by simpa using fun h => hw (.inl h))]; rfl
      · rw [if_neg hlt, List.getElem?_eq_none (by omega : (t.st i).length ≤ x),
          List.getElem?_eq_none (Nat.not_lt.1 fun h => hw (.inr ⟨by omega, h⟩) : (t.loc i).length ≤ x)]
theorem Tr.All.postAt (hA : t.All cx call ops) {i : Nat} (hi : i < ops.size) {x : Nat} (hw : wsAt t i x = true) : (t.st (i + 1)).get x = (t.loc i).get x := by
  obtain ⟨o, ho⟩ := hA.op hi
  rw [(hA.ok i o ho).nst, St.get_eq, St.get_eq, mergeS_get]
  rw [wsAt_iff] at hw
  split
  · rename_i hlt
    rcases hw with hw | hw
    · simp [hw]
    · omega
  · rfl
def Clash (ops : Array Oper) (t : Tr) (i j : Nat) : Prop := ∃ x y, ops[i]? = some x ∧ ops[j]? = some y ∧ (tmpClash ops.toList x y || (t.log i).clashT (t.log j)) = true
theorem Tr.All.order (hA : t.All cx call ops) {D : Nat → Bool} (hD : Closed ops.toList D) {i j : Nat} (hij : i < j) (hj : j < ops.size) (hc : Clash ops t i j) (hdj : D j = true) : D i = true := by
  obtain ⟨x, y, hx, hy, hc⟩ := hc
  obtain ⟨h1, _, h3⟩ := logOk_iff hA.log
  have : i ∈ (ancestors ops.toList [])[j]?.getD [] := by
    rcases Bool.or_eq_true _ _ ▸ hc with hc | hc
    · have := tmpPairs_spec h3 (a := i) (b := j) (x := x) (y := y) hij (by simpa using hx) (by simpa using hy) hc
      simpa only [Nat.zero_add] using this
    · have := dynPairs_spec h1 (a := i) (b := j) (rx := t.log i) (ry := t.log j) hij
        (by simp [List.getElem?_map, List.getElem?_range (show i < ops.size by omega)]) (by simp [List.getElem?_map, List.getElem?_range hj]) hc
      simpa only [Nat.zero_add] using this
  exact ancestors_spec ops.toList ops.toList [] rfl hD (by simp) j i this hdj
theorem Tr.All.wsLog (_hA : t.All cx call ops) {i x : Nat} (hw : wsAt t i x = true) : x ∈ (t.log i).wr := by
  rw [wsAt_iff] at hw
  simp only [Tr.log, List.mem_append, mem_upFrom]
  rcases hw with hw | hw
  · exact .inl hw
  · exact .inr ⟨hw.1, by omega⟩
theorem Tr.All.noLd (hA : t.All cx call ops) {i x : Nat} (hi : i < ops.size) (hw : x ∈ (t.log i).wr) : (t.log i).ld = none := by
  obtain ⟨o, ho⟩ := hA.op hi
  cases e : (t.log i).ld with
  | none => rfl
  | some z =>
    obtain ⟨T, a, v⟩ := z
    obtain ⟨_, h1, _, h2, _⟩ := (hA.ok i o ho).ld T a v e
    simp only [Tr.log, h1, h2, Nat.sub_self, upFrom, List.append_nil, List.not_mem_nil] at hw
theorem clashT_of {a b : Rec} {x : Nat} (hl : a.ld = none) (h : (x ∈ a.wr ∧ x ∈ b.rd) ∨ (x ∈ a.wr ∧ x ∈ b.wr) ∨ (x ∈ b.wr ∧ x ∈ a.rd)) : a.clashT b = true := by
  have e : a.clashT b = a.clash b := by unfold Rec.clashT; rw [hl]; cases b.fn <;> rfl
  rw [e]
  simp only [Rec.clash, Bool.or_eq_true, meets_iff]
  rcases h with h | h | h
  · exact .inl (.inl ⟨x, h⟩)
  · exact .inl (.inr ⟨x, h⟩)
  · exact .inr ⟨x, h⟩
theorem clashF_of {a b : Rec} {x : Nat} (hl : b.fn = false) (h : x ∈ b.wr ∧ x ∈ a.rd) : a.clashT b = true := by
  have e : a.clashT b = a.clash b := by unfold Rec.clashT; rw [hl]
  rw [e]
  simp only [Rec.clash, Bool.or_eq_true, meets_iff]
  exact .inr ⟨x, h⟩
theorem clash_of {a b : Rec} {x : Nat} (h : (x ∈ a.wr ∧ x ∈ b.rd) ∨ (x ∈ a.wr ∧ x ∈ b.wr) ∨ (x ∈ b.wr ∧ x ∈ a.rd)) : a.clash b = true := by
  simp only [Rec.clash, Bool.or_eq_true, meets_iff]
  rcases h with h | h | h
  · exact .inl (.inl ⟨x, h⟩)
  · exact .inl (.inr ⟨x, h⟩)
  · exact .inr ⟨x, h⟩
theorem tmpClash_of {ops : List Oper} {x y : Oper} {u : Nat} (h : (x.dst = some u ∧ u ∈ looks ops y) ∨ (x.dst = some u ∧ y.dst = some u) ∨ (y.dst = some u ∧ u ∈ looks ops x)) : tmpClash ops x y = true := by
  simp only [tmpClash, Bool.or_eq_true, meets_iff]
  rcases h with ⟨h1, h2⟩ | ⟨h1, h2⟩ | ⟨h1, h2⟩
  · exact .inl (.inl ⟨u, by simp [h1], h2⟩)
  · exact .inl (.inr ⟨u, by simp [h1], by simp [h2]⟩)
  · exact .inr ⟨u, by simp [h1], h2⟩
structure Next (ops : Array Oper) (D : Nat → Bool) (i : Nat) : Prop where
  lt : i < ops.size
  no : D i = false
  edges : ∀ o, ops[i]? = some o → ∀ e ∈ o.after.toList, Region.binds .any e = true → D e.on = true
  closed : Closed ops.toList D
def setD (D : Nat → Bool) (i : Nat) : Nat → Bool := fun j => if j = i then true else D j
theorem Next.closed' {D : Nat → Bool} {i : Nat} (h : Next ops D i) : Closed ops.toList (setD D i) := by
  intro j o ho hj e he hb
  simp only [setD] at hj ⊢
  split
  · rfl
  · split at hj
    · rename_i e'; subst e'
      exact h.edges o (by simpa using ho) e he hb
    · exact h.closed j o ho hj e he hb
theorem Tr.All.before (hA : t.All cx call ops) {D : Nat → Bool} {i j : Nat} (hn : Next ops D i) (hji : j < i) (hc : Clash ops t j i) : D j = true := by
  have := hA.order hn.closed' hji hn.lt hc (by simp [setD])
  simp only [setD] at this
  rwa [if_neg (by omega)] at this
theorem Tr.All.behind (hA : t.All cx call ops) {D : Nat → Bool} {i j : Nat} (hn : Next ops D i) (hij : i < j) (hj : j < ops.size) (hc : Clash ops t i j) : D j = false := by
  cases h : D j with
  | false => rfl
  | true =>
    have := hA.order hn.closed hij hj hc h
    rw [hn.no] at this; simp at this
theorem Tr.All.look (hA : t.All cx call ops) {D : Nat → Bool} {i : Nat} {o : Oper} (ho : ops[i]? = some o) (hn : Next ops D i) {u : Nat} (hu : u ∈ looks ops.toList o) :
    valD ops t D ops.size u = (t.fr i).get u := by
  rw [hA.frAt (Nat.le_of_lt hn.lt)]
  unfold valD
  rw [foldF_stop (i := i) ops.size (Nat.le_of_lt hn.lt), foldF_all]
  · intro j hji hd
    obtain ⟨oj, hoj⟩ := hA.op (i := j) (by have := hn.lt; omega)
    refine hA.before hn hji ⟨oj, o, hoj, ho, ?_⟩
    rw [tmpClash_of (u := u) (.inl ⟨by simpa [dstAt, hoj] using hd, hu⟩)]; rfl
  · intro j hij hj hd
    by_cases e : i = j
    · subst e; exact hn.no
    · obtain ⟨oj, hoj⟩ := hA.op hj
      refine hA.behind hn (by omega) hj ⟨o, oj, ho, hoj, ?_⟩
      rw [tmpClash_of (u := u) (.inr (.inr ⟨by simpa [dstAt, hoj] using hd, hu⟩))]; rfl
theorem Tr.All.touch (hA : t.All cx call ops) {D : Nat → Bool} {i x : Nat} (hn : Next ops D i) (hl : t.ld i = none) (hx : x ∈ t.rd i ∨ x ∈ t.wr i) (hlt : x < (t.st i).length) :
    objD t D ops.size x = (t.st i).get x := by
  have hx' : x ∈ (t.log i).rd ∨ x ∈ (t.log i).wr := by
    rcases hx with h | h
    · exact .inl h
    · exact .inr (List.mem_append_left _ h)
  obtain ⟨o, ho⟩ := hA.op hn.lt
  rw [hA.stAt (Nat.le_of_lt hn.lt)]
  unfold objD
  rw [foldS_stop (i := i) ops.size (Nat.le_of_lt hn.lt), foldS_all]
  · intro j hji hw
    obtain ⟨oj, hoj⟩ := hA.op (i := j) (by have := hn.lt; omega)
    refine hA.before hn hji ⟨oj, o, hoj, ho, ?_⟩
    have := hA.wsLog hw
    rw [clashT_of (x := x) (hA.noLd (by have := hn.lt; omega) this) (by rcases hx' with h | h; exact .inl ⟨this, h⟩; exact .inr (.inl ⟨this, h⟩))]; simp
  · intro j hij hj hw
    by_cases e : i = j
    · subst e; exact hn.no
    · obtain ⟨oj, hoj⟩ := hA.op hj
      refine hA.behind hn (by omega) hj ⟨o, oj, ho, hoj, ?_⟩
      have := hA.wsLog hw
      rw [clashT_of (x := x) hl (by rcases hx' with h | h; exact .inr (.inr ⟨this, h⟩); exact .inr (.inl ⟨h, this⟩))]; simp
theorem Tr.All.touchW (hA : t.All cx call ops) {D : Nat → Bool} {i x : Nat} (hn : Next ops D i) (hx : x ∈ t.wr i) (hlt : x < (t.st i).length) : objD t D ops.size x = (t.st i).get x :=
  hA.touch hn (hA.noLd hn.lt (List.mem_append_left _ hx : x ∈ (t.log i).wr)) (.inr hx) hlt
theorem Tr.All.touchLd (hA : t.All cx call ops) {D : Nat → Bool} {i x : Nat} (hn : Next ops D i) (hx : x ∈ t.rd i) (hlt : x < (t.st i).length) :
    objD t D ops.size x = (t.st i).get x ∨ ∃ j, i < j ∧ j < ops.size ∧ D j = true ∧ wsAt t j x = true ∧ objD t D ops.size x = (t.st (j + 1)).get x := by
  obtain ⟨o, ho⟩ := hA.op hn.lt
  have key : ∀ n, i ≤ n → n ≤ ops.size → foldS (wsAt t) (fun i => t.st (i + 1)) (t.st 0).get D n x = (t.st i).get x ∨
      ∃ j, i < j ∧ j < n ∧ D j = true ∧ wsAt t j x = true ∧ foldS (wsAt t) (fun i => t.st (i + 1)) (t.st 0).get D n x = (t.st (j + 1)).get x := by
    intro n
    induction n with
    | zero =>
      intro h1 _
      have : i = 0 := by omega
      subst this
      exact .inl rfl
    | succ n ih =>
      intro h1 h2
      by_cases e : i = n + 1
      · subst e
        left
        have hs := hA.stAt (i := n + 1) (by omega) x
        rw [hs]
        unfold objD
        refine foldS_all _ fun j hji hw => ?_
        obtain ⟨oj, hoj⟩ := hA.op (i := j) (by omega)
        refine hA.before hn hji ⟨oj, o, hoj, ho, ?_⟩
        have := hA.wsLog hw
        rw [clashT_of (x := x) (hA.noLd (by omega) this) (.inl ⟨this, hx⟩)]; simp
      · simp only [foldS]
        by_cases hd : D n = true
        · rw [if_pos hd]
          by_cases hw : wsAt t n x = true
          · rw [if_pos hw]
            by_cases hin : i = n
            · subst hin; rw [hn.no] at hd; cases hd
            · exact .inr ⟨n, by omega, by omega, hd, hw, rfl⟩
          · rw [if_neg hw]
            rcases ih (by omega) (by omega) with h | ⟨j, a1, a2, a3, a4, a5⟩
            · exact .inl h
            · exact .inr ⟨j, a1, by omega, a3, a4, a5⟩
        · rw [if_neg hd]
          rcases ih (by omega) (by omega) with h | ⟨j, a1, a2, a3, a4, a5⟩
          · exact .inl h
          · exact .inr ⟨j, a1, by omega, a3, a4, a5⟩
  exact key ops.size (Nat.le_of_lt hn.lt) (Nat.le_refl _)
theorem Tr.All.valNew (hA : t.All cx call ops) {D : Nat → Bool} {i : Nat} {o : Oper} (ho : ops[i]? = some o) (hn : Next ops D i) {u : Nat} (hd : o.dst = some u) (hu : u < (t.fr 0).length) :
    valD ops t (setD D i) ops.size u = some (t.v i) := by
  unfold valD
  rw [foldF_stop (i := i + 1) ops.size hn.lt]
  · simp only [foldF, setD, if_true, updF]
    rw [if_pos ⟨by simpa [dstAt, ho] using hd, hu⟩]
  · intro j hij hj hdj
    obtain ⟨oj, hoj⟩ := hA.op hj
    simp only [setD]
    rw [if_neg (by omega)]
    refine hA.behind hn (by omega) hj ⟨o, oj, ho, hoj, ?_⟩
    rw [tmpClash_of (u := u) (.inr (.inl ⟨hd, by simpa [dstAt, hoj] using hdj⟩))]; rfl
theorem Tr.All.valOld (_hA : t.All cx call ops) {D : Nat → Bool} {i : Nat} {o : Oper} (ho : ops[i]? = some o) {u : Nat} (hd : ¬ o.dst = some u) :
    valD ops t (setD D i) ops.size u = valD ops t D ops.size u := by
  unfold valD
  refine foldF_congr _ fun j _ hdj => ?_
  simp only [setD]
  rw [if_neg]
  rintro rfl
  exact hd (by simpa [dstAt, ho] using hdj)
theorem Tr.All.objNew (hA : t.All cx call ops) {D : Nat → Bool} {i x : Nat} (hn : Next ops D i) (hw : wsAt t i x = true) :
    objD t (setD D i) ops.size x = (t.loc i).get x := by
  rw [← hA.postAt hn.lt hw]
  unfold objD
  obtain ⟨o, ho⟩ := hA.op hn.lt
  rw [foldS_stop (i := i + 1) ops.size hn.lt]
  · simp only [foldS, setD, if_true, hw]
  · intro j hij hj hwj
    obtain ⟨oj, hoj⟩ := hA.op hj
    simp only [setD]
    rw [if_neg (by omega)]
    refine hA.behind hn (by omega) hj ⟨o, oj, ho, hoj, ?_⟩
    rw [clashT_of (x := x) (hA.noLd hn.lt (hA.wsLog hw)) (.inr (.inl ⟨hA.wsLog hw, hA.wsLog hwj⟩))]; simp
theorem Tr.All.objOld (_hA : t.All cx call ops) {D : Nat → Bool} {i x : Nat} (hw : ¬ wsAt t i x = true) :
    objD t (setD D i) ops.size x = objD t D ops.size x := by
  unfold objD
  refine foldS_congr _ fun j _ hwj => ?_
  simp only [setD]
  rw [if_neg]
  rintro rfl
  exact hw hwj
end
end Go.Ev

/- THE ENGINE, part 20: a region that draws its order, sound. -/
namespace Go.Ev
open Go
variable {P : Program}
section
variable {cx : Cx} {call : CallT} {ops : Array Oper} {t : Tr}
structure Inv (ops : Array Oper) (t : Tr) (α0 : Al) (w0 : World) (ds : List Deferred) (D : Nat → Bool) (α : Al) (a : Act) (w : World) : Prop where
  tmps : ∀ u sv, valD ops t D ops.size u = some sv → ∃ v, a.tmps[u]? = some v ∧ SV.rep α sv v
  size : a.tmps.size = (t.fr 0).length
  defs : a.defers = ds
  to : To α0 (t.st 0) w0 α (stD t D ops.size) w
  new : ∀ j, j < ops.size → D j = false → ∀ x, (t.st j).length ≤ x → x < (t.st (j + 1)).length → α x = none
  closed : Closed ops.toList D
theorem asRo_wr {so : SO} : so.asRo.wr = false := by
  cases so
  case own wb k T m ct => cases k <;> rfl
  all_goals rfl
theorem asRo_lies {w : World} {d : Den} {so : SO} {b : Nat} (h : so.asRo.lies w d b) : so.lies w d b := by
  cases so
  case own wb k T m ct => cases k <;> exact h
  case mem wb k T m ct => cases k <;> exact h
  all_goals exact h
theorem asRo_ice {w : World} {d : Den} {so : SO} {b : Nat} (h : Ice w d so.asRo b) : Ice w d so b := by
  cases so
  case own wb k T m ct => cases k <;> exact h
  case mem wb k T m ct => cases k <;> exact h
  all_goals exact h
theorem asRo_foot {w : World} {d : Den} {so : SO} {b : Nat} (h : Foot w d so.asRo b) : Foot w d so b := h.imp asRo_lies asRo_ice
theorem asRo_good {α : Al} {w : World} {d : Den} {so : SO} (h : Good α w d so) : Good α w d so.asRo := by
  cases so
  case own wb k T m ct =>
    obtain ⟨h1, h2, ⟨h3, h4, a, c, h5, _⟩ | h3⟩ := h
    · exact ⟨h1, h2, .inl ⟨h3, h4, a, c, h5, fun e => by cases e⟩⟩
    · exact ⟨h1, h2, .inr h3⟩
  all_goals exact h
theorem restrict_some {rd wr : List Nat} {st : St} {x : Nat} {so : SO} (h : (restrict rd wr 0 st).get x = some so) :
    x < st.length ∧ ((x ∈ wr ∧ st.get x = some so) ∨ (x ∉ wr ∧ x ∈ rd ∧ ∃ s, st.get x = some s ∧ so = s.asRo)) := by
  have hlt := St.get_lt h
  rw [restrict_length] at hlt
  refine ⟨hlt, ?_⟩
  rw [St.get_eq, restrict_get rd wr 0 st x hlt] at h
  simp only [Nat.zero_add, Option.getD_some] at h
  split at h
  · rename_i hw; exact .inl ⟨hw, by rw [St.get_eq]; exact h⟩
  · rename_i hw
    split at h
    · rename_i hr
      rw [Option.map_eq_some_iff] at h
      obtain ⟨s, h1, h2⟩ := h
      exact .inr ⟨hw, hr, s, by rw [St.get_eq]; exact h1, h2.symm⟩
    · simp at h
theorem Inv.restrict (hA : t.All cx call ops) {α0 α : Al} {w0 w : World} {ds : List Deferred} {D : Nat → Bool} {a : Act} (hI : Inv ops t α0 w0 ds D α a w)
    {i : Nat} (hn : Next ops D i) (hl : t.ld i = none) (hb : belowS (t.st i).length (Ev.restrict (t.rd i) (t.wr i) 0 (t.st i)) = true) :
    R (α.upto (t.st i).length) (Ev.restrict (t.rd i) (t.wr i) 0 (t.st i)) w := by
  have hle := hA.mono (i := i) (Nat.le_of_lt hn.lt) (Nat.le_refl _)
  have key : ∀ x so, (Ev.restrict (t.rd i) (t.wr i) 0 (t.st i)).get x = some so → x < (t.st i).length ∧ ∃ s, (stD t D ops.size).get x = some s ∧ ((so = s ∧ x ∈ t.wr i) ∨ so = s.asRo) := by
    intro x so h
    obtain ⟨h1, h2⟩ := restrict_some h
    refine ⟨h1, ?_⟩
    have hg : ∀ s, (t.st i).get x = some s → (x ∈ t.rd i ∨ x ∈ t.wr i) → (stD t D ops.size).get x = some s := by
      intro s hs hx
      rw [stD_get (by omega), hA.touch hn hl hx h1]; exact hs
    rcases h2 with ⟨h3, h4⟩ | ⟨_, h3, s, h4, h5⟩
    · exact ⟨so, hg so h4 (.inr h3), .inl ⟨rfl, h3⟩⟩
    · exact ⟨s, hg s h4 (.inl h3), .inr h5⟩
  refine ⟨fun x so h => ?_, fun x x' so so' d d' b hne h h' e e' hw hlb hfb => ?_, fun x so d b h e hw hlb hib => ?_, fun x hx => ?_, fun x d h => ?_⟩
  · obtain ⟨h1, s, h2, h3⟩ := key x so h
    obtain ⟨d, h4, h5⟩ := hI.to.rep.good x s h2
    refine ⟨d, by rw [Al.upto_lt h1]; exact h4, ?_⟩
    have hg : Good α w d so := by
      rcases h3 with ⟨rfl, _⟩ | rfl
      · exact h5
      · exact asRo_good h5
    refine hg.at fun o ho => Al.upto_lt ?_
    rw [St.get_eq] at h
    cases hx : (Ev.restrict (t.rd i) (t.wr i) 0 (t.st i))[x]? with
    | none => rw [hx] at h; simp at h
    | some y =>
      rw [hx] at h
      simp only [Option.getD_some] at h
      subst h
      exact belowS_get hb hx o ho
  · obtain ⟨h1, s, h2, h3⟩ := key x so h
    obtain ⟨h1', s', h2', h3'⟩ := key x' so' h'
    rw [Al.upto_lt h1] at e
    rw [Al.upto_lt h1'] at e'
    rcases h3 with ⟨rfl, _⟩ | rfl
    · refine hI.to.rep.sep x x' so s' d d' b hne h2 h2' e e' hw hlb ?_
      rcases h3' with ⟨rfl, _⟩ | rfl
      · exact hfb
      · exact asRo_foot hfb
    · rw [asRo_wr] at hw; simp at hw
  · obtain ⟨h1, s, h2, h3⟩ := key x so h
    rw [Al.upto_lt h1] at e
    rcases h3 with ⟨rfl, _⟩ | rfl
    · exact hI.to.rep.self x so d b h2 e hw hlb hib
    · rw [asRo_wr] at hw; simp at hw
  · rw [restrict_length] at hx
    simp [Al.upto, Nat.not_lt.2 hx]
  · exact hI.to.rep.cell x d (Al.upto_le _ _ _ _ h)
def joinA (α β : Al) (lo : Nat) : Al := fun x => if x < lo then α x else match β x with | some d => some d | none => α x
theorem Inv.ran (hA : t.All cx call ops) {α0 α : Al} {w0 w : World} {ds : List Deferred} {D : Nat → Bool} {a : Act} (hI : Inv ops t α0 w0 ds D α a w)
    {i : Nat} {o : Oper} (ho : ops[i]? = some o) (hn : Next ops D i) (hld : t.ld i = none) {β : Al} {w' : World} {v : Value}
    (hto : To (α.upto (t.st i).length) (Ev.restrict (t.rd i) (t.wr i) 0 (t.st i)) w β (t.loc i) w') (hv : SV.rep β (t.v i) v) :
    ∃ α', Inv ops t α0 w0 ds (setD D i) α' (a.put o.dst v) w' := by
  have hlo := hA.mono (i := i) (Nat.le_of_lt hn.lt) (Nat.le_refl _)
  have hhi := hA.mono (i := i + 1) hn.lt (Nat.le_refl _)
  have hlen : (t.st i).length ≤ (t.loc i).length := by have := hto.len; rwa [restrict_length] at this
  have hnext : (t.st (i + 1)).length = (t.loc i).length := by rw [hA.next hn.lt]; omega
  have h0 := hA.mono (i := 0) (j := i) (Nat.zero_le _) (Nat.le_of_lt hn.lt)
  -- the new ones
  have hβlo : ∀ x, x < (t.st i).length → β x = α x := fun x hx => by
    rw [hto.ext x (by rw [restrict_length]; exact hx), Al.upto_lt hx]
  have hβhi : ∀ x, (t.loc i).length ≤ x → β x = none := hto.rep.none
  have hαmid : ∀ x, (t.st i).length ≤ x → x < (t.loc i).length → α x = none := fun x h1 h2 => hI.new i hn.lt hn.no x h1 (by omega)
  let γ : Al := fun x => if x < (t.st i).length then α x else if x < (t.loc i).length then β x else α x
  have γlo : ∀ x, x < (t.st i).length → γ x = α x := fun x h => by simp only [γ, if_pos h]
  have γmid : ∀ x, (t.st i).length ≤ x → x < (t.loc i).length → γ x = β x := fun x h1 h2 => by simp only [γ, if_neg (Nat.not_lt.2 h1), if_pos h2]
  have γhi : ∀ x, (t.loc i).length ≤ x → γ x = α x := fun x h => by
    have h' := Nat.le_trans hlen h
    simp only [γ, if_neg (Nat.not_lt.2 h'), if_neg (Nat.not_lt.2 h)]
  have hαγ : α.le γ := by
    intro x d hx
    by_cases h1 : x < (t.st i).length
    · rw [γlo x h1]; exact hx
    · by_cases h2 : x < (t.loc i).length
      · rw [hαmid x (by omega) h2] at hx; simp at hx
      · rw [γhi x (by omega)]; exact hx
  have hβγ : β.le γ := by
    intro x d hx
    by_cases h1 : x < (t.st i).length
    · rw [γlo x h1, ← hβlo x h1]; exact hx
    · by_cases h2 : x < (t.loc i).length
      · rw [γmid x (by omega) h2]; exact hx
      · rw [hβhi x (by omega)] at hx; simp at hx
  -- what is written
  have wrIn : ∀ b, Wr (α.upto (t.st i).length) (Ev.restrict (t.rd i) (t.wr i) 0 (t.st i)) w b →
      ∃ x so d, x ∈ t.wr i ∧ x < (t.st i).length ∧ (stD t D ops.size).get x = some so ∧ α x = some d ∧ so.wr = true ∧ so.lies w d b := by
    rintro b ⟨x, so, d, h1, h2, h3, h4⟩
    obtain ⟨h5, h6⟩ := restrict_some h1
    rw [Al.upto_lt h5] at h2
    rcases h6 with ⟨h6, h7⟩ | ⟨_, _, s, _, rfl⟩
    · exact ⟨x, so, d, h6, h5, by rw [stD_get (by omega), hA.touchW hn h6 h5]; exact h7, h2, h3, h4⟩
    · rw [asRo_wr] at h3; simp at h3
  have wrIn' : ∀ b, Wr (α.upto (t.st i).length) (Ev.restrict (t.rd i) (t.wr i) 0 (t.st i)) w b → Wr α (stD t D ops.size) w b := fun b h =>
    let ⟨x, so, d, _, _, h1, h2, h3, h4⟩ := wrIn b h; ⟨x, so, d, h1, h2, h3, h4⟩
  have isIn : ∀ b, Is (α.upto (t.st i).length) (Ev.restrict (t.rd i) (t.wr i) 0 (t.st i)) w b → Is α (stD t D ops.size) w b := by
    rintro b ⟨x, so, d, h1, h2, h3⟩
    obtain ⟨h5, h6⟩ := restrict_some h1
    rw [Al.upto_lt h5] at h2
    rcases h6 with ⟨h6, h7⟩ | ⟨_, h6, s, h7, rfl⟩
    · exact ⟨x, so, d, by rw [stD_get (by omega), hA.touchW hn h6 h5]; exact h7, h2, h3⟩
    · exact ⟨x, s, d, by rw [stD_get (by omega), hA.touch hn hld (.inl h6) h5]; exact h7, h2, asRo_ice h3⟩
  -- the cases of an object
  have cases2 : ∀ x so, (stD t (setD D i) ops.size).get x = some so →
      (wsAt t i x = true ∧ (t.loc i).get x = some so) ∨ (wsAt t i x ≠ true ∧ (stD t D ops.size).get x = some so) := by
    intro x so h
    obtain ⟨h1, h2⟩ := stD_some h
    by_cases hw : wsAt t i x = true
    · rw [hA.objNew hn hw] at h2; exact .inl ⟨hw, h2⟩
    · rw [hA.objOld hw] at h2; exact .inr ⟨hw, by rw [stD_get h1]; exact h2⟩
  -- an object that the operation may not write keeps its blocks
  have stay : ∀ x so d, wsAt t i x ≠ true → (stD t D ops.size).get x = some so → α x = some d → Good γ w' d so ∧ (∀ b, Foot w' d so b → Foot w d so b) ∧ (∀ b, Ice w' d so b → Ice w d so b) ∧ ∀ b, so.lies w' d b → so.lies w d b := by
    intro x so d hw ho hd
    obtain ⟨d', x1, x2⟩ := hI.to.rep.good x so ho
    rw [hd] at x1; cases x1
    have hag : ∀ b, Foot w d so b → w'.heap[b]? = w.heap[b]? := fun b hb => hto.kept b (x2.lt hb) fun hwr => by
      obtain ⟨y, s, e, y1, y2, y3, y4, y5, y6⟩ := wrIn _ hwr
      exact hI.to.rep.sep y x s so e d b (by rintro rfl; exact hw (wsAt_iff.2 (.inl y1))) y3 ho y4 hd y5 y6 hb
    obtain ⟨g1, g2⟩ := x2.kept hαγ hag hto.size
    exact ⟨g1, g2, fun b => Ice.congr hag, fun b => SO.lies_congr x2 hag⟩
  have footLt : ∀ x so d b, (stD t D ops.size).get x = some so → α x = some d → Foot w d so b → b < w.heap.size := by
    intro x so d b ho hd hb
    obtain ⟨d', x1, x2⟩ := hI.to.rep.good x so ho
    rw [hd] at x1; cases x1
    exact x2.lt hb
  have getβ : ∀ x so, wsAt t i x = true → (t.loc i).get x = some so → ∀ d, γ x = some d → β x = some d := by
    intro x so hw h d hd
    obtain ⟨d2, e1, _⟩ := hto.rep.good x so h
    rw [hβγ _ _ e1] at hd; cases hd; exact e1
  have getα : ∀ x so, (stD t D ops.size).get x = some so → ∀ d, γ x = some d → α x = some d := by
    intro x so h d hd
    obtain ⟨d2, e1, _⟩ := hI.to.rep.good x so h
    rw [hαγ _ _ e1] at hd; cases hd; exact e1
  refine ⟨γ, ?_, ?_, ?_, ⟨⟨?_, ?_, ?_, ?_, ?_⟩, ?_, ?_, ?_, ?_, ?_, ?_, ?_, hto.tape.trans hI.to.tape, hto.os.trans hI.to.os, hto.output.trans hI.to.output⟩, ?_, hn.closed'⟩
  · -- temporaries
    intro u sv hu
    by_cases hd : o.dst = some u
    · by_cases hlt : u < (t.fr 0).length
      · rw [hA.valNew ho hn hd hlt] at hu
        cases hu
        refine ⟨v, ?_, SV.rep_mono hβγ hv⟩
        rw [hd]
        simp only [Act.put, Array.getElem?_setIfInBounds, if_true]
        rw [if_pos (by rw [hI.size]; exact hlt)]
      · exfalso
        have : valD ops t (setD D i) ops.size u = none := by
          have : ∀ n, foldF (t.fr 0).length (dstAt ops) t.v (t.fr 0).get (setD D i) n u = none := by
            intro n
            induction n with
            | zero => simp only [foldF]; rw [Fr.get_eq, List.getElem?_eq_none (Nat.le_of_not_lt hlt)]; rfl
            | succ n ih =>
              simp only [foldF]
              split
              · simp only [updF]; rw [if_neg (fun h => hlt h.2)]; exact ih
              · exact ih
          exact this _
        rw [this] at hu; simp at hu
    · rw [hA.valOld ho hd] at hu
      obtain ⟨v', h1, h2⟩ := hI.tmps u sv hu
      refine ⟨v', ?_, SV.rep_mono hαγ h2⟩
      cases hdd : o.dst with
      | none => exact h1
      | some d =>
        simp only [Act.put, Array.getElem?_setIfInBounds]
        rw [if_neg (by rintro rfl; exact hd hdd)]; exact h1
  · cases o.dst with
    | none => exact hI.size
    | some d => simpa [Act.put] using hI.size
  · rw [put_defers_eq]; exact hI.defs
  · -- good
    intro x so h
    rcases cases2 x so h with ⟨hw, h⟩ | ⟨hw, h⟩
    · obtain ⟨d, h1, h2⟩ := hto.rep.good x so h
      exact ⟨d, hβγ _ _ h1, h2.congr hβγ (fun _ _ => rfl) (Nat.le_refl _)⟩
    · obtain ⟨d, h1, _⟩ := hI.to.rep.good x so h
      exact ⟨d, hαγ _ _ h1, (stay x so d hw h h1).1⟩
  · -- sep
    intro x x' so so' d d' b hne h h' e e' hwr hlb hfb
    rcases cases2 x so h with ⟨hw, h⟩ | ⟨hw, h⟩ <;> rcases cases2 x' so' h' with ⟨hw', h'⟩ | ⟨hw', h'⟩
    · exact hto.rep.sep x x' so so' d d' b hne h h' (getβ x so hw h d e) (getβ x' so' hw' h' d' e') hwr hlb hfb
    · have e1 := getα x' so' h' d' e'
      have hf1 := (stay x' so' d' hw' h' e1).2.1 b hfb
      have hbl := footLt x' so' d' b h' e1 hf1
      obtain ⟨y, s, z, y1, y2, y3, y4, y5, y6⟩ := wrIn b (hto.wrs b hbl ⟨x, so, d, h, getβ x so hw h d e, hwr, hlb⟩)
      exact hI.to.rep.sep y x' s so' z d' b (by rintro rfl; exact hw' (wsAt_iff.2 (.inl y1))) y3 h' y4 e1 y5 y6 hf1
    · have e1 := getα x so h d e
      replace hlb := (stay x so d hw h e1).2.2.2 b hlb
      have hbl := footLt x so d b h e1 (Foot.of_own hlb)
      have byWr : Wr (α.upto (t.st i).length) (Ev.restrict (t.rd i) (t.wr i) 0 (t.st i)) w b → False := fun hwr2 => by
        obtain ⟨y, s, z, y1, y2, y3, y4, y5, y6⟩ := wrIn b hwr2
        exact hI.to.rep.sep y x s so z d b (by rintro rfl; exact hw (wsAt_iff.2 (.inl y1))) y3 h y4 e1 y5 y6 (Foot.of_own hlb)
      rcases hfb with hfb | hfb
      · rcases hto.lies x' so' d' b h' (getβ x' so' hw' h' d' e') hbl hfb with hwr2 | ⟨hlt, s, g1, g2⟩
        · exact byWr hwr2
        · rw [restrict_length] at hlt
          obtain ⟨_, h6⟩ := restrict_some g1
          have e2 : α x' = some d' := by rw [← γlo x' hlt]; exact e'
          rcases h6 with ⟨h6, h7⟩ | ⟨_, h6, s2, h7, rfl⟩
          · exact hI.to.rep.sep x x' so s d d' b hne h (by rw [stD_get (by omega), hA.touchW hn h6 hlt]; exact h7) e1 e2 hwr hlb (.inl g2)
          · exact hI.to.rep.sep x x' so s2 d d' b hne h (by rw [stD_get (by omega), hA.touch hn hld (.inl h6) hlt]; exact h7) e1 e2 hwr hlb (.inl (asRo_lies g2))
      · rcases hto.ice x' so' d' b h' (getβ x' so' hw' h' d' e') hbl hfb with hwr2 | hIs
        · exact byWr hwr2
        · exact hI.to.rep.apart ⟨x, so, d, h, e1, hwr, hlb⟩ (isIn b hIs)
    · exact hI.to.rep.sep x x' so so' d d' b hne h h' (getα x so h d e) (getα x' so' h' d' e') hwr ((stay x so d hw h (getα x so h d e)).2.2.2 b hlb) ((stay x' so' d' hw' h' (getα x' so' h' d' e')).2.1 b hfb)
  · -- none of its own
    intro x so d b h e hwr hlb hib
    rcases cases2 x so h with ⟨hw, h⟩ | ⟨hw, h⟩
    · exact hto.rep.self x so d b h (getβ x so hw h d e) hwr hlb hib
    · exact hI.to.rep.self x so d b h (getα x so h d e) hwr ((stay x so d hw h (getα x so h d e)).2.2.2 b hlb) ((stay x so d hw h (getα x so h d e)).2.2.1 b hib)
  · intro x hx
    rw [stD_length] at hx
    rw [γhi x (by omega)]
    exact hI.to.rep.none x (by rw [stD_length]; exact hx)
  · intro x d hx
    by_cases h1 : x < (t.st i).length
    · rw [γlo x h1] at hx; exact hI.to.rep.cell x d hx
    · by_cases h2 : x < (t.loc i).length
      · rw [γmid x (by omega) h2] at hx; exact hto.rep.cell x d hx
      · rw [γhi x (by omega)] at hx; exact hI.to.rep.cell x d hx
  · intro x hx
    rw [γlo x (by omega)]; exact hI.to.ext x hx
  · rw [stD_length]; have := hI.to.len; rwa [stD_length] at this
  · -- where they lie
    rintro x so d b h e hb h3
    have hbw : b < w.heap.size := by have := hI.to.size; omega
    rcases cases2 x so h with ⟨hw, h⟩ | ⟨hw, h⟩
    · rcases hto.lies x so d b h (getβ x so hw h d e) hbw h3 with hwr2 | ⟨hlt, s, g1, g2⟩
      · exact .inl (hI.to.wrs b hb (wrIn' b hwr2))
      · rw [restrict_length] at hlt
        obtain ⟨_, h6⟩ := restrict_some g1
        have e2 : α x = some d := by rw [← γlo x hlt]; exact e
        rcases h6 with ⟨h6, h7⟩ | ⟨_, h6, s2, h7, rfl⟩
        · exact hI.to.lies x s d b (by rw [stD_get (by omega), hA.touchW hn h6 hlt]; exact h7) e2 hb g2
        · exact hI.to.lies x s2 d b (by rw [stD_get (by omega), hA.touch hn hld (.inl h6) hlt]; exact h7) e2 hb (asRo_lies g2)
    · exact hI.to.lies x so d b h (getα x so h d e) hb ((stay x so d hw h (getα x so h d e)).2.2.2 b h3)
  · -- what nobody writes
    rintro x so d b h e hb h3
    have hbw : b < w.heap.size := by have := hI.to.size; omega
    rcases cases2 x so h with ⟨hw, h⟩ | ⟨hw, h⟩
    · rcases hto.ice x so d b h (getβ x so hw h d e) hbw h3 with hwr2 | hIs
      · exact .inl (hI.to.wrs b hb (wrIn' b hwr2))
      · obtain ⟨x1, so1, d1, z1, z2, z3⟩ := isIn b hIs
        exact hI.to.ice x1 so1 d1 b z1 z2 hb z3
    · exact hI.to.ice x so d b h (getα x so h d e) hb ((stay x so d hw h (getα x so h d e)).2.2.1 b h3)
  · -- wrs
    rintro b hb ⟨x, so, d, h, e, h3, h4⟩
    rcases cases2 x so h with ⟨hw, h⟩ | ⟨hw, h⟩
    · exact hI.to.wrs _ hb (wrIn' _ (hto.wrs _ (by have := hI.to.size; omega) ⟨x, so, d, h, getβ x so hw h d e, h3, h4⟩))
    · exact hI.to.wrs _ hb ⟨x, so, d, h, getα x so h d e, h3, (stay x so d hw h (getα x so h d e)).2.2.2 _ h4⟩
  · intro b hb hnw
    refine (hto.kept b (by have := hI.to.size; omega) fun hw => hnw (hI.to.wrs b hb (wrIn' b hw))).trans (hI.to.kept b hb hnw)
  · exact Nat.le_trans hI.to.size hto.size
  · -- what is not made yet
    intro j hj hdj x h1 h2
    simp only [setD] at hdj
    split at hdj
    · simp at hdj
    · rename_i hne
      have hx : x < (t.st i).length ∨ (t.loc i).length ≤ x := by
        rcases Nat.lt_or_ge j i with hlt | hge
        · left; have := hA.mono (i := j + 1) (j := i) hlt (Nat.le_of_lt hn.lt); omega
        · right; have := hA.mono (i := i + 1) (j := j) (by omega) (Nat.le_of_lt hj); omega
      rcases hx with hx | hx
      · rw [γlo x hx]; exact hI.new j hj hdj x h1 h2
      · rw [γhi x hx]; exact hI.new j hj hdj x h1 h2
end
end Go.Ev

/- THE ENGINE, part 21: a region that draws its order, sound. -/
namespace Go.Ev
open Go
variable {P : Program}
section
variable {cx : Cx} {call : CallT} {ops : Array Oper} {t : Tr}
theorem setD_stay {D : Nat → Bool} {i : Nat} (hA : t.All cx call ops) (h2 : t.wr i = []) (h3 : (t.loc i).length = (t.st i).length) :
    stD t (setD D i) ops.size = stD t D ops.size := by
  unfold stD
  apply List.map_congr_left
  intro x _
  refine hA.objOld ?_
  rw [wsAt_iff, h2, h3]
  simp only [List.not_mem_nil, false_or]
  omega
theorem Inv.skip (hA : t.All cx call ops) {α0 α : Al} {w0 w : World} {ds : List Deferred} {D : Nat → Bool} {a : Act} (hI : Inv ops t α0 w0 ds D α a w)
    {i : Nat} {o : Oper} (ho : ops[i]? = some o) (hn : Next ops D i) (hw : t.wr i = []) (hll : (t.loc i).length = (t.st i).length)
    {α' : Al} {w' : World} {val : Value} (hto : To α (stD t D ops.size) w α' (stD t D ops.size) w') (hv : SV.rep α' (t.v i) val) : Inv ops t α0 w0 ds (setD D i) α' (a.put o.dst val) w' := by
  refine ⟨?_, ?_, ?_, ?_, ?_, hn.closed'⟩
  · intro u sv hu
    by_cases hd : o.dst = some u
    · by_cases hlt : u < (t.fr 0).length
      · rw [hA.valNew ho hn hd hlt] at hu
        cases hu
        refine ⟨val, ?_, hv⟩
        rw [hd]
        simp only [Act.put, Array.getElem?_setIfInBounds, if_true]
        rw [if_pos (by rw [hI.size]; exact hlt)]
      · exfalso
        have : valD ops t (setD D i) ops.size u = none := by
          have : ∀ n, foldF (t.fr 0).length (dstAt ops) t.v (t.fr 0).get (setD D i) n u = none := by
            intro n
            induction n with
            | zero => simp only [foldF]; rw [Fr.get_eq, List.getElem?_eq_none (Nat.le_of_not_lt hlt)]; rfl
            | succ n ih =>
              simp only [foldF]
              split
              · simp only [updF]; rw [if_neg (fun h => hlt h.2)]; exact ih
              · exact ih
          exact this _
        rw [this] at hu; simp at hu
    · rw [hA.valOld ho hd] at hu
      obtain ⟨v', h1, h2⟩ := hI.tmps u sv hu
      refine ⟨v', ?_, SV.rep_mono (hto.le hI.to.rep) h2⟩
      cases hdd : o.dst with
      | none => exact h1
      | some d =>
        simp only [Act.put, Array.getElem?_setIfInBounds]
        rw [if_neg (by rintro rfl; exact hd hdd)]; exact h1
  · cases o.dst with
    | none => exact hI.size
    | some d => simpa [Act.put] using hI.size
  · rw [put_defers_eq]; exact hI.defs
  · rw [setD_stay hA hw hll]; exact hI.to.trans hto
  · intro j hj hdj x h1 h2
    simp only [setD] at hdj
    split at hdj
    · simp at hdj
    · have hlen := hA.mono (i := j + 1) (j := ops.size) hj (Nat.le_refl _)
      rw [hto.ext x (by rw [stD_length]; omega)]
      exact hI.new j hj hdj x h1 h2
theorem reads_congr {T : TypeId} {st st' : St} {a : SA} {v : SV} (h : evLoad cx.P T st a fun v' s => v' = v ∧ s.length = st.length) (hg : ∀ q ∈ a.refs, st'.rows q = st.rows q ∧ (st.get q = some .nul → st'.get q = some .nul)) :
    evLoad cx.P T st' a fun v' s => v' = v ∧ s = st' := by
  have hgh : ∀ (c : SA), (ghostA c st fun v' s => v' = v ∧ s.length = st.length) → ghostA c st' fun v' s => v' = v ∧ s = st' := by
    intro c hc
    unfold ghostA at hc ⊢
    split at hc
    · simp at hc
    · exact ⟨hc.1, rfl⟩
    · rename_i l
      have gl : ∀ (l : List SC) (st st' : St), st.length ≤ (ghosts l st).2.length ∧ ((ghosts l st).2.length = st.length → (ghosts l st).1 = l ∧ ghosts l st' = (l, st')) := by
        intro l
        induction l with
        | nil => intro st st'; exact ⟨Nat.le_refl _, fun _ => ⟨rfl, rfl⟩⟩
        | cons c r ih =>
          intro st st'
          cases c with
          | dat k xs =>
            simp only [ghosts]
            have := (ih (st ++ [some (.own false .ext 0 1 (.ints k xs))]) st').1
            simp at this
            exact ⟨by omega, fun h => by omega⟩
          | _ =>
            simp only [ghosts]
            refine ⟨(ih st st').1, fun h => ?_⟩
            obtain ⟨h1, h2⟩ := (ih st st').2 h
            rw [h1, h2]
            exact ⟨rfl, rfl⟩
      obtain ⟨e1, e2⟩ := (gl l st st').2 hc.2
      rw [e2]
      refine ⟨?_, rfl⟩
      have := hc.1
      rw [e1] at this
      exact this
  have hrow : ∀ o i j, a = .one (.ptr o i j) → st'.rows o = st.rows o := by
    intro o i j e
    subst e
    exact (hg o (by simp [SA.refs, SC.refs])).1
  unfold evLoad at h ⊢
  split at h
  · rename_i o i j
    rw [hrow o i j rfl]
    split at h
    · rename_i m ct hr
      split at h
      · obtain ⟨h1, h⟩ := need_iff.1 h
        exact need_iff.2 ⟨h1, hgh _ h⟩
      · rename_i hne
        obtain ⟨h1, h⟩ := need_iff.1 h
        obtain ⟨h0, h⟩ := Ct.atK_iff.1 h
        obtain ⟨x, h2, h⟩ := opt_iff.1 h
        exact need_iff.2 ⟨h1, Ct.atK_iff.2 ⟨h0, opt_iff.2 ⟨x, h2, hgh _ h⟩⟩⟩
    · exact h.elim
  · rename_i o
    split at h
    · rename_i g1 g2 g3
      rw [(hg o (by simp [SA.refs, SC.refs])).2 g1, g2, g3]
      exact ⟨h.1, rfl⟩
    · exact h.elim
  · exact h.elim
theorem slots_looks {ops : List Oper} {o : Oper} {d : Nat} (h : d ∈ slots ops o) : d ∈ looks ops o := by
  unfold looks
  exact List.mem_append_right _ h
theorem Inv.step (hP : cx.P = P) (hN : OpsOk P cx) (hC : CallOk P call) {r : Option Nat} {Q : Exit → Act → World → Prop} (hA : t.All cx call ops) {α0 α : Al} {w0 w : World} {ds : List Deferred} {D : Nat → Bool} {a : Act}
    (hI : Inv ops t α0 w0 ds D α a w) {i : Nat} (hn : Next ops D i) {K : Act → World → Prop} (hK : ∀ α' a' w', Inv ops t α0 w0 ds (setD D i) α' a' w' → K a' w') :
    wpOpIn (Wide r) 0 P ops Q i K a w := by
  obtain ⟨o, ho⟩ := hA.op hn.lt
  have hok := hA.ok i o ho
  unfold wpOpIn
  simp only [ho]
  have hlook : ∀ u ∈ looks ops.toList o, ∀ sv, (t.fr i).get u = some sv → ∃ v, a.tmps[u]? = some v ∧ SV.rep α sv v := by
    intro u hu sv hs
    rw [← hA.look ho hn hu] at hs
    exact hI.tmps u sv hs
  cases hr : t.ran i with
  | false =>
    have hw := (hok.no hr).1 α a.tmps fun d hd sv hs => hlook d (slots_looks hd) sv hs
    rw [if_neg (by rw [hw]; simp)]
    obtain ⟨_, _, g1, g2, g3⟩ := hok.no hr
    exact ⟨fun _ _ => trivial, hK _ _ _ (hI.skip hA ho hn g1 (by rw [g3]) (To.refl hI.to.rep) (by rw [g2]; exact ⟨[], trivial, rfl⟩))⟩
  | true =>
    obtain ⟨hw, hb1, hb2, hev⟩ := hok.yes hr
    have hw := hw α a.tmps fun d hd sv hs => hlook d (slots_looks hd) sv hs
    rw [if_pos hw]
    cases hld : t.ld i with
    | some z =>
      -- a load that may be done ahead or behind
      obtain ⟨T, aa, vv⟩ := z
      obtain ⟨rfl, e2, _, e4, e5, x, e6, e7⟩ := hok.ld T aa vv hld
      have hx : evOperand (t.fr i) x = some (.sa aa) := by
        unfold rhoSA at e7
        split at e7
        · rename_i a' ha'; cases e7; exact ha'
        · cases e7
      have hlt : ∀ q ∈ aa.refs, q < (t.st i).length := fun q hq => belowL_iff.1 hb1 q (opRefs_mem (x := x) (by rw [e6]; simp [Op.operands]) hx q hq)
      have h0 : evLoad cx.P T (Ev.restrict (t.rd i) (t.wr i) 0 (t.st i)) aa fun v' s => v' = t.v i ∧ s.length = (Ev.restrict (t.rd i) (t.wr i) 0 (t.st i)).length := by
        unfold evOp at hev
        simp only [e6, e7] at hev
        obtain ⟨v1, s1, h1, h2⟩ := lin_load _ hev
        exact h2 _ ⟨h1.1, by rw [h1.2, restrict_length, e2]⟩
      have hn' := hA.mono (i := i) (Nat.le_of_lt hn.lt) (Nat.le_refl _)
      have one : ∃ q, aa.refs = [q] := by
        unfold evLoad at h0
        split at h0
        · exact ⟨_, rfl⟩
        · exact ⟨_, rfl⟩
        · exact h0.elim
      obtain ⟨q, hq⟩ := one
      have hqr : q ∈ t.rd i := e5 q (by rw [hq]; simp)
      have hql : q < (t.st i).length := hlt q (by rw [hq]; simp)
      have h1 : evLoad cx.P T (stD t D ops.size) aa fun v' s => v' = t.v i ∧ s = stD t D ops.size := by
        rcases hA.touchLd hn hqr hql with hs | ⟨j, j1, j2, j3, j4, hs⟩
        · refine reads_congr h0 fun q' hq' => ?_
          rw [hq] at hq'
          obtain rfl : q' = q := by simpa using hq'
          have hg : (stD t D ops.size).get q' = (t.st i).get q' := by rw [stD_get (by omega), hs]
          have hr : (Ev.restrict (t.rd i) (t.wr i) 0 (t.st i)).get q' = ((t.st i).get q').map SO.asRo := by
            rw [St.get_eq, restrict_get _ _ 0 _ _ hql]
            simp only [Nat.zero_add, Option.getD_some]
            rw [if_neg (by rw [e4]; simp), if_pos hqr, ← St.get_eq]
          unfold St.rows
          rw [hg, hr]
          refine ⟨?_, fun e => ?_⟩
          · cases (t.st i).get q' with
            | none => rfl
            | some so => cases so <;> rfl
          · cases hso : (t.st i).get q' with
            | none => rw [hso] at e; cases e
            | some so =>
              rw [hso] at e
              cases so <;> first | rfl | (simp [SO.asRo] at e; done)
        · have hlj := hA.mono (i := i) (j := j) (by omega) (by omega)
          have hlj1 := hA.mono (i := j + 1) (j := ops.size) (by omega) (Nat.le_refl _)
          have hwj : q ∈ t.wr j := by
            rcases wsAt_iff.1 j4 with h | h
            · exact h
            · omega
          obtain ⟨oj, hoj⟩ := hA.op j2
          have hrj : t.ran j = true := by
            cases hrj : t.ran j with
            | true => rfl
            | false =>
              obtain ⟨_, _, g1, _⟩ := (hA.ok j oj hoj).no hrj
              rw [g1] at hwj; cases hwj
          have hfn : t.fn j = true := by
            cases hfn : t.fn j with
            | true => rfl
            | false =>
              have hc : Clash ops t i j := ⟨o, oj, ho, hoj, by rw [clashF_of (x := q) hfn ⟨hA.wsLog j4, hqr⟩]; simp⟩
              rw [hA.behind hn j1 j2 hc] at j3; cases j3
          have hst := hA.still j j2 hrj hfn i (t.log i) T aa (t.v i) (by simp [List.getElem?_map, List.getElem?_range j1]) hld (meets_iff.2 ⟨q, hwj, hqr⟩) (by
            rw [Nat.zero_add]
            intro hm
            rw [getL_eq] at hm
            have := ancestors_spec ops.toList ops.toList [] rfl hn.closed (by simp) j i hm j3
            rw [hn.no] at this; cases this)
          have h2 : evLoad cx.P T (t.st (j + 1)) aa fun v' s => v' = t.v i ∧ s.length = (t.st (j + 1)).length := by
            obtain ⟨v1, s1, g1, g2⟩ := lin_load _ hst
            exact g2 _ ⟨sameV_eq g1.1, by rw [g1.2]⟩
          refine reads_congr h2 fun q' hq' => ?_
          rw [hq] at hq'
          obtain rfl : q' = q := by simpa using hq'
          have hg : (stD t D ops.size).get q' = (t.st (j + 1)).get q' := by rw [stD_get (by omega), hs]
          unfold St.rows
          rw [hg]
          exact ⟨rfl, fun e => e⟩
      have hev2 : evOp cx call (evOperand (t.fr i)) (stD t D ops.size) o (fun v' s => v' = t.v i ∧ s = stD t D ops.size) := by
        unfold evOp
        simp only [e6, e7]
        exact h1
      classical
      let ρ : Operand → Option SV := fun x => if x ∈ o.op.operands then evOperand (t.fr i) x else none
      have hρe : ∀ x ∈ o.op.operands, evOperand (t.fr i) x = ρ x := fun x hx => by simp only [ρ, if_pos hx]
      rw [evOp_congr hρe] at hev2
      refine evOp_sound hP hN hC hI.to.rep ?_ hev2 fun sv st' α' w' v hk hv hto => ?_
      · intro x sv hx
        simp only [ρ] at hx
        split at hx
        · rename_i hm
          cases x with
          | tmp u =>
            obtain ⟨v, h1, h2⟩ := hlook u (List.mem_append_left _ (List.mem_filterMap.2 ⟨.tmp u, by simpa using hm, rfl⟩)) sv hx
            simpa [Act.eval, h1] using h2
          | const v => simp [evOperand] at hx; subst hx; exact SV.rep_ofValue v
          | global g => simp [evOperand] at hx
          | func f => simp [evOperand] at hx; subst hx; exact rfl
        · simp at hx
      · obtain ⟨rfl, rfl⟩ := hk
        exact hK _ _ _ (hI.skip hA ho hn e4 e2 hto hv)
    | none =>
    have hR := hI.restrict hA hn hld hb2
    classical
    let ρ : Operand → Option SV := fun x => if x ∈ o.op.operands then evOperand (t.fr i) x else none
    have hρe : ∀ x ∈ o.op.operands, evOperand (t.fr i) x = ρ x := fun x hx => by simp only [ρ, if_pos hx]
    rw [evOp_congr hρe] at hev
    refine evOp_sound hP hN hC hR ?_ hev fun sv st' α' w' v hk hv hto => ?_
    · intro x sv hx
      simp only [ρ] at hx
      split at hx
      · rename_i hm
        have hrefs : ∀ q ∈ sv.refs, q < (t.st i).length := fun q hq => belowL_iff.1 hb1 q (opRefs_mem (by simpa using hm) hx q hq)
        have : SV.rep α sv (a.eval x) := by
          cases x with
          | tmp u =>
            obtain ⟨v, h1, h2⟩ := hlook u (List.mem_append_left _ (List.mem_filterMap.2 ⟨.tmp u, by simpa using hm, rfl⟩)) sv hx
            simpa [Act.eval, h1] using h2
          | const v => simp [evOperand] at hx; subst hx; exact SV.rep_ofValue v
          | global g => simp [evOperand] at hx
          | func f => simp [evOperand] at hx; subst hx; exact rfl
        exact SV.rep_at (fun q hq => Al.upto_lt (hrefs q hq)) this
      · simp at hx
    · obtain ⟨rfl, rfl⟩ := hk
      obtain ⟨α'', h⟩ := hI.ran hA ho hn hld hto hv
      exact hK _ _ _ h
def left (D : Nat → Bool) : Nat → Nat
  | 0 => 0
  | n + 1 => left D n + if D n = true then 0 else 1
theorem left_zero {D : Nat → Bool} : ∀ {n : Nat}, left D n = 0 → ∀ j, j < n → D j = true
  | 0, _, j, hj => by omega
  | n + 1, h, j, hj => by
    simp only [left] at h
    by_cases e : j = n
    · subst e
      by_cases hd : D j = true
      · exact hd
      · rw [if_neg hd] at h; omega
    · exact left_zero (n := n) (by omega) j (by omega)
theorem setD_ne {D : Nat → Bool} {i j : Nat} (h : j ≠ i) : setD D i j = D j := by simp [setD, h]
theorem setD_eq {D : Nat → Bool} {i : Nat} : setD D i i = true := by simp [setD]
theorem left_set {D : Nat → Bool} {i : Nat} (hd : D i = false) : ∀ {n : Nat}, (n ≤ i → left (setD D i) n = left D n) ∧ (i < n → left (setD D i) n + 1 = left D n)
  | 0 => ⟨fun _ => rfl, fun h => by omega⟩
  | n + 1 => by
    have ih := left_set hd (n := n)
    simp only [left]
    constructor
    · intro h
      rw [ih.1 (by omega), setD_ne (by omega)]
    · intro h
      by_cases e : n = i
      · subst e
        rw [ih.1 (Nat.le_refl _), setD_eq, hd]
        simp
      · have := ih.2 (by omega)
        rw [setD_ne e]; omega
theorem ready_iff {listed : Array Bool} (hl : listed.size = ops.size) {i : Nat} : i ∈ Region.ready .any ops listed ↔
    i < ops.size ∧ listed.getD i false = false ∧ ∀ o, ops[i]? = some o → ∀ e ∈ o.after.toList, Region.binds .any e = true → listed.getD e.on false = true := by
  unfold Region.ready
  simp only [List.mem_filter, List.mem_range, Bool.and_eq_true, Bool.not_eq_true']
  constructor
  · rintro ⟨h1, h2, h3⟩
    have hlt : i < listed.size := by omega
    refine ⟨h1, by simpa [Array.getD, hlt] using h2, fun o ho e he hb => ?_⟩
    simp only [ho, Option.map_some, Option.getD_some, Array.all_eq_true'] at h3
    have := h3 e (by simpa using he)
    simpa [hb] using this
  · rintro ⟨h1, h2, h3⟩
    have hlt : i < listed.size := by omega
    refine ⟨h1, by simpa [Array.getD, hlt] using h2, ?_⟩
    obtain ⟨o, ho⟩ : ∃ o, ops[i]? = some o := ⟨ops[i], by simp [h1]⟩
    simp only [ho, Option.map_some, Option.getD_some, Array.all_eq_true']
    intro e he
    cases hb : Region.binds .any e with
    | false => simp
    | true => simpa using h3 o ho e (by simpa using he) hb
theorem Tr.All.back (hA : t.All cx call ops) {i : Nat} {o : Oper} (ho : ops[i]? = some o) : ∀ e ∈ o.after.toList, Region.binds .any e = true → e.on < i := by
  have hl := hA.log
  have hl := logOk_iff hl
  intro e he hb
  have := edgesBack_spec hl.2.1 (a := i) (by simpa using ho) e he hb
  omega
theorem done_all (hA : t.All cx call ops) {listed : Array Bool} (hl : listed.size = ops.size) (h : Region.ready .any ops listed = []) : ∀ i, i < ops.size → listed.getD i false = true := by
  intro i
  induction i using Nat.strongRecOn with
  | _ i ih =>
    intro hi
    cases hd : listed.getD i false with
    | true => rfl
    | false =>
      have : i ∈ Region.ready .any ops listed := (ready_iff hl).2 ⟨hi, hd, fun o ho e he hb => by
        have := hA.back ho e he hb
        exact ih e.on this (by omega)⟩
      rw [h] at this; simp at this
theorem valD_all (hA : t.All cx call ops) {D : Nat → Bool} (h : ∀ i, i < ops.size → D i = true) (u : Nat) : valD ops t D ops.size u = (t.fr ops.size).get u := by
  rw [hA.frAt (Nat.le_refl _)]
  exact foldF_congr _ fun j hj _ => h j hj
theorem stD_all (hA : t.All cx call ops) {D : Nat → Bool} (h : ∀ i, i < ops.size → D i = true) : stD t D ops.size = t.st ops.size := by
  apply List.ext_getElem?
  intro x
  by_cases hx : x < (t.st ops.size).length
  · have h1 : (stD t D ops.size).get x = (t.st ops.size).get x := by
      rw [stD_get hx, hA.stAt (Nat.le_refl _)]
      exact foldS_congr _ fun j hj _ => h j hj
    rw [St.get_eq, St.get_eq] at h1
    have l1 : x < (stD t D ops.size).length := by rw [stD_length]; exact hx
    rw [List.getElem?_eq_getElem l1, List.getElem?_eq_getElem hx] at h1 ⊢
    simpa using h1
  · rw [List.getElem?_eq_none (by rw [stD_length]; omega), List.getElem?_eq_none (by omega)]
theorem Inv.any (hP : cx.P = P) (hN : OpsOk P cx) (hC : CallOk P call) {r : Option Nat} {Q : Exit → Act → World → Prop} (hA : t.All cx call ops) {α0 : Al} {w0 : World} {ds : List Deferred}
    (hQ : ∀ α a w, FrOk α (t.fr ops.size) a.tmps → To α0 (t.st 0) w0 α (t.st ops.size) w → a.defers = ds → Q .normal a w) :
    ∀ (fuel : Nat) (listed : Array Bool) (α : Al) (a : Act) (w : World), listed.size = ops.size → left (fun j => listed.getD j false) ops.size ≤ fuel →
      Inv ops t α0 w0 ds (fun j => listed.getD j false) α a w → wpAnyIn (Wide r) 0 P .any ops Q fuel listed a w := by
  have fin : ∀ (listed : Array Bool) (α : Al) (a : Act) (w : World), (∀ i, i < ops.size → listed.getD i false = true) → Inv ops t α0 w0 ds (fun j => listed.getD j false) α a w → Q .normal a w := by
    intro listed α a w hall hI
    refine hQ α a w ⟨by rw [hI.size, hA.frlen (Nat.le_refl _)], fun u sv hu => hI.tmps u sv ?_⟩ ?_ hI.defs
    · rw [valD_all hA hall]; exact hu
    · rw [← stD_all hA hall]; exact hI.to
  intro fuel
  induction fuel with
  | zero =>
    intro listed α a w hl hf hI
    have hall := left_zero (D := fun j => listed.getD j false) (n := ops.size) (by omega)
    refine ⟨?_, fin listed α a w hall hI⟩
    cases hr : Region.ready .any ops listed with
    | nil => rfl
    | cons x xs =>
      have := (ready_iff hl (i := x)).1 (by rw [hr]; simp)
      have h2 := hall x this.1
      simp only [this.2.1] at h2
      cases h2
  | succ fuel ih =>
    intro listed α a w hl hf hI
    refine ⟨fun h => fin listed α a w (done_all hA hl h) hI, fun i hi => ?_⟩
    obtain ⟨h1, h2, h3⟩ := (ready_iff hl).1 hi
    have hn : Next ops (fun j => listed.getD j false) i := ⟨h1, h2, h3, hI.closed⟩
    have hset : (fun j => (listed.setIfInBounds i true).getD j false) = setD (fun j => listed.getD j false) i := by
      funext j
      simp only [setD, Array.getD_eq_getD_getElem?, Array.getElem?_setIfInBounds]
      by_cases e : i = j
      · subst e; simp [hl, h1]
      · rw [if_neg e, if_neg (fun h => e h.symm)]
    refine hI.step hP hN hC hA hn fun α' a' w' hI' => ih _ α' a' w' (by simpa using hl) ?_ (by rw [hset]; exact hI')
    rw [hset]
    have := (left_set (D := fun j => listed.getD j false) (i := i) h2 (n := ops.size)).2 h1
    omega
theorem evDraw_sound {id : Nat} (hP : cx.P = P) (hN : OpsOk P cx) (hC : CallOk P call) (hL : CallLin call) (hm : P.follows .mixedOrders = true) {r : Option Nat} {Q : Exit → Act → World → Prop}
    {fr : Fr} {st : St} {k : Fr → St → Prop} {α : Al} {a : Act} {w : World} (hR : R α st w) (hf : FrOk α fr a.tmps) (h : evDraw cx call ops.toList ops.toList fr st [] k)
    (hK : After α st w a.defers k (Q .normal)) : (Code.region id ops true).wpIn (Wide r) 0 P Q a w := by
  obtain ⟨t, t1, t2, t3, t4, t5, t6⟩ := evDraw_trace hL ops.toList fr st [] h
  have hA : t.All cx call ops := ⟨fun i o ho => t3 i o (by simpa using ho), by simpa using t4, fun i hi hr hf => by simpa using t6 i (by simpa using hi) hr hf⟩
  refine wpIn_region_any hm ?_
  have hsz : ops.toList.length = ops.size := by simp
  rw [hsz] at t5
  subst t1 t2
  refine Inv.any hP hN hC hA (α0 := α) (w0 := w) (ds := a.defers) (fun α' a' w' x1 x2 x3 => hK _ _ α' a' w' t5 x1 x2 x3) ops.size _ α a _ (by simp) ?_ ?_
  · have : ∀ (D : Nat → Bool) n, left D n ≤ n := by
      intro D n
      induction n with
      | zero => exact Nat.le_refl _
      | succ n ih => simp only [left]; split <;> omega
    exact this _ _
  · have hD : ∀ j, (Array.replicate ops.size false).getD j false = false := by
      intro j
      simp only [Array.getD_eq_getD_getElem?, Array.getElem?_replicate]
      split <;> rfl
    have hnone : ∀ n u, foldF (t.fr 0).length (dstAt ops) t.v (t.fr 0).get (fun j => (Array.replicate ops.size false).getD j false) n u = (t.fr 0).get u := by
      intro n u
      induction n with
      | zero => rfl
      | succ n ih => rw [foldF, if_neg (by rw [hD]; simp)]; exact ih
    have hnoneS : ∀ n x, objD t (fun j => (Array.replicate ops.size false).getD j false) n x = (t.st 0).get x := by
      intro n x
      unfold objD
      induction n with
      | zero => rfl
      | succ n ih => rw [foldS, if_neg (by rw [hD]; simp)]; exact ih
    have hlen := hA.mono (i := 0) (j := ops.size) (Nat.zero_le _) (Nat.le_refl _)
    have hget : ∀ x so, (stD t (fun j => (Array.replicate ops.size false).getD j false) ops.size).get x = some so → (t.st 0).get x = some so := by
      intro x so hx
      obtain ⟨_, h2⟩ := stD_some hx
      rw [hnoneS] at h2; exact h2
    refine ⟨?_, hf.1.symm, rfl, ⟨⟨?_, ?_, ?_, ?_, hR.cell⟩, fun _ _ => rfl, by rw [stD_length]; exact hlen, ?_, ?_, ?_, fun _ _ _ => rfl, Nat.le_refl _, ⟨rfl, Nat.le_succ _⟩, rfl, rfl⟩, ?_, ?_⟩
    · intro u sv hu
      unfold valD at hu
      rw [hnone] at hu
      exact hf.2 u sv hu
    · intro x so hx
      obtain ⟨d, h1, h2⟩ := hR.good x so (hget x so hx)
      exact ⟨d, h1, Good.congr (w := w) (Al.le.refl _) (fun _ _ => rfl) (Nat.le_refl _) h2⟩
    · intro x x' so so' d d' b hne h h' e e' hw hb hf
      obtain ⟨d2, e2, g2⟩ := hR.good x' so' (hget x' so' h')
      rw [e'] at e2; cases e2
      exact hR.sep x x' so so' d d' b hne (hget x so h) (hget x' so' h') e e' hw (hR.lies_back (w' := { w with drawn := w.drawn + 1 }) rfl (hget x so h) e hb) (Foot.congr (w := w) (w' := { w with drawn := w.drawn + 1 }) g2 (fun _ _ => rfl) hf)
    · intro x so d b h e hw hb hi
      exact hR.self x so d b (hget x so h) e hw (hR.lies_back (w' := { w with drawn := w.drawn + 1 }) rfl (hget x so h) e hb) (Ice.congr (w := w) (w' := { w with drawn := w.drawn + 1 }) (fun _ _ => rfl) hi)
    · intro x hx
      rw [stD_length] at hx
      exact hR.none x (by omega)
    · intro x so d b hx hd _ hf
      exact .inr ⟨St.get_lt (hget x so hx), so, hget x so hx, hR.lies_back (w' := { w with drawn := w.drawn + 1 }) rfl (hget x so hx) hd hf⟩
    · intro x so d b hx hd _ hf
      exact .inr ⟨x, so, d, hget x so hx, hd, Ice.congr (w := w) (w' := { w with drawn := w.drawn + 1 }) (fun _ _ => rfl) hf⟩
    · rintro b hb ⟨x, so, d, h1, h2, h3, h4⟩
      exact ⟨x, so, d, hget x so h1, h2, h3, hR.lies_back (w' := { w with drawn := w.drawn + 1 }) rfl (hget x so h1) h2 h4⟩
    · intro j hj _ x h1 h2
      have := hA.mono (i := 0) (j := j) (Nat.zero_le _) (Nat.le_of_lt hj)
      exact hR.none x (by omega)
    · intro j o ho hj
      exact absurd ((hD j).symm.trans hj) (by simp)
end
end Go.Ev

/- THE ENGINE, part 22: what is collected behind a call. -/
namespace Go.Ev
open Go
variable {P : Program}
theorem ren_idx {o : Nat} : ∀ {l : List Nat} {i j : Nat}, ren.idx o l i = some j → ∃ d, j = i + d ∧ l[d]? = some o
  | [], i, j, h => by simp [ren.idx] at h
  | x :: r, i, j, h => by
    simp only [ren.idx] at h
    split at h
    · rename_i hx; cases h; exact ⟨0, by omega, by simp [Nat.eq_of_beq_eq_true hx]⟩
    · obtain ⟨d, h1, h2⟩ := ren_idx h; exact ⟨d + 1, by omega, by simpa using h2⟩
def Al.ren (α : Al) (n0 : Nat) (live : List Nat) : Al := fun o => if o < n0 then α o else match live[o - n0]? with | some q => α q | none => none
section
variable {α : Al} {n0 : Nat} {live : List Nat}
theorem ren_al {o o' : Nat} (h : ren n0 live o = some o') : α.ren n0 live o' = α o := by
  unfold Ev.ren at h
  split at h
  · rename_i hb
    cases h
    have : o < n0 := Nat.le_of_ble_eq_true hb
    simp [Al.ren, this]
  · simp only [Option.map_eq_some_iff] at h
    obtain ⟨i, h, rfl⟩ := h
    obtain ⟨d, h1, h2⟩ := ren_idx h
    have : i = d := by omega
    subst this
    simp only [Al.ren]
    rw [if_neg (by omega), Nat.add_sub_cancel_left, h2]
end
section
variable {α β : Al} {f : Nat → Option Nat}
theorem SC.ren_val (hf : ∀ o o', f o = some o' → β o' = α o) {c c' : SC} (h : c.ren f = some c') : c'.val? (β) = c.val? α := by
  cases c <;> simp only [SC.ren, Option.map_eq_some_iff, Option.some.injEq] at h
  · subst h; rfl
  case dat => subst h; rfl
  all_goals
    obtain ⟨o', h, rfl⟩ := h
    simp only [SC.val?, hf _ _ h]
theorem SC.ren_dat {c c' : SC} {k : IntKind} {xs : List Int} (h : c.ren f = some c') : c' = .dat k xs ↔ c = .dat k xs := by
  cases c <;> simp only [SC.ren, Option.map_eq_some_iff, Option.some.injEq] at h
  · subst h; simp
  case dat => subst h; simp
  all_goals
    obtain ⟨o', _, rfl⟩ := h
    simp
theorem SC.ren_ok {w : World} (hf : ∀ o o', f o = some o' → β o' = α o) {c c' : SC} {v : Value} (h : c.ren f = some c') (hc : CellOk w α c v) : CellOk w β c' v := by
  by_cases hd : ∃ k xs, c = .dat k xs
  · obtain ⟨k, xs, rfl⟩ := hd
    obtain rfl := (SC.ren_dat (k := k) (xs := xs) h).2 rfl
    exact hc
  · exact CellOk.of ((SC.ren_val hf h).trans (hc.val fun k xs e => hd ⟨k, xs, e⟩))
theorem mapO_get {β γ : Type} {f : β → Option γ} : ∀ {l : List β} {l' : List γ}, mapO f l = some l' → l'.length = l.length ∧ ∀ (i : Nat) (y : γ), l'[i]? = some y → ∃ x, l[i]? = some x ∧ f x = some y
  | [], l', h => by simp [mapO] at h; subst h; simp
  | x :: r, l', h => by
    simp only [mapO] at h
    split at h
    · rename_i y r' h1 h2
      cases h
      obtain ⟨h3, h4⟩ := mapO_get h2
      refine ⟨by simp [h3], fun i z hz => ?_⟩
      cases i with
      | zero => simp at hz; subst hz; exact ⟨x, rfl, h1⟩
      | succ i => simpa using h4 i z (by simpa using hz)
    · simp at h
theorem mapO_cons {β γ : Type} {f : β → Option γ} {x : β} {l : List β} {l' : List γ} (h : mapO f (x :: l) = some l') : ∃ y r, l' = y :: r ∧ f x = some y ∧ mapO f l = some r := by
  simp only [mapO] at h
  split at h
  · rename_i y r h1 h2; cases h; exact ⟨y, r, rfl, h1, h2⟩
  · simp at h
theorem Reps.ren (hf : ∀ o o', f o = some o' → β o' = α o) : ∀ {l l' : List SC} {vs : List Value}, mapO (SC.ren f) l = some l' → Reps α l vs → Reps (β) l' vs
  | [], l', vs, h, r => by simp [mapO] at h; subst h; cases vs with | nil => trivial | cons _ _ => exact r.elim
  | c :: l, l', vs, h, r => by
    obtain ⟨y, r', rfl, h1, h2⟩ := mapO_cons h
    cases vs with
    | nil => exact r.elim
    | cons v vs => exact ⟨(SC.ren_val hf h1).trans r.1, Reps.ren hf h2 r.2⟩
theorem SA.ren_rep (hf : ∀ o o', f o = some o' → β o' = α o) {a a' : SA} {v : Value} (h : a.ren f = some a') (r : a.rep α v) : a'.rep (β) v := by
  cases a with
  | one c => simp only [SA.ren, Option.map_eq_some_iff] at h; obtain ⟨c', h, rfl⟩ := h; exact (SC.ren_val hf h).trans r
  | agg l => simp only [SA.ren, Option.map_eq_some_iff] at h; obtain ⟨c', h, rfl⟩ := h; obtain ⟨vs, r, e⟩ := r; exact ⟨vs, r.ren hf h, e⟩
theorem RepsA.ren (hf : ∀ o o', f o = some o' → β o' = α o) : ∀ {l l' : List SA} {vs : List Value}, mapO (SA.ren f) l = some l' → RepsA α l vs → RepsA (β) l' vs
  | [], l', vs, h, r => by simp [mapO] at h; subst h; cases vs with | nil => trivial | cons _ _ => exact r.elim
  | c :: l, l', vs, h, r => by
    obtain ⟨y, r', rfl, h1, h2⟩ := mapO_cons h
    cases vs with
    | nil => exact r.elim
    | cons v vs => exact ⟨SA.ren_rep hf h1 r.1, RepsA.ren hf h2 r.2⟩
theorem SV.ren_rep (hf : ∀ o o', f o = some o' → β o' = α o) {a a' : SV} {v : Value} (h : a.ren f = some a') (r : a.rep α v) : a'.rep (β) v := by
  cases a with
  | sa c => simp only [SV.ren, Option.map_eq_some_iff] at h; obtain ⟨c', h, rfl⟩ := h; exact SA.ren_rep hf h r
  | tup l => simp only [SV.ren, Option.map_eq_some_iff] at h; obtain ⟨c', h, rfl⟩ := h; obtain ⟨vs, r, e⟩ := r; exact ⟨vs, r.ren hf h, e⟩
theorem EntsRep.ren (hf : ∀ o o', f o = some o' → β o' = α o) : ∀ {es es' : List SE} {xs : List MapEntry}, mapO (fun e => (e.val.ren f).map fun v => { e with val := v }) es = some es' → EntsRep α es xs → EntsRep (β) es' xs
  | [], es', xs, h, r => by simp [mapO] at h; subst h; cases xs with | nil => trivial | cons _ _ => exact r.elim
  | c :: l, es', xs, h, r => by
    obtain ⟨y, r', rfl, h1, h2⟩ := mapO_cons h
    cases xs with
    | nil => exact r.elim
    | cons v vs =>
      simp only [Option.map_eq_some_iff] at h1
      obtain ⟨v', h1, rfl⟩ := h1
      exact ⟨⟨r.1.1, r.1.2.1, SA.ren_rep hf h1 r.1.2.2⟩, EntsRep.ren hf h2 r.2⟩
theorem VesRep.ren (hf : ∀ o o', f o = some o' → β o' = α o) {kk : List IntKind} : ∀ {es es' : List VE} {ps : List MapEntry}, mapO (VE.ren f) es = some es' → VesRep α kk es ps → VesRep β kk es' ps
  | [], es', ps, h, r => by simp [mapO] at h; subst h; exact r
  | ⟨key, val, _⟩ :: l, es', ps, h, r => by
    obtain ⟨y, r', rfl, h1, h2⟩ := mapO_cons h
    cases val with
    | none => simp only [VE.ren, Option.some.injEq] at h1; subst h1; exact VesRep.ren (es := l) (es' := r') hf h2 r
    | some v =>
      simp only [VE.ren, Option.map_eq_some_iff] at h1
      obtain ⟨v', h1, rfl⟩ := h1
      obtain ⟨p, q, g1, g2, gb, g3, g4⟩ := r
      exact ⟨p, q, g1, g2, gb, SA.ren_rep hf h1 g3, VesRep.ren hf h2 g4⟩
theorem VE.ren_key {e e' : VE} (h : VE.ren f e = some e') : e'.key = e.key := by
  obtain ⟨key, val, _⟩ := e
  cases val with
  | none => simp only [VE.ren, Option.some.injEq] at h; subst h; rfl
  | some v => simp only [VE.ren, Option.map_eq_some_iff] at h; obtain ⟨_, _, rfl⟩ := h; rfl
theorem VE.ren_keys : ∀ {es es' : List VE}, mapO (VE.ren f) es = some es' → es'.map (·.key) = es.map (·.key)
  | [], es', h => by simp [mapO] at h; subst h; rfl
  | e :: l, es', h => by obtain ⟨y, r', rfl, h1, h2⟩ := mapO_cons h; simp [VE.ren_key h1, VE.ren_keys h2]
theorem MvOk.ren (hf : ∀ o o', f o = some o' → β o' = α o) {kk : List IntKind} {es es' : List VE} {rs xs ps : List MapEntry} {cl : Nat} (h : mapO (VE.ren f) es = some es') (m : MvOk α kk es rs xs ps cl) : MvOk β kk es' rs xs ps cl := by
  have hk := VE.ren_keys h
  have hm : ∀ e' ∈ es', ∃ e ∈ es, e.key = e'.key := fun e' he => by
    have : e'.key ∈ es'.map (·.key) := List.mem_map_of_mem he
    rw [hk, List.mem_map] at this
    exact this
  refine ⟨m.perm, m.rep.ren hf h, ?_, fun e' he => ?_, m.ints, m.apart, fun e' he => ?_, m.born, m.young⟩
  · have := m.keys
    rw [← List.pairwise_map (f := fun e : VE => e.key) (R := fun a b => a ≠ b), ← hk, List.pairwise_map] at this
    exact this
  · obtain ⟨e, h1, h2⟩ := hm e' he; rw [← h2]; exact m.lens e h1
  · obtain ⟨e, h1, h2⟩ := hm e' he; rw [← h2]; exact m.off e h1
theorem Ct.Cells.ren (hf : ∀ o o', f o = some o' → β o' = α o) {vs vs' : List (List SC)} {m : Nat} {g : Nat → Nat → Option Value} (h : mapO (mapO (SC.ren f)) vs = some vs') {w : World} (hc : (Ct.lst vs).Cells w α m g) : (Ct.lst vs').Cells w (β) m g := by
  obtain ⟨hl, hg⟩ := mapO_get h
  intro i hi
  simp only [Ct.len, hl] at hi
  have hi' : i < vs'.length := by omega
  obtain ⟨e, he, hff⟩ := hg i vs'[i] (by simp [hi'])
  obtain ⟨hl2, hg2⟩ := mapO_get hff
  have hc := hc i (by simpa [Ct.len] using hi)
  simp only [Ct.get, getL_eq, he, Option.getD_some] at hc
  have hv : (Ct.lst vs').get i = vs'[i] := by simp [Ct.get, hi']
  rw [hv]
  refine ⟨by rw [hl2]; exact hc.1, fun j c hj => ?_⟩
  obtain ⟨c0, h1, h2⟩ := hg2 j c hj
  obtain ⟨v, x1, x2, x3⟩ := hc.2 j c0 h1
  exact ⟨v, SC.ren_ok hf h2 x1, x2, x3⟩
theorem Ct.Cells.renE (hf : ∀ o o', f o = some o' → β o' = α o) {n : Nat} {cs : List Col} {vs vs' : List (List SC)} {m : Nat} {g : Nat → Nat → Option Value} (h : mapO (mapO (SC.ren f)) vs = some vs') {w : World} (hc : (Ct.ext n cs vs).Cells w α m g) : (Ct.ext n cs vs').Cells w (β) m g := by
  obtain ⟨hl, _⟩ := mapO_get h
  have h1 : (Ct.lst vs').Cells w β m fun i j => g (n + i) j := Ct.Cells.ren hf h fun i hi => by
    have := hc (n + i) (by simp only [Ct.len] at hi ⊢; omega)
    rw [Ct.ext_get, if_neg (by omega), Nat.add_sub_cancel_left] at this
    exact this
  intro i hi
  simp only [Ct.len, hl] at hi
  have hc := hc i (by simpa [Ct.len] using hi)
  rw [Ct.ext_get] at hc ⊢
  by_cases hin : i < n
  · rw [if_pos hin] at hc ⊢
    refine ⟨hc.1, fun j c hj => ?_⟩
    obtain ⟨v, x1, x2, x3⟩ := hc.2 j c hj
    refine ⟨v, ?_, x2, x3⟩
    have hr := colsAt_refs i cs c (List.mem_of_getElem? hj)
    cases c with
    | dat k xs => exact x1
    | raw u => exact x1
    | ptr _ _ _ => simp [SC.refs] at hr
    | sl _ _ _ _ => simp [SC.refs] at hr
    | ref _ => simp [SC.refs] at hr
  · rw [if_neg hin] at hc ⊢
    have := h1 (i - n) (by simp only [Ct.len, hl]; omega)
    have e : n + (i - n) = i := by omega
    simp only [e] at this
    exact this
theorem Ct.Cells.ren1 (hf : ∀ o o', f o = some o' → β o' = α o) {n l : Nat} {vs : List Value} {e e' : List SC} {m : Nat} {g : Nat → Nat → Option Value} (h : mapO (SC.ren f) e = some e') {w : World} (hc : (Ct.at1 n vs l e).Cells w α m g) : (Ct.at1 n vs l e').Cells w (β) m g := by
  intro i hi
  have hc := hc i hi
  rw [Ct.at1_get] at hc ⊢
  by_cases hil : i = l
  · rw [if_pos hil] at hc ⊢
    obtain ⟨hl2, hg2⟩ := mapO_get h
    refine ⟨by rw [hl2]; exact hc.1, fun j c hj => ?_⟩
    obtain ⟨c0, h1, h2⟩ := hg2 j c hj
    obtain ⟨v, x1, x2, x3⟩ := hc.2 j c0 h1
    exact ⟨v, SC.ren_ok hf h2 x1, x2, x3⟩
  · rw [if_neg hil] at hc ⊢
    refine ⟨hc.1, fun j c hj => ?_⟩
    obtain ⟨v, x1, x2, x3⟩ := hc.2 j c hj
    have := List.mem_of_getElem? hj
    simp only [List.mem_singleton] at this
    subst this
    exact ⟨v, x1, x2, x3⟩
theorem FrOk.ren (hf : ∀ o o', f o = some o' → β o' = α o) {fr fr' : Fr} {tmps : Array Value} (h1 : mapO (OV.ren f) fr = some fr') (hk : FrOk α fr tmps) : FrOk β fr' tmps := by
  obtain ⟨hl, hg⟩ := mapO_get h1
  refine ⟨by rw [hl]; exact hk.1, fun t sv ht => ?_⟩
  rw [Fr.get_eq] at ht
  have hlt : t < fr'.length := by
    by_cases hlt : t < fr'.length
    · exact hlt
    · rw [List.getElem?_eq_none (by omega)] at ht; cases ht
  have ht' : fr'[t]? = some (some sv) := by
    rw [List.getElem?_eq_getElem hlt] at ht ⊢; simpa using ht
  obtain ⟨x, hx, hr⟩ := hg t _ ht'
  cases x with
  | none => simp [OV.ren] at hr
  | some v =>
    simp only [OV.ren, Option.map_eq_some_iff] at hr
    obtain ⟨v', hr, e⟩ := hr
    cases e
    obtain ⟨u, y1, y2⟩ := hk.2 t v (by rw [Fr.get_eq, hx]; rfl)
    exact ⟨u, y1, SV.ren_rep hf hr y2⟩
theorem Ct.ren_ok (hf : ∀ o o', f o = some o' → β o' = α o) {mk : Ct → SO} {so' : SO} {ct : Ct} (hlst : ∀ vs, (mk (.lst vs)).ren f = (mapO (mapO (SC.ren f)) vs).map fun vs' => mk (.lst vs'))
    (hext : ∀ n cs vs, (mk (.ext n cs vs)).ren f = (mapO (mapO (SC.ren f)) vs).map fun vs' => mk (.ext n cs vs'))
    (hat1 : ∀ n vs i e, (mk (.at1 n vs i e)).ren f = (mapO (SC.ren f) e).map fun e' => mk (.at1 n vs i e'))
    (hoth : ∀ c, (∀ vs, c ≠ .lst vs) → (∀ n cs vs, c ≠ .ext n cs vs) → (∀ n vs i e, c ≠ .at1 n vs i e) → (mk c).ren f = some (mk c)) (h : (mk ct).ren f = some so') : ∃ ct', so' = mk ct' ∧ ct'.len = ct.len ∧ (∀ w m g, ct.Cells w α m g → ct'.Cells w β m g) := by
  cases ct with
  | lst vs =>
    rw [hlst] at h
    simp only [Option.map_eq_some_iff] at h
    obtain ⟨vs', h, rfl⟩ := h
    exact ⟨_, rfl, (mapO_get h).1, fun w m g hc => hc.ren hf h⟩
  | ints kk xs =>
    rw [hoth _ (fun vs e => by cases e) (fun n cs vs e => by cases e) (fun n vs i e e2 => by cases e2)] at h
    cases h
    exact ⟨_, rfl, rfl, fun w m g hc => hc.at fun o ho => by cases ho⟩
  | tab n cs =>
    rw [hoth _ (fun vs e => by cases e) (fun n cs vs e => by cases e) (fun n vs i e e2 => by cases e2)] at h
    cases h
    exact ⟨_, rfl, rfl, fun w m g hc => hc.at fun o ho => by cases ho⟩
  | ext n cs vs =>
    rw [hext] at h
    simp only [Option.map_eq_some_iff] at h
    obtain ⟨vs', h, rfl⟩ := h
    exact ⟨_, rfl, by simp [Ct.len, (mapO_get h).1], fun w m g hc => hc.renE hf h⟩
  | at1 n vs l e =>
    rw [hat1] at h
    simp only [Option.map_eq_some_iff] at h
    obtain ⟨e', h, rfl⟩ := h
    exact ⟨_, rfl, rfl, fun w m g hc => hc.ren1 hf h⟩
theorem SO.ren_good (hf : ∀ o o', f o = some o' → β o' = α o) {so so' : SO} {w : World} {d : Den} (h : so.ren f = some so') (hg : Good α w d so) : Good (β) w d so' := by
  cases so with
  | mem wb k T m ct =>
    obtain ⟨ct', rfl, hlen, hc⟩ := Ct.ren_ok (mk := fun ct => .mem wb k T m ct) hf (fun _ => rfl) (fun _ _ _ => rfl) (fun _ _ _ _ => rfl) (fun c hc he ha => by cases c <;> first | rfl | exact absurd rfl (hc _) | exact absurd rfl (he _ _ _) | exact absurd rfl (ha _ _ _ _)) h
    replace hc := hc w m
    obtain ⟨h1, h2, h4⟩ := hg
    refine ⟨h1, h2, ?_⟩
    cases k with
    | ext => exact ⟨h4.1, hc _ h4.2⟩
    | whole =>
      obtain ⟨cs, fz, h5, h6, h7, h8, h9, h10⟩ := h4
      exact ⟨cs, fz, h5, h6, h7, by rw [hlen]; exact h8, by rw [hlen]; exact h9, hc _ h10⟩
    | row =>
      obtain ⟨cs, fz, h5, h6, h7, h8, h9, h10⟩ := h4
      exact ⟨cs, fz, h5, h6, h7, by rw [hlen]; exact h8, by rw [hlen]; exact h9, hc _ h10⟩
  | own wb k T m ct =>
    obtain ⟨ct', rfl, hlen, hc⟩ := Ct.ren_ok (mk := fun ct => .own wb k T m ct) hf (fun _ => rfl) (fun _ _ _ => rfl) (fun _ _ _ _ => rfl) (fun c hc he ha => by cases c <;> first | rfl | exact absurd rfl (hc _) | exact absurd rfl (he _ _ _) | exact absurd rfl (ha _ _ _ _)) h
    replace hc := hc w m
    obtain ⟨h1, h2, ⟨h3, h4, h5⟩ | ⟨h3, hv, hcap, h4⟩⟩ := hg
    · exact ⟨h1, h2, .inl ⟨h3, by rw [hlen]; exact h4, h5⟩⟩
    · refine ⟨h1, h2, .inr ⟨h3, by rw [hlen]; exact hv, by rw [hlen]; exact hcap, ?_⟩⟩
      cases k with
      | ext => exact ⟨h4.1, hc _ h4.2⟩
      | whole => obtain ⟨cs, fz, h5, h6, h7, h10⟩ := h4; exact ⟨cs, fz, h5, h6, h7, hc _ h10⟩
      | row => obtain ⟨cs, fz, h5, h6, h7, h10⟩ := h4; exact ⟨cs, fz, h5, h6, h7, hc _ h10⟩
  | clo f a b =>
    simp only [SO.ren] at h
    split at h
    · rename_i a' b' ha hb
      cases h
      obtain ⟨va, vb, h1, h2, h3⟩ := hg
      exact ⟨va, vb, h1.ren hf ha, h2.ren hf hb, h3⟩
    · simp at h
  | part o i n =>
    simp only [SO.ren, Option.map_eq_some_iff] at h
    obtain ⟨o', h, rfl⟩ := h
    obtain ⟨e, a, c, h1, h2⟩ := hg
    exact ⟨e, a, c, (hf _ _ h).trans h1, h2⟩
  | nul => simp only [SO.ren, Option.some.injEq] at h; subst h; exact hg
  | mt wb kc va cs bs cl => simp only [SO.ren, Option.some.injEq] at h; subst h; exact hg
  | abs wb t D => simp only [SO.ren, Option.some.injEq] at h; subst h; exact hg
  | box wb ob => simp only [SO.ren, Option.some.injEq] at h; subst h; exact hg
  | mv wb kk es rs cl hot =>
    simp only [SO.ren, Option.map_eq_some_iff] at h
    obtain ⟨es', h, rfl⟩ := h
    obtain ⟨h1, xs, ps, h2, h3⟩ := hg
    exact ⟨h1, xs, ps, h2, h3.ren hf h⟩
  | mp k es cl =>
    simp only [SO.ren, Option.map_eq_some_iff] at h
    obtain ⟨es', h, rfl⟩ := h
    obtain ⟨h1, xs, h2, h3⟩ := hg
    exact ⟨h1, xs, h2, h3.ren hf h⟩
  | lp wb g fr ps a b s j =>
    simp only [SO.ren, Option.map_eq_some_iff] at h
    obtain ⟨fr', h, rfl⟩ := h
    obtain ⟨h1, r, h2, h3, h4⟩ := hg
    exact ⟨h1, r, h2, h3.ren hf h, h4⟩
structure Kin (so so' : SO) : Prop where
  lies : ∀ w d b, so'.lies w d b → so.lies w d b
  ice : ∀ w d b, Ice w d so' b → Ice w d so b
  wr : so.wr = so'.wr
theorem Kin.refl (so : SO) : Kin so so := ⟨fun _ _ _ h => h, fun _ _ _ h => h, rfl⟩
theorem Kin.foot {so so' : SO} (h : Kin so so') (w : World) (d : Den) (b : Nat) (hf : Foot w d so' b) : Foot w d so b := hf.imp (h.lies w d b) (h.ice w d b)
theorem Kin.trans {a b c : SO} (h : Kin a b) (h' : Kin b c) : Kin a c := ⟨fun w d x hx => h.lies w d x (h'.lies w d x hx), fun w d x hx => h.ice w d x (h'.ice w d x hx), h.wr.trans h'.wr⟩
theorem Nest.ren {vs vs' : List (List SC)} (h : mapO (mapO (SC.ren f)) vs = some vs') {w : World} {d : Den} {m b : Nat} (hn : Nest w d m (.lst vs') b) : Nest w d m (.lst vs) b := by
  obtain ⟨i, j, k, xs, v, h1, h2, h3, h4⟩ := hn
  obtain ⟨hl, hg⟩ := mapO_get h
  have hi : i < vs'.length := h1
  obtain ⟨e, he, hff⟩ := hg i vs'[i] (by simp [hi])
  obtain ⟨hl2, hg2⟩ := mapO_get hff
  have hv : (Ct.lst vs').get i = vs'[i] := by simp [Ct.get, hi]
  rw [hv] at h2
  obtain ⟨c0, g1, g2⟩ := hg2 j _ h2
  obtain rfl := (SC.ren_dat (k := k) (xs := xs) g2).1 rfl
  exact ⟨i, j, k, xs, v, by simp only [Ct.len]; omega, by simp only [Ct.get, getL_eq, he, Option.getD_some]; exact g1, h3, h4⟩
theorem Nest.renE {n : Nat} {cs : List Col} {vs vs' : List (List SC)} (h : mapO (mapO (SC.ren f)) vs = some vs') {w : World} {d : Den} {m b : Nat} (hn : Nest w d m (.ext n cs vs') b) : Nest w d m (.ext n cs vs) b := by
  obtain ⟨i, j, k, xs, v, h1, h2, h3, h4⟩ := hn
  obtain ⟨hl, hg⟩ := mapO_get h
  have hlen : (Ct.ext n cs vs').len = (Ct.ext n cs vs).len := by simp [Ct.len, hl]
  refine ⟨i, j, k, xs, v, by rw [← hlen]; exact h1, ?_, h3, h4⟩
  rw [Ct.ext_get] at h2 ⊢
  split at h2
  · rename_i hi; rw [if_pos hi]; exact h2
  · rename_i hi
    rw [if_neg hi]
    have hi2 : i - n < vs'.length := by simp only [Ct.len] at h1; omega
    obtain ⟨e, he, hff⟩ := hg (i - n) vs'[i - n] (by simp [hi2])
    obtain ⟨hl2, hg2⟩ := mapO_get hff
    have hv : (Ct.lst vs').get (i - n) = vs'[i - n] := by simp [Ct.get, hi2]
    rw [hv] at h2
    obtain ⟨c0, g1, g2⟩ := hg2 j _ h2
    obtain rfl := (SC.ren_dat (k := k) (xs := xs) g2).1 rfl
    simp only [Ct.get, getL_eq, he, Option.getD_some]; exact g1
theorem Nest.ren1 {n l : Nat} {vs : List Value} {e e' : List SC} (h : mapO (SC.ren f) e = some e') {w : World} {d : Den} {m b : Nat} (hn : Nest w d m (.at1 n vs l e') b) : Nest w d m (.at1 n vs l e) b := by
  obtain ⟨i, j, k, xs, v, h1, h2, h3, h4⟩ := hn
  refine ⟨i, j, k, xs, v, h1, ?_, h3, h4⟩
  rw [Ct.at1_get] at h2 ⊢
  split at h2
  · rename_i hi; rw [if_pos hi]
    obtain ⟨hl2, hg2⟩ := mapO_get h
    obtain ⟨c0, g1, g2⟩ := hg2 j _ h2
    obtain rfl := (SC.ren_dat (k := k) (xs := xs) g2).1 rfl
    exact g1
  · have := List.mem_of_getElem? h2
    simp at this
theorem SO.ren_kind {so so' : SO} (h : so.ren f = some so') : Kin so so' := by
  cases so with
  | mem wb k T m ct =>
    cases ct <;> simp only [SO.ren, Option.map_eq_some_iff, Option.some.injEq] at h
    · obtain ⟨_, hm, rfl⟩ := h
      refine ⟨fun _ _ _ h => by cases k <;> exact h, fun w d b h => ?_, by cases wb <;> cases k <;> rfl⟩
      cases k with
      | ext => exact h.imp id fun h => h.ren hm
      | whole => exact Nest.ren hm h
      | row => exact Nest.ren hm h
    · subst h; exact Kin.refl _
    · subst h; exact Kin.refl _
    · obtain ⟨_, hm, rfl⟩ := h
      refine ⟨fun _ _ _ h => by cases k <;> exact h, fun w d b h => ?_, by cases wb <;> cases k <;> rfl⟩
      cases k with
      | ext => exact h.imp id fun h => h.renE hm
      | whole => exact Nest.renE hm h
      | row => exact Nest.renE hm h
    · obtain ⟨_, hm, rfl⟩ := h
      refine ⟨fun _ _ _ h => by cases k <;> exact h, fun w d b h => ?_, by cases wb <;> cases k <;> rfl⟩
      cases k with
      | ext => exact h.imp id fun h => h.ren1 hm
      | whole => exact Nest.ren1 hm h
      | row => exact Nest.ren1 hm h
  | own wb k T m ct =>
    cases ct <;> simp only [SO.ren, Option.map_eq_some_iff, Option.some.injEq] at h
    · obtain ⟨_, hm, rfl⟩ := h
      refine ⟨fun _ _ _ h => by cases k <;> exact h, fun w d b h => ?_, by cases wb <;> cases k <;> rfl⟩
      cases k with
      | ext => exact ⟨h.1, h.2.imp id fun h => h.ren hm⟩
      | whole => exact ⟨h.1, h.2.ren hm⟩
      | row => exact ⟨h.1, h.2.ren hm⟩
    · subst h; exact Kin.refl _
    · subst h; exact Kin.refl _
    · obtain ⟨_, hm, rfl⟩ := h
      refine ⟨fun _ _ _ h => by cases k <;> exact h, fun w d b h => ?_, by cases wb <;> cases k <;> rfl⟩
      cases k with
      | ext => exact ⟨h.1, h.2.imp id fun h => h.renE hm⟩
      | whole => exact ⟨h.1, h.2.renE hm⟩
      | row => exact ⟨h.1, h.2.renE hm⟩
    · obtain ⟨_, hm, rfl⟩ := h
      refine ⟨fun _ _ _ h => by cases k <;> exact h, fun w d b h => ?_, by cases wb <;> cases k <;> rfl⟩
      cases k with
      | ext => exact ⟨h.1, h.2.imp id fun h => h.ren1 hm⟩
      | whole => exact ⟨h.1, h.2.ren1 hm⟩
      | row => exact ⟨h.1, h.2.ren1 hm⟩
  | clo f a b =>
    simp only [SO.ren] at h
    split at h
    · cases h; exact ⟨fun _ _ _ h => h, fun _ _ _ h => h, rfl⟩
    · simp at h
  | part o i n => simp only [SO.ren, Option.map_eq_some_iff] at h; obtain ⟨_, _, rfl⟩ := h; exact ⟨fun _ _ _ h => h, fun _ _ _ h => h, rfl⟩
  | nul => simp only [SO.ren, Option.some.injEq] at h; subst h; exact Kin.refl _
  | mt wb kc va cs bs cl => simp only [SO.ren, Option.some.injEq] at h; subst h; exact Kin.refl _
  | abs wb t D => simp only [SO.ren, Option.some.injEq] at h; subst h; exact Kin.refl _
  | box wb ob => simp only [SO.ren, Option.some.injEq] at h; subst h; exact Kin.refl _
  | mv wb kk es rs cl hot => simp only [SO.ren, Option.map_eq_some_iff] at h; obtain ⟨_, _, rfl⟩ := h; exact ⟨fun _ _ _ h => h, fun _ _ _ h => h, rfl⟩
  | mp k es cl => simp only [SO.ren, Option.map_eq_some_iff] at h; obtain ⟨_, _, rfl⟩ := h; exact ⟨fun _ _ _ h => h, fun _ _ _ h => h, rfl⟩
  | lp wb g fr ps a b s j => simp only [SO.ren, Option.map_eq_some_iff] at h; obtain ⟨_, _, rfl⟩ := h; exact ⟨fun _ _ _ h => h, fun _ _ _ h => h, rfl⟩
theorem OO.ren_spec {x y : Option SO} (h : OO.ren f x = some y) :
    (x = none ∧ y = none) ∨ ∃ so so', x = some so ∧ y = some so' ∧ Kin so so' ∧ ∀ α β, (∀ o o', f o = some o' → β o' = α o) → ∀ w d, Good α w d so → Good β w d so' := by
  unfold OO.ren at h
  split at h
  · cases h; exact .inl ⟨rfl, rfl⟩
  · rename_i so
    right
    split at h
    · rename_i hr
      cases h
      exact ⟨so, so, rfl, rfl, Kin.refl _, fun α β _ w d hg => hg.at (by rw [hr]; intro o ho; cases ho)⟩
    · simp only [Option.map_eq_some_iff] at h
      obtain ⟨so', h, rfl⟩ := h
      exact ⟨so, so', rfl, rfl, SO.ren_kind h, fun α β hf w d hg => SO.ren_good hf h hg⟩
end
theorem dropOld_le {n0 : Nat} : ∀ {l : List Nat}, ∀ x ∈ dropOld n0 l, n0 ≤ x
  | [], x, h => by simp [dropOld] at h
  | o :: r, x, h => by
    simp only [dropOld] at h
    split at h
    · exact dropOld_le x h
    · rename_i hb
      rcases List.mem_cons.1 h with rfl | h
      · have : ¬ x < n0 := fun hl => by
          have : Nat.blt x n0 = true := Nat.ble_eq_true_of_le hl
          rw [this] at hb; cases hb
        omega
      · exact dropOld_le x h
theorem reachNew_spec {n0 : Nat} {st : St} : ∀ {n : Nat} {work acc : List Nat}, (∀ x ∈ work, n0 ≤ x) → acc.Nodup → (∀ x ∈ acc, n0 ≤ x) →
    (reachNew n0 st n work acc).Nodup ∧ ∀ x ∈ reachNew n0 st n work acc, n0 ≤ x
  | 0, work, acc, _, h2, h3 => by unfold reachNew; exact ⟨h2, h3⟩
  | n + 1, [], acc, _, h2, h3 => by unfold reachNew; exact ⟨h2, h3⟩
  | n + 1, o :: r, acc, h1, h2, h3 => by
    have h1r : ∀ x ∈ r, n0 ≤ x := fun x hx => h1 x (by simp [hx])
    simp only [reachNew]
    cases hh : hasN o acc with
    | true => exact reachNew_spec h1r h2 h3
    | false =>
      have hn : o ∉ acc := fun hm => by rw [hasN_iff.2 hm] at hh; cases hh
      have hacc : (acc ++ [o]).Nodup := by
        rw [List.nodup_append]
        exact ⟨h2, by simp, fun a ha b hb => by simp at hb; subst hb; rintro rfl; exact hn ha⟩
      have hle : ∀ x ∈ acc ++ [o], n0 ≤ x := fun x hx => by
        rcases List.mem_append.1 hx with hx | hx
        · exact h3 x hx
        · simp at hx; subst hx; exact h1 x (by simp)
      dsimp only
      split
      · refine reachNew_spec (fun x hx => ?_) hacc hle
        rcases List.mem_append.1 hx with hx | hx
        · exact dropOld_le x hx
        · exact h1r x hx
      · exact reachNew_spec h1r hacc hle
theorem To.via {α α1 α' : Al} {st0 st1 st' : St} {w w1 : World} (hto : To α st0 w α1 st1 w1) (hlen : st0.length ≤ st'.length) (hext : ∀ o, o < st0.length → α' o = α o) (src : Nat → Nat) (hs : ∀ o so', st'.get o = some so' → (o < st0.length → src o = o) ∧ (src o < st0.length → o < st0.length))
    (key : ∀ o so', st'.get o = some so' → ∃ so, st1.get (src o) = some so ∧ Kin so so' ∧ α' o = α1 (src o) ∧ ∀ d, Good α1 w1 d so → Good α' w1 d so')
    (inj : ∀ o o' so so', st'.get o = some so → st'.get o' = some so' → o ≠ o' → src o ≠ src o') (hnone : ∀ o, st'.length ≤ o → α' o = none) (hcell : ∀ o d, α' o = some d → Ev.isCell d.val = true) :
    To α st0 w α' st' w1 := by
  refine ⟨⟨?_, ?_, ?_, hnone, hcell⟩, hext, hlen, ?_, ?_, ?_, hto.kept, hto.size, hto.tape, hto.os, hto.output⟩
  · intro o so' ho
    obtain ⟨so, k1, k2, k3, k4⟩ := key o so' ho
    obtain ⟨d, x1, x2⟩ := hto.rep.good _ _ k1
    exact ⟨d, k3.trans x1, k4 _ x2⟩
  · intro o o' so so' d d' b hne ho ho' hd hd' hw hb hf
    obtain ⟨s1, k1, k2, k3, k4⟩ := key o so ho
    obtain ⟨s2, l1, l2, l3, l4⟩ := key o' so' ho'
    exact hto.rep.sep _ _ s1 s2 d d' b (inj o o' so so' ho ho' hne) k1 l1 (k3 ▸ hd) (l3 ▸ hd') (k2.wr.trans hw) (k2.lies _ _ _ hb) (l2.foot _ _ _ hf)
  · intro o so d b ho hd hw hb hi
    obtain ⟨s1, k1, k2, k3, k4⟩ := key o so ho
    exact hto.rep.self _ s1 d b k1 (k3 ▸ hd) (k2.wr.trans hw) (k2.lies _ _ _ hb) (k2.ice _ _ _ hi)
  · rintro o so' d b x1 x2 hb x3
    obtain ⟨so, k1, k2, k3, _⟩ := key o so' x1
    rcases hto.lies (src o) so d b k1 (k3 ▸ x2) hb (k2.lies _ _ _ x3) with h | ⟨h1, h2⟩
    · exact .inl h
    · have hlt := (hs o so' x1).2 h1
      rw [(hs o so' x1).1 hlt] at h2
      exact .inr ⟨hlt, h2⟩
  · rintro o so' d b x1 x2 hb x3
    obtain ⟨so, k1, k2, k3, _⟩ := key o so' x1
    exact hto.ice (src o) so d b k1 (k3 ▸ x2) hb (k2.ice _ _ _ x3)
  · rintro b hb ⟨o, so', d, x1, x2, x3, x4⟩
    obtain ⟨so, k1, k2, k3, _⟩ := key o so' x1
    exact hto.wrs b hb ⟨src o, so, d, k1, k3 ▸ x2, k2.wr.trans x3, k2.lies _ _ _ x4⟩
theorem ren_to {α α1 : Al} {st0 st1 st' : St} {w w1 : World} {live : List Nat} (hto : To α st0 w α1 st1 w1) (hnd : live.Nodup) (hge : ∀ x ∈ live, st0.length ≤ x)
    (h2 : mapO (OO.ren (Ev.ren st0.length live)) (takeL st0.length st1 ++ live.map st1.get) = some st') : To α st0 w (α1.ren st0.length live) st' w1 ∧
      ∀ o so d, st'.get o = some so → (α1.ren st0.length live) o = some d → ∃ p so0, st1.get p = some so0 ∧ α1 p = some d ∧ Kin so0 so := by
      have hlen := hto.len
      obtain ⟨hl, hg⟩ := mapO_get h2
      simp only [takeL_eq, List.length_append, List.length_take, List.length_map, Nat.min_eq_left hlen] at hl
      -- where an object of the new state comes from
      let src : Nat → Nat := fun o => if o < st0.length then o else live[o - st0.length]?.getD 0
      have hsrc : ∀ o y, st'[o]? = some y → ∃ x, OO.ren (Ev.ren st0.length live) x = some y ∧ st1.get (src o) = x ∧ (α1.ren st0.length live) o = α1 (src o) ∧ (st0.length ≤ o → st0.length ≤ src o) := by
        intro o y ho
        obtain ⟨x, hx, hr⟩ := hg o y ho
        refine ⟨x, hr, ?_⟩
        by_cases hlt : o < st0.length
        · rw [List.getElem?_append_left (by simp [Nat.min_eq_left hlen, hlt])] at hx
          simp only [takeL_eq, List.getElem?_take, hlt, if_true] at hx
          simp only [src, hlt, if_true, Al.ren]
          exact ⟨by simp [St.get_eq, hx], trivial, fun hh => by omega⟩
        · rw [List.getElem?_append_right (by simp [Nat.min_eq_left hlen]; omega)] at hx
          simp only [takeL_eq, List.length_take, Nat.min_eq_left hlen, List.getElem?_map, Option.map_eq_some_iff] at hx
          obtain ⟨q, hq, hx⟩ := hx
          simp only [src, hlt, if_false, Al.ren, hq, Option.getD_some]
          exact ⟨hx, trivial, fun _ => hge q (List.mem_of_getElem? hq)⟩
      have hinj : ∀ o o' y y', st'[o]? = some y → st'[o']? = some y' → o ≠ o' → src o ≠ src o' := by
        intro o o' y y' ho ho' hne
        have lt1 : o < st'.length := (List.getElem?_eq_some_iff.1 ho).1
        have lt2 : o' < st'.length := (List.getElem?_eq_some_iff.1 ho').1
        have hg1 : ∀ p, st0.length ≤ p → p < st'.length → ∃ q, live[p - st0.length]? = some q ∧ st0.length ≤ q := fun p h3 h4 => by
          have : p - st0.length < live.length := by omega
          exact ⟨live[p - st0.length], by simp [this], hge _ (List.getElem_mem _)⟩
        by_cases c1 : o < st0.length <;> by_cases c2 : o' < st0.length
        · simpa [src, c1, c2] using hne
        · obtain ⟨q, hq, hq2⟩ := hg1 o' (by omega) lt2
          simp only [src, c1, c2, if_true, if_false, hq, Option.getD_some]; omega
        · obtain ⟨q, hq, hq2⟩ := hg1 o (by omega) lt1
          simp only [src, c1, c2, if_true, if_false, hq, Option.getD_some]; omega
        · have i1 : o - st0.length < live.length := by omega
          have i2 : o' - st0.length < live.length := by omega
          simp only [src, c1, c2, if_false, List.getElem?_eq_getElem i1, List.getElem?_eq_getElem i2, Option.getD_some]
          intro e
          have := (List.getElem_inj hnd).1 e
          omega
      have key : ∀ (o : Nat) (so' : SO), St.get st' o = some so' → ∃ so, st1.get (src o) = some so ∧ Kin so so' ∧ (∀ α β, (∀ o o', Ev.ren st0.length live o = some o' → β o' = α o) → ∀ w d, Good α w d so → Good β w d so') ∧
          (α1.ren st0.length live) o = α1 (src o) ∧ st'[o]? = some (some so') := by
        intro o so' ho
        have hlt := St.get_lt ho
        have ho' : st'[o]? = some (some so') := by
          rw [St.get_eq, List.getElem?_eq_getElem hlt] at ho
          rw [List.getElem?_eq_getElem hlt]; simpa using ho
        obtain ⟨x, hr, hs, ha, hb⟩ := hsrc o _ ho'
        rcases OO.ren_spec hr with ⟨_, e⟩ | ⟨so, so2, e1, e2, e3, e5⟩
        · cases e
        · cases e2; exact ⟨so, by rw [hs, e1], e3, e5, ha, ho'⟩
      refine ⟨?_, fun o so d ho hd => let ⟨so0, k1, k2, _, k5, _⟩ := key o so ho; ⟨src o, so0, k1, k5.symm.trans hd, k2⟩⟩
      refine To.via hto (by omega) (fun o ho => by simp only [Al.ren, ho, if_true]; exact hto.ext o ho) src (fun o so' hget => ⟨fun ho => by simp [src, ho], fun h => ?_⟩) (fun o so' ho => ?_) (fun o o' so so' ho ho' hne => ?_) (fun o ho => ?_) (fun o d hd => ?_)
      · by_cases hlt : o < st0.length
        · exact hlt
        · exfalso
          have hlt2 := St.get_lt hget
          have hin : o - st0.length < live.length := by omega
          simp only [src, hlt, if_false, List.getElem?_eq_getElem hin, Option.getD_some] at h
          have := hge _ (List.getElem_mem hin)
          omega
      · obtain ⟨so, k1, k2, k4, k5, _⟩ := key o so' ho
        exact ⟨so, k1, k2, k5, fun d hg => k4 α1 _ (fun _ _ => ren_al) _ _ hg⟩
      · obtain ⟨_, _, _, _, _, k7⟩ := key o so ho
        obtain ⟨_, _, _, _, _, l7⟩ := key o' so' ho'
        exact hinj o o' _ _ k7 l7 hne
      · simp only [Al.ren]
        rw [if_neg (by omega), List.getElem?_eq_none (by omega)]
      · simp only [Al.ren] at hd
        split at hd
        · exact hto.rep.cell o d hd
        · split at hd
          · rename_i q _; exact hto.rep.cell q d hd
          · simp at hd
theorem reachNew_ok (n0 : Nat) (st : St) (l : List Nat) : (reachNew n0 st 10000 (dropOld n0 l) []).Nodup ∧ ∀ x ∈ reachNew n0 st 10000 (dropOld n0 l) [], n0 ≤ x :=
  reachNew_spec dropOld_le (by simp) (by simp)
theorem collect_sound {α α1 : Al} {st0 st1 : St} {w w1 : World} {v : SV} {val : Value} {k : SV → St → Prop} (hto : To α st0 w α1 st1 w1) (hv : SV.rep α1 v val)
    (h : collect st0.length v st1 k) : ∃ α2 v' st', k v' st' ∧ SV.rep α2 v' val ∧ To α st0 w α2 st' w1 := by
  unfold collect at h
  split at h
  · exact ⟨α1, v, st1, h, hv, hto⟩
  · obtain ⟨hnd, hge⟩ := reachNew_ok st0.length st1 (v.refs ++ oldRefs st1 st0.length)
    generalize reachNew st0.length st1 10000 (dropOld st0.length (v.refs ++ oldRefs st1 st0.length)) [] = live at h hnd hge
    dsimp only at h
    split at h
    · rename_i v' st' h1 h2
      exact ⟨_, v', st', h, SV.ren_rep (fun _ _ => ren_al) h1 hv, (ren_to hto hnd hge h2).1⟩
    · exact h.elim
theorem keepL_get {live : List Nat} : ∀ {fr : Fr} {i : Nat}, (keepL live i fr).length = fr.length ∧ ∀ t sv, (keepL live i fr).get t = some sv → fr.get t = some sv
  | [], i => ⟨rfl, fun t sv h => h⟩
  | x :: r, i => by
    obtain ⟨h1, h2⟩ := keepL_get (live := live) (fr := r) (i := i + 1)
    refine ⟨by simp [keepL, h1], fun t sv h => ?_⟩
    cases t with
    | zero =>
      simp only [Fr.get, keepL, getL] at h ⊢
      split at h
      · exact h
      · cases h
    | succ t => exact h2 t sv h
theorem OO.canon_spec {x : Option SO} {so : SO} (h : OO.canon x = some so) : ∃ so0, x = some so0 ∧ Kin so0 so ∧ ∀ α w d, Good α w d so0 → Good α w d so := by
  unfold OO.canon at h
  split at h
  · rename_i w T m ct
    cases h
    refine ⟨_, rfl, ⟨fun _ _ _ h => h, fun w d b ⟨i, j, k, xs, v, h1, h2, h3, h4⟩ => ⟨i, j, k, xs, v, by rw [ct.canon_spec.1] at h1; exact h1, by rw [ct.canon_spec.1] at h1; rw [ct.canon_spec.2 i h1] at h2; exact h2, h3, h4⟩, by cases w <;> rfl⟩,
      fun α w d ⟨h1, h2, cs, fz, h5, h6, h7, h8, h9, h10⟩ => ⟨h1, h2, cs, fz, h5, h6, h7, ?_, ?_, fun i hi => ?_⟩⟩
    · rw [ct.canon_spec.1]; exact h8
    · intro e; cases e
    · rw [ct.canon_spec.1] at hi
      rw [ct.canon_spec.2 i hi]
      exact h10 i hi
  · cases x with
    | none => cases h
    | some so' => cases h; exact ⟨_, rfl, Kin.refl _, fun _ _ _ h => h⟩
theorem mapL_eq {β γ : Type} (f : β → γ) (l : List β) : mapL f l = l.map f := by induction l <;> simp_all [mapL]
theorem canon_src {st1 : St} {o : Nat} {so : SO} (ho : St.get (mapL OO.canon st1) o = some so) : ∃ so0, st1.get o = some so0 ∧ Kin so0 so ∧ ∀ α w d, Good α w d so0 → Good α w d so := by
  rw [mapL_eq, St.get_eq, List.getElem?_map] at ho
  cases hx : st1[o]? with
  | none => rw [hx] at ho; cases ho
  | some x =>
    rw [hx] at ho
    obtain ⟨so0, h1, h2⟩ := OO.canon_spec (x := x) ho
    exact ⟨so0, by rw [St.get_eq, hx]; exact h1, h2⟩
theorem canon_to {α α1 : Al} {st0 st1 : St} {w w1 : World} (hto : To α st0 w α1 st1 w1) : To α st0 w α1 (mapL OO.canon st1) w1 := by
  have hl : (mapL OO.canon st1).length = st1.length := by rw [mapL_eq]; simp
  refine To.via hto (by rw [hl]; exact hto.len) hto.ext id (fun o _ _ => ⟨fun _ => rfl, fun h => h⟩) (fun o so' ho => ?_) (fun o o' _ _ _ _ h => h) (fun o ho => ?_) hto.rep.cell
  · obtain ⟨so0, h1, h2, h3⟩ := canon_src ho
    exact ⟨so0, h1, h2, rfl, fun d hg => h3 _ _ _ hg⟩
  · rw [hl] at ho; exact hto.rep.none o ho
theorem kCols_len {t : TypeId} {cs : List Col} (h : kCols P t = some cs) : ∀ c ∈ cs, ∃ k, c = .ints k [] ∨ c = .bools [] ∨ c = .data k [] := by
  unfold kCols at h
  split at h
  · rename_i k _; cases h; intro c hc; simp at hc; subst hc; exact ⟨k, .inl rfl⟩
  · cases h; intro c hc; simp at hc; subst hc; exact ⟨.i64, .inr (.inl rfl)⟩
  · split at h
    · rename_i k _; cases h; intro c hc; simp at hc; subst hc; exact ⟨k, .inr (.inr rfl)⟩
    · simp at h
  · simp at h
theorem emptyCt_len {e : TypeId} {ct : Ct} (h : emptyCt P e = some ct) : ct.len = 0 := by
  unfold emptyCt at h
  split at h
  · cases h; rfl
  · split at h
    · cases h; rfl
    · simp at h
  · split at h
    · cases h; rfl
    · simp at h
theorem can_capped : ∀ {so : SO}, so.can = true → so.capped none 0 = true
  | .mem w k T m ct, h => by cases w <;> cases k <;> first | rfl | (simp [SO.can] at h; done)
  | .own w k T m ct, h => rfl
  | .clo _ _ _, h => rfl
  | .mp _ _ _, h => rfl
  | .mt _ _ _ _ _ _, h => rfl
  | .mv _ _ _ _ _ _, h => rfl
  | .box _ _, h => rfl
  | .part _ _ _, h => rfl
  | .nul, h => rfl
  | .lp _ _ _ _ _ _ _ _, h => rfl
theorem can_own_w {w : Bool} {k : MK} {T m : Nat} {ct : Ct} (h : (SO.own w k T m ct).can = true) : w = true := by cases w <;> first | rfl | (simp [SO.can] at h; done)
theorem fitCols_at {n i : Nat} (h : i < n) : ∀ cs : List Col, colsAt i (fitCols n cs) = colsAt i cs
  | [] => rfl
  | c :: r => by
    rw [fitCols, colsAt, colsAt, fitCols_at h r]
    congr 1
    cases c <;> simp only [Col.fit, Col.at, List.getD_eq_getElem?_getD, fitL_get h]
theorem Ct.fit_len (ct : Ct) : ct.fit.len = ct.len := by cases ct <;> rfl
theorem Ct.fit_get {ct : Ct} {i : Nat} (h : i < ct.len) : ct.fit.get i = ct.get i := by
  cases ct with
  | tab n cs => exact fitCols_at h cs
  | _ => rfl
theorem canonE_spec {E : Option Ct} (hE : ∀ c, E = some c → c.len = 0) (ct : Ct) : (ct.canon.orE E).len = ct.len ∧ ∀ x, x < ct.len → (ct.canon.orE E).get x = ct.get x := by
  have hs := ct.canon_spec
  by_cases h : ct.canon = .lst []
  · rw [h] at hs
    have h0 : ct.len = 0 := by rw [← hs.1]; rfl
    rw [h]
    refine ⟨?_, fun x hx => by omega⟩
    cases E with
    | none => rw [h0]; rfl
    | some c => rw [h0]; exact hE c rfl
  · have : ct.canon.orE E = ct.canon.fit := by
      unfold Ct.orE
      split
      · rename_i e; exact absurd e h
      · rfl
    rw [this, Ct.fit_len]
    exact ⟨hs.1, fun x hx => by rw [Ct.fit_get (by rw [hs.1]; exact hx)]; exact hs.2 x hx⟩
theorem elemE_len {T : TypeId} : ∀ c, elemE P T = some c → c.len = 0 := by
  intro c h
  unfold elemE at h
  split at h
  · exact emptyCt_len h
  · cases h
theorem ownPart_sound {E : Option Ct} (hE : ∀ c, E = some c → c.len = 0) {α : Al} {st : St} {w : World} {o i n c : Nat} {cc : Option Nat} {a : Option Addr} {k : SC → St → Prop} {d : Den} (hR : R α st w) (hd : α o = some d)
    (ha : 0 < n → a = some ⟨d.blk, d.off + i * d.m, none⟩)
    (hc : cc = none → (0 < n → c = d.cap - i) ∧ (0 < n ∨ ((∃ p, st.roomy o = some p) ∧ PartOk d i n a c) ∨ (memAt st o = true ∧ c = d.cap - i))) (hcc : ∀ x, cc = some x → c = x ∧ (0 < n ∨ memAt st o = true)) (hca : a = some ⟨d.blk, d.off + i * d.m, none⟩ ∨ memAt st o = false) (h : ownPart E st o i n cc k) :
    ∃ α' c' st', k c' st' ∧ To α st w α' st' w ∧ c'.val? α' = some (.slice a n c) ∧ st.length ≤ st'.length ∧ ∀ x so, x < st.length → st'.get x = some so → st.get x = some so := by
  have hlt : o < st.length := by
    by_cases hl : o < st.length
    · exact hl
    · rw [hR.none o (by omega)] at hd; cases hd
  have done : ∀ {e1 : Den} {st' : St}, e1.val = .slice a n c → To α st w (α.add st.length e1) st' w → k (.ref st.length) st' → (∀ x so, x < st.length → st'.get x = some so → st.get x = some so) →
      ∃ α' c' st', k c' st' ∧ To α st w α' st' w ∧ c'.val? α' = some (.slice a n c) ∧ st.length ≤ st'.length ∧ ∀ x so, x < st.length → st'.get x = some so → st.get x = some so := by
    intro e1 st' h1 h2 h3 h4
    exact ⟨_, _, st', h3, h2, by simp only [SC.val?, Al.add_same, h1], h2.len, h4⟩
  have old1 : ∀ (x : Nat) (so y : SO), x < st.length → St.get (st ++ [some y]) x = some so → st.get x = some so := fun x so y hx h => by rw [St.get_append_lt hx] at h; exact h
  have old2 : ∀ (x : Nat) (so y : SO), x < st.length → St.get (st.put o none ++ [some y]) x = some so → st.get x = some so := fun x so y hx h => by
    rw [St.get_append_lt (by rw [St.length_put]; exact hx)] at h
    by_cases e : o = x
    · subst e; rw [St.get_put_eq hlt] at h; cases h
    · rw [St.get_put_ne e] at h; exact h
  unfold ownPart at h
  split at h
  · -- nobody writes it
    rename_i T m ct hst
    obtain ⟨hin, h⟩ := need_iff.1 h
    have hin : i + n ≤ ct.len := by simpa using hin
    obtain ⟨hcp, h⟩ := need_iff.1 h
    rw [lenL_eq] at h
    obtain ⟨d', hd', hg⟩ := hR.good o _ hst
    rw [hd] at hd'; cases hd'
    obtain ⟨hdm, hmp, hcell⟩ := hg.rowsCell (m := m) (ct := ct) rfl
    by_cases h0 : n = 0
    · subst h0
      exact done (e1 := ⟨0, 0, m, 0, .slice a 0 c, false⟩) rfl (To.ghost (so := .own false .ext T m (ct.sub i 0)) (d := ⟨0, 0, m, 0, .slice a 0 c, false⟩) hR (fun _ h => h) (fun _ h => by cases h.1) rfl ⟨rfl, hmp, .inl ⟨rfl, Ct.sub_len hin, _, _, rfl, fun e => by cases e⟩⟩) h (fun x so hx hh => old1 x so _ hx hh)
    · have hpos : 0 < ct.len := by omega
      have hlive := hg.live (m := m) (ct := ct) rfl hpos rfl
      have hroom := hg.room (m := m) (ct := ct) rfl rfl hpos
      obtain rfl := ha (by omega)
      have hnc : n ≤ c := by
        cases cc with
        | none => rw [(hc rfl).1 (by omega)]; omega
        | some x => rw [(hcc x rfl).1]; simp only [capIn, decide_eq_true_eq] at hcp; exact hcp.1
      have hblk : d.blk < w.heap.size := hg.lt (.inr ⟨hlive, .inl rfl⟩)
      refine done (e1 := ⟨d.blk, d.off + i * m, m, c, .slice (some ⟨d.blk, d.off + i * d.m, none⟩) n c, true⟩) rfl (To.ghost (so := .own false .ext T m (ct.sub i n)) (d := ⟨d.blk, d.off + i * m, m, c, .slice (some ⟨d.blk, d.off + i * d.m, none⟩) n c, true⟩) hR (fun _ h => h) (fun b hb => ?_) rfl
        ⟨rfl, hmp, .inr ⟨rfl, by rw [Ct.sub_len hin, hdm], by rw [Ct.sub_len hin]; exact hnc, hblk, fun x hx => ?_⟩⟩) h (fun x so hx hh => old1 x so _ hx hh)
      · rcases hb with ⟨_, rfl | hb⟩
        · exact ⟨o, _, d, hst, hd, hlive, .inl rfl⟩
        · obtain ⟨x, j, kk, xs, v, n1, n2, n3, n4⟩ := hb
          rw [Ct.sub_len hin] at n1
          rw [Ct.sub_get n1] at n2
          simp only at n3
          rw [show d.off + i * m + x * m + j = d.off + (i + x) * m + j from by rw [Nat.add_mul]; omega] at n3
          exact ⟨o, _, d, hst, hd, hlive, .inr ⟨i + x, j, kk, xs, v, by omega, n2, n3, n4⟩⟩
      · rw [Ct.sub_len hin] at hx
        rw [Ct.sub_get hx]
        refine ⟨(hcell (i + x) (by omega)).1, fun j y hj => ?_⟩
        obtain ⟨v, y1, y2, y3⟩ := (hcell (i + x) (by omega)).2 j y hj
        refine ⟨v, y1.mono (Al.le_add (hR.none _ (Nat.le_refl _))), ?_, y3⟩
        simp only
        rw [show d.off + i * m + x * m + j = d.off + (i + x) * m + j from by rw [Nat.add_mul]; omega]
        exact y2
  · -- a row of its own
    rename_i so _ hst
    split at h
    · rename_i m ct hcan hrow
      obtain ⟨hin, h⟩ := need_iff.1 h
      have hin : i + n ≤ ct.len := by simpa using hin
      obtain ⟨hcp, h⟩ := need_iff.1 h
      rw [lenL_eq] at h
      obtain ⟨d', hd', hg⟩ := hR.good o _ hst
      rw [hd] at hd'; cases hd'
      obtain ⟨hdm, hmp, _⟩ := hg.rowsCell hrow
      have hsl : ((ct.sub i n).canon.orE E).len = n := by rw [(canonE_spec hE (ct.sub i n)).1, Ct.sub_len hin]
      -- not a row at all
      have dead : n = 0 → c = 0 → ∃ α' c' st', k c' st' ∧ To α st w α' st' w ∧ c'.val? α' = some (.slice a n c) ∧ st.length ≤ st'.length ∧ ∀ x so, x < st.length → st'.get x = some so → st.get x = some so := by
        intro h0 hc0
        subst h0; subst hc0
        have hto : To α st w (α.add st.length ⟨0, 0, m, 0, .slice a 0 0, false⟩) (st ++ [some (.own true .row so.ty m ((ct.sub i 0).canon.orE E))]) w :=
          To.ghost hR (fun _ h => by cases h.1) (fun _ h => by cases h.1) rfl ⟨rfl, hmp, .inl ⟨rfl, hsl, _, _, rfl, fun _ => rfl⟩⟩
        have hk := To.kill hto.rep o
        rw [St.put_append hlt] at hk
        exact done (e1 := ⟨0, 0, m, 0, .slice a 0 0, false⟩) rfl (hto.trans hk) h (fun x so hx hh => old2 x so _ hx hh)
      -- a row, of a capacity that it has
      have row : (so.isOwn = true → d.live = true) → a = some ⟨d.blk, d.off + i * d.m, none⟩ → n ≤ c → i + c ≤ d.cap → ∃ α' c' st', k c' st' ∧ To α st w α' st' w ∧ c'.val? α' = some (.slice a n c) ∧ st.length ≤ st'.length ∧ ∀ x so, x < st.length → st'.get x = some so → st.get x = some so := by
        intro hlive haa hnc hic
        subst haa
        obtain ⟨T0, cs, fz, hT0, hlies, hwr, h5, h6, h7, h8, _, _, hWr, hcell, _⟩ := hR.toRow hst hd hcan hrow hlive
        have hcm : i * m + c * m ≤ d.cap * m := by rw [← Nat.add_mul]; exact Nat.mul_le_mul_right m hic
        have hle := Al.le_add (d := (⟨d.blk, d.off + i * m, m, c, .slice (some ⟨d.blk, d.off + i * d.m, none⟩) n c, true⟩ : Den)) (hR.none _ (Nat.le_refl _))
        have hIs : ∀ b, Ice w ⟨d.blk, d.off + i * m, m, c, .slice (some ⟨d.blk, d.off + i * d.m, none⟩) n c, true⟩ (.own true .row so.ty m ((ct.sub i n).canon.orE E)) b → Is α st w b := by
          rintro b ⟨_, x, j, kk, xs, v, n1, n2, n3, n4⟩
          rw [hsl] at n1
          rw [(canonE_spec hE (ct.sub i n)).2 x (by rw [Ct.sub_len hin]; exact n1), Ct.sub_get n1] at n2
          obtain ⟨v', y1, y2, _⟩ := (hcell (i + x) (by omega)).2 j _ n2
          simp only at n3
          rw [cell_of_cells h5, show d.off + i * m + x * m + j = d.off + (i + x) * m + j from by rw [Nat.add_mul]; omega, y2] at n3
          cases n3
          exact y1.2 kk xs b rfl n4
        refine done (e1 := ⟨d.blk, d.off + i * m, m, c, .slice (some ⟨d.blk, d.off + i * d.m, none⟩) n c, true⟩) rfl (To.regrow (so' := .own true .row so.ty m ((ct.sub i n).canon.orE E)) (e := ⟨d.blk, d.off + i * m, m, c, .slice (some ⟨d.blk, d.off + i * d.m, none⟩) n c, true⟩) hR hst hd hwr rfl rfl (fun _ _ => rfl) (.of rfl rfl) rfl rfl
          ⟨rfl, hmp, .inr ⟨rfl, by rw [hsl, hdm], by rw [hsl]; exact hnc, cs, fz, by rw [← hT0]; exact h5, h6.own, by simp only; omega, fun x hx => ?_⟩⟩ (fun b hb => (hlies b).2 hb.2) (fun b hb => .inr (hIs b hb))
          (fun _ b hb hib => hR.apart (by rw [show b = d.blk from hb.2]; exact hWr) (hIs b hib))) h (fun x so hx hh => old2 x so _ hx hh)
        rw [hsl] at hx
        rw [(canonE_spec hE (ct.sub i n)).2 x (by rw [Ct.sub_len hin]; exact hx), Ct.sub_get hx]
        refine ⟨(hcell (i + x) (by omega)).1, fun j y hj => ?_⟩
        obtain ⟨v, y1, y2, y3⟩ := (hcell (i + x) (by omega)).2 j y hj
        refine ⟨v, y1.1.mono hle, ?_, y3⟩
        simp only
        rw [show d.off + i * m + x * m + j = d.off + (i + x) * m + j from by rw [Nat.add_mul]; omega]
        exact y2
      have hcapped : so.capped none 0 = true := can_capped hcan
      by_cases h0 : 0 < n
      · have hroom := hg.room hrow hcapped (by omega)
        have hlive := hg.live hrow (by omega)
        cases cc with
        | none => have e := (hc rfl).1 h0; exact row hlive (ha h0) (by omega) (by omega)
        | some x =>
          simp only [capIn, decide_eq_true_eq] at hcp
          have e := (hcc x rfl).1
          exact row hlive (ha h0) (by omega) (by omega)
      · have hn0 : n = 0 := by omega
        have hmem : memAt st o = true → so.isOwn = false ∧ ct.len ≤ d.cap := by
          intro hm
          unfold memAt at hm
          rw [hst] at hm
          cases so with
          | mem wb kk T' m' ct' =>
            simp only [SO.rows, Option.some.injEq, Prod.mk.injEq] at hrow
            obtain ⟨rfl, rfl⟩ := hrow
            refine ⟨rfl, ?_⟩
            obtain ⟨_, _, h4⟩ := hg
            cases kk with
            | ext => cases wb <;> simp [SO.can] at hcan
            | whole => obtain ⟨_, _, _, _, _, h8, _⟩ := h4; exact h8
            | row => obtain ⟨_, _, _, _, _, h8, _⟩ := h4; exact h8
          | _ => cases hm
        cases cc with
        | some x =>
          rcases (hcc x rfl).2 with h1 | hm
          · exact absurd h1 h0
          · simp only [capIn, decide_eq_true_eq] at hcp
            have e := (hcc x rfl).1
            obtain ⟨g1, g2⟩ := hmem hm
            exact row (fun ho => by rw [g1] at ho; cases ho) (hca.resolve_right (by rw [hm]; simp)) (by omega) (by omega)
        | none =>
          rcases (hc rfl).2 with h1 | ⟨⟨p, hroomy⟩, h1⟩ | ⟨hm, hcd⟩
          · exact absurd h1 h0
          rotate_left
          · obtain ⟨g1, g2⟩ := hmem hm
            exact row (fun ho => by rw [g1] at ho; cases ho) (hca.resolve_right (by rw [hm]; simp)) (by omega) (by omega)
          · have hown : so.isOwn = true := by
              unfold St.roomy at hroomy
              rw [hst] at hroomy
              cases so <;> first | rfl | simp at hroomy
            rcases h1.2 hn0 with ⟨hc0, _⟩ | ⟨hl, haa, hcc2⟩ | ⟨hl, a', hv⟩
            · exact dead hn0 hc0
            · by_cases hi : i ≤ d.cap
              · exact row (fun _ => hl) haa (by omega) (by omega)
              · exact dead hn0 (by omega)
            · refine dead hn0 ?_
              cases so <;> simp only [SO.isOwn, reduceCtorEq] at hown
              rename_i wb kk T m' ct'
              obtain ⟨_, _, ⟨_, _, a2, c2, hv2, hc2⟩ | ⟨hl2, _⟩⟩ := hg
              · rw [hv] at hv2
                simp only [Value.slice.injEq] at hv2
                rw [hv2.2.2]
                exact hc2 (can_own_w hcan)
              · rw [hl] at hl2; cases hl2
    · exact h.elim
  · exact h.elim
theorem ownOf_sound {α : Al} {st : St} {w : World} {T : TypeId} {c : SC} {v : Value} {k : SC → St → Prop} (hR : R α st w) (hv : c.val? α = some v) (h : ownOf P T st c k) :
    ∃ α' c' st', k c' st' ∧ To α st w α' st' w ∧ c'.val? α' = some v ∧ st.length ≤ st'.length ∧ ∀ x so, x < st.length → st'.get x = some so → st.get x = some so := by
  unfold ownOf at h
  split at h
  · simp only [SC.val?, Option.some.injEq] at hv
    subst hv
    split at h
    · rename_i e hu
      split at h
      · rename_i ct s hct hs
        split at h
        · rename_i hsp
          have hsp : 0 < s := by simpa using hsp
          rw [lenL_eq] at h
          have hto : To α st w (α.add st.length ⟨0, 0, s, 0, .slice none 0 0, false⟩) (st ++ [some (.own true .row e s ct)]) w :=
            To.ghost hR (fun _ h => by cases h.1) (fun _ h => by cases h.1) rfl ⟨rfl, hsp, .inl ⟨rfl, emptyCt_len hct, _, _, rfl, fun _ => rfl⟩⟩
          exact ⟨_, _, _, h, hto, by simp only [SC.val?, Al.add_same], hto.len, fun x so hx hh => by rw [St.get_append_lt hx] at hh; exact hh⟩
        · exact h.elim
      · exact h.elim
    · exact h.elim
  · rename_i q
    split at h
    · rename_i T1 m1 ct hst
      rw [lenL_eq] at h
      obtain ⟨d, hd, hg⟩ := hR.good q _ hst
      simp only [SC.val?, hd, Option.some.injEq] at hv
      have hto : To α st w (α.add st.length d) (st ++ [some (.own false .ext T1 m1 ct)]) w :=
        To.ghost hR (fun _ h => h) (fun b hb => ⟨q, _, d, hst, hd, hb⟩) (hR.cell q d hd) (hg.congr (Al.le_add (hR.none _ (Nat.le_refl _))) (fun _ _ => rfl) (Nat.le_refl _))
      exact ⟨_, _, _, h, hto, by simp only [SC.val?, Al.add_same, hv], hto.len, fun x so hx hh => by rw [St.get_append_lt hx] at hh; exact hh⟩
    · exact ⟨α, _, st, h, To.refl hR, hv, Nat.le_refl _, fun _ _ _ h => h⟩
    · rename_i o i n hst
      split at h
      · rename_i p hroomy
        have hl : st.list q = some (o, i, n) := by simp only [St.list, hst]
        obtain ⟨d, a, c, e, hd, hval, he, hp⟩ := hR.list_ok hl
        simp only [SC.val?, hd, Option.some.injEq] at hv
        rw [hval] at hv
        subst hv
        have hnm : memAt st o = false := by
          unfold memAt
          unfold St.roomy at hroomy
          split at hroomy
          · rename_i e; rw [e]
          · cases hroomy
        exact ownPart_sound elemE_len hR he (fun h0 => (hp.1 h0).1) (fun _ => ⟨fun h0 => (hp.1 h0).2, .inr (.inl ⟨⟨p, hroomy⟩, hp⟩)⟩) (fun x e => by cases e) (.inr hnm) h
      · exact h.elim
    · exact h.elim
  · rename_i o i n cc
    obtain ⟨h0, h⟩ := need_iff.1 h
    have h0 : memAt st o = true ∨ 0 < n := by simpa using h0
    simp only [SC.val?] at hv
    split at hv
    · rename_i d hd
      simp only [Option.some.injEq] at hv
      subst hv
      exact ownPart_sound elemE_len hR hd (fun _ => rfl) (fun e => by subst e; exact ⟨fun _ => rfl, h0.elim (fun h => .inr (.inr ⟨h, rfl⟩)) .inl⟩) (fun x e => by subst e; exact ⟨rfl, h0.symm⟩) (.inl rfl) h
    · cases hv
  · exact h.elim
theorem iceC_sound {α : Al} {st : St} {w : World} {c : SC} {v : Value} {k : SC → St → Prop} (hR : R α st w) (hv : c.val? α = some v) (h : iceC st c k) :
    ∃ α' c' st', k c' st' ∧ To α st w α' st' w ∧ c'.val? α' = some v ∧ st.length ≤ st'.length ∧ ∀ x so, x < st.length → st'.get x = some so → st.get x = some so := by
  unfold iceC at h
  split at h
  · rename_i q
    split at h
    · rename_i T m ct hst
      rw [lenL_eq] at h
      have hlt := St.get_lt hst
      obtain ⟨d, hd, _⟩ := hR.good q _ hst
      obtain ⟨hf, _⟩ := ice_to hR hst hd (m := m) (ct := ct) rfl (show (SO.own true .row T m ct).ice = some (.own false .ext T m ct) from rfl)
      have hget : (st.put q (some (.own false .ext T m ct))).get q = some (.own false .ext T m ct) := St.get_put_eq hlt
      have h2 : ownOf (default : Program) 0 (st.put q (some (.own false .ext T m ct))) (.ref q) (fun c' st' => c' = .ref st.length ∧ st' = st.put q (some (.own false .ext T m ct)) ++ [some (.own false .ext T m ct)]) := by
        unfold ownOf
        simp only [hget, lenL_eq, St.length_put]
        refine ⟨?_, ?_⟩ <;> first | rfl | trivial
      obtain ⟨α', c', st', ⟨g0, g1⟩, g2, g3, g4, _⟩ := ownOf_sound hf.to.rep (show (SC.ref q).val? α = some v from hv) h2
      subst g0; subst g1
      have hk := To.kill g2.rep q
      have e : St.put (st.put q (some (.own false .ext T m ct)) ++ [some (.own false .ext T m ct)]) q none = st.put q none ++ [some (.own false .ext T m ct)] := by
        rw [St.put_append (by rw [St.length_put]; exact hlt)]
        simp only [St.put_eq, List.set_set]
      rw [e] at hk
      have hlast : (st.put q none ++ [some (SO.own false .ext T m ct)]).get st.length = some (.own false .ext T m ct) := by
        rw [show st.length = (st.put q none).length from (St.length_put _ _ _).symm]
        exact St.get_append_eq _ _
      obtain ⟨d', hd', hg'⟩ := hk.rep.good _ _ hlast
      have hs := To.same hk.rep hlast hd' (so' := .own false .ext 0 m ct) hg' (fun _ hb => hb) (fun hw => hw) (fun b hb => .inr ⟨_, _, d', hlast, hd', hb⟩) (fun hw => by cases hw)
      have e2 : St.put (st.put q none ++ [some (SO.own false .ext T m ct)]) st.length (some (.own false .ext 0 m ct)) = st.put q none ++ [some (.own false .ext 0 m ct)] := by
        rw [St.put_eq, List.set_append_right _ _ (by rw [St.length_put]; exact Nat.le_refl _), St.length_put]
        simp
      rw [e2] at hs
      refine ⟨α', _, _, h, ((hf.to.trans g2).trans hk).trans hs, g3, by simp [St.length_put], fun x so hx hg => ?_⟩
      rw [St.get_append_lt (by rw [St.length_put]; exact hx)] at hg
      by_cases e : q = x
      · subst e; rw [St.get_put_eq hlt] at hg; cases hg
      · rw [St.get_put_ne e] at hg; exact hg
    · exact ⟨α, _, st, h, To.refl hR, hv, Nat.le_refl _, fun _ _ _ hg => hg⟩
    · exact h.elim
  · exact h.elim
theorem ownOfT_sound {α : Al} {st : St} {w : World} {T : TypeId} {c : SC} {v : Value} {k : SC → St → Prop} (hR : R α st w) (hv : c.val? α = some v) (h : ownOfT P T st c k) :
    ∃ α' c' st', k c' st' ∧ To α st w α' st' w ∧ c'.val? α' = some v ∧ st.length ≤ st'.length ∧ ∀ x so, x < st.length → st'.get x = some so → st.get x = some so := by
  unfold ownOfT at h
  split at h
  · exact ownOf_sound hR hv h
  · obtain ⟨α1, c1, st1, g1, g2, g3, g4, g5⟩ := ownOf_sound hR hv h
    obtain ⟨α2, c2, st2, q1, q2, q3, q4, q5⟩ := iceC_sound g2.rep g3 g1
    exact ⟨α2, c2, st2, q1, g2.trans q2, q3, by omega, fun x so hx hg => g5 x so hx (q5 x so (by omega) hg)⟩
theorem tidyCell_sound {α : Al} {st : St} {w : World} {T : TypeId} {o i j : Nat} {k : St → Prop} (hR : R α st w) (h : tidyCell P T st o i j k) : ∃ α' st', k st' ∧ To α st w α' st' w := by
  unfold tidyCell at h
  split at h
  · rename_i wb T' m vs hst
    dsimp only at h
    split at h
    · rename_i hj hi
      have hj : j < (vs[i]?.getD []).length := by have := Nat.le_of_ble_eq_true hj; simp only [getL_eq, lenL_eq] at this; omega
      have hi : i < vs.length := by have := Nat.le_of_ble_eq_true hi; simp only [lenL_eq] at this; omega
      obtain ⟨d, hd, hg⟩ := hR.good o _ hst
      obtain ⟨hdm, hmp, hcell⟩ := hg.rowsCell (m := m) (ct := .lst vs) rfl
      have hget : (Ct.lst vs).get i = vs[i]?.getD [] := by simp only [Ct.get, getL_eq]
      have hci := hcell i hi
      rw [hget] at hci
      obtain ⟨v, y1, y2, y3⟩ := hci.2 j _ (List.getElem?_eq_getElem hj)
      have hge : getL (.raw undef) (getL [] vs i) j = (vs[i]?.getD [])[j] := by simp only [getL_eq, List.getElem?_eq_getElem hj, Option.getD_some]
      rw [hge] at h
      by_cases hdat : ∃ kk xs, (vs[i]?.getD [])[j] = .dat kk xs
      · obtain ⟨kk, xs, e⟩ := hdat
        rw [e] at h
        unfold ownOfT at h
        split at h <;> exact h.elim
      · obtain ⟨α', c', st1, h1, hto, hv', hl1, hold⟩ := ownOfT_sound hR (y1.val fun kk xs e => hdat ⟨kk, xs, e⟩) h
        have hlt := St.get_lt hst
        split at h1
        · rename_i w1 T1 m1 vs1 hst1
          have := hold o _ hlt hst1
          rw [hst] at this
          cases this
          have hd' : α' o = some d := hto.le hR _ _ hd
          obtain ⟨d', hd2, hg'⟩ := hto.rep.good o _ hst1
          rw [hd'] at hd2; cases hd2
          refine ⟨α', _, h1, hto.trans (To.same hto.rep hst1 hd' ?_ (fun _ h => h) (fun h => by cases wb <;> first | rfl | cases h) (fun b hb => ?_) (fun hw b hb hib => ?_))⟩
          · obtain ⟨g1, g2, cs, fz, g5, g6, g7, g8, g9, g10⟩ := hg'
            refine ⟨g1, g2, cs, fz, g5, g6, g7, by simpa [Ct.len] using g8, fun e => by simpa [Ct.len] using g9 e, fun x hx => ?_⟩
            simp only [Ct.len, setL_eq, List.length_set] at hx
            have hgx := g10 x hx
            simp only [Ct.get, getL_eq, setL_eq, List.getElem?_set] at hgx ⊢
            by_cases e : i = x
            · subst e
              rw [if_pos rfl, if_pos hx]
              simp only [Option.getD_some, List.length_set]
              refine ⟨hgx.1, fun y c hy => ?_⟩
              rw [List.getElem?_set] at hy
              by_cases e2 : j = y
              · subst e2
                rw [if_pos rfl, if_pos hj] at hy
                cases hy
                obtain ⟨v2, z1, z2, z3⟩ := hgx.2 j _ (List.getElem?_eq_getElem hj)
                rw [cell_of_cells g5, z2] at y2
                cases y2
                exact ⟨v, CellOk.of hv', z2, z3⟩
              · rw [if_neg e2] at hy
                exact hgx.2 y c hy
            · rw [if_neg e]
              exact hgx
          · obtain ⟨x, y, kk, xs, v2, n1, n2, n3, n4⟩ := hb
            simp only [Ct.len, setL_eq, List.length_set] at n1
            simp only [Ct.get, getL_eq, setL_eq, List.getElem?_set] at n2
            refine .inr ⟨o, _, d, hst1, hd', x, y, kk, xs, v2, n1, ?_, n3, n4⟩
            simp only [Ct.get, getL_eq]
            by_cases e : i = x
            · subst e
              rw [if_pos rfl, if_pos n1] at n2
              simp only [Option.getD_some, List.getElem?_set] at n2
              by_cases e2 : j = y
              · subst e2
                rw [if_pos rfl, if_pos hj] at n2
                cases n2
                simp [SC.val?] at hv'
              · rw [if_neg e2] at n2; exact n2
            · rw [if_neg e] at n2; exact n2
          · refine hto.rep.self o _ d b hst1 hd' (by cases wb <;> first | rfl | cases hw) hb ?_
            obtain ⟨x, y, kk, xs, v2, n1, n2, n3, n4⟩ := hib
            simp only [Ct.len, setL_eq, List.length_set] at n1
            simp only [Ct.get, getL_eq, setL_eq, List.getElem?_set] at n2
            refine ⟨x, y, kk, xs, v2, n1, ?_, n3, n4⟩
            simp only [Ct.get, getL_eq]
            by_cases e : i = x
            · subst e
              rw [if_pos rfl, if_pos n1] at n2
              simp only [Option.getD_some, List.getElem?_set] at n2
              by_cases e2 : j = y
              · subst e2
                rw [if_pos rfl, if_pos hj] at n2
                cases n2
                simp [SC.val?] at hv'
              · rw [if_neg e2] at n2; exact n2
            · rw [if_neg e] at n2; exact n2
        · exact h1.elim
    · exact h.elim
  · exact h.elim
theorem tidyAt_sound {α : Al} {st : St} {w : World} {T : TypeId} {k : St → Prop} (hR : R α st w) : ∀ {path : List Nat} {c : SC}, tidyAt P T st c path k → ∃ α' st', k st' ∧ To α st w α' st' w
  | path, c, h => by
    unfold tidyAt at h
    split at h
    · exact tidyCell_sound hR h
    · split at h
      · exact tidyAt_sound hR h
      · exact h.elim
    · split at h
      · exact tidyAt_sound hR h
      · exact h.elim
    · exact h.elim
theorem tidy1_sound {α : Al} {st : St} {w : World} {x : Tidy} {fr : Fr} {tmps : Array Value} {k : Fr → St → Prop} (hR : R α st w) (hf : FrOk α fr tmps) (h : tidy1 P x fr st k) :
    ∃ α' fr' st', k fr' st' ∧ FrOk α' fr' tmps ∧ To α st w α' st' w := by
  unfold tidy1 at h
  split at h
  · rename_i c hs _
    obtain ⟨v, h1, h2⟩ := hf.2 _ _ hs
    obtain ⟨α', c', st', g1, g2, g3, _⟩ := ownOfT_sound hR (show c.val? α = some v from h2) h
    exact ⟨α', _, st', g1, (hf.mono (g2.le hR)).say h1 g3, g2⟩
  · obtain ⟨α', st', g1, g2⟩ := tidyAt_sound hR h
    exact ⟨α', fr, st', g1, hf.mono (g2.le hR), g2⟩
  · exact h.elim
theorem tidyAll_sound {w : World} {tmps : Array Value} {k : Fr → St → Prop} : ∀ {ts : List Tidy} {α : Al} {st : St} {fr : Fr}, R α st w → FrOk α fr tmps → tidyAll P ts fr st k →
    ∃ α' fr' st', k fr' st' ∧ FrOk α' fr' tmps ∧ To α st w α' st' w
  | [], α, st, fr, hR, hf, h => ⟨α, fr, st, h, hf, To.refl hR⟩
  | x :: r, α, st, fr, hR, hf, h => by
    simp only [tidyAll] at h
    obtain ⟨α1, fr1, st1, g1, g2, g3⟩ := tidy1_sound hR hf h
    obtain ⟨α2, fr2, st2, q1, q2, q3⟩ := tidyAll_sound g3.rep g2 g1
    exact ⟨α2, fr2, st2, q1, q2, g3.trans q3⟩
theorem To.fs {α α' : Al} {st st' : St} {w w' : World} (h : To α st w α' st' w') {b : Nat} (hb : b < w.heap.size) (hf : Fs α' st' w' b) : Fs α st w b := by
  obtain ⟨o, so, d, h1, h2, h3 | h3⟩ := hf
  · rcases h.lies o so d b h1 h2 hb h3 with hw | ⟨hlt, so2, g1, g2⟩
    · exact hw.fs
    · exact ⟨o, so2, d, g1, by rw [← h.ext o hlt]; exact h2, .inl g2⟩
  · rcases h.ice o so d b h1 h2 hb h3 with hw | hi
    · exact hw.fs
    · exact hi.fs
theorem atKey_sound {cx : Cx} {f i : Nat} {c : Code} {α α1 : Al} {st0 st1 : St} {w w1 : World} {fr : Fr} {tmps : Array Value} {K : Fr → St → Prop} (hto : To α st0 w α1 st1 w1) (hf : FrOk α1 fr tmps)
    (h : atKey cx f i c st0.length fr st1 K) : ∃ α2 fr' st', K fr' st' ∧ FrOk α2 fr' tmps ∧ To α st0 w α2 st' w1 ∧ (∀ b, b < w1.heap.size → Fs α2 st' w1 b → Fs α1 st1 w1 b) := by
  unfold atKey at h
  split at h
  · rename_i mask ts _
    obtain ⟨k1, k2⟩ := keepL_get (live := mask) (fr := fr) (i := 0)
    have hfk : FrOk α1 (keepL mask 0 fr) tmps := ⟨by rw [k1]; exact hf.1, fun t sv ht => hf.2 t sv (k2 t sv ht)⟩
    obtain ⟨αt, frt, stt, h, hft, htt⟩ := tidyAll_sound hto.rep hfk h
    have hto2 := hto.trans htt
    unfold forget at h
    obtain ⟨hnd, hge⟩ := reachNew_ok st0.length stt (frRefs (keepL mask 0 frt) ++ oldRefs stt st0.length)
    dsimp only at h
    generalize reachNew st0.length stt 10000 (dropOld st0.length (frRefs (keepL mask 0 frt) ++ oldRefs stt st0.length)) [] = live at h hnd hge
    split at h
    · rename_i fr' st' h1 h2
      obtain ⟨hl, hg⟩ := mapO_get h1
      obtain ⟨k1, k2⟩ := keepL_get (live := mask) (fr := frt) (i := 0)
      refine ⟨_, fr', _, h.h, ⟨by rw [hl, k1]; exact hft.1, fun t sv ht => ?_⟩, canon_to (ren_to hto2 hnd hge h2).1, fun b hb hfs => htt.fs hb ?_⟩
      · rw [Fr.get_eq] at ht
        have hlt : t < fr'.length := by
          by_cases hlt : t < fr'.length
          · exact hlt
          · rw [List.getElem?_eq_none (by omega)] at ht; cases ht
        have ht' : fr'[t]? = some (some sv) := by
          rw [List.getElem?_eq_getElem hlt] at ht ⊢; simpa using ht
        obtain ⟨x, hx, hr⟩ := hg t _ ht'
        cases x with
        | none => simp [OV.ren] at hr
        | some v =>
          simp only [OV.ren, Option.map_eq_some_iff] at hr
          obtain ⟨v', hr, e⟩ := hr
          cases e
          obtain ⟨u, y1, y2⟩ := hft.2 t v (k2 t v (by rw [Fr.get_eq, hx]; rfl))
          exact ⟨u, y1, SV.ren_rep (fun _ _ => ren_al) hr y2⟩
      · obtain ⟨o, so, d, ho, hd, hfoot⟩ := hfs
        obtain ⟨so0, c1, c2, _⟩ := canon_src ho
        obtain ⟨p, so1, d1, d2, d3⟩ := (ren_to hto2 hnd hge h2).2 o so0 d c1 hd
        exact ⟨p, so1, d, d1, d2, (d3.trans c2).foot _ _ _ hfoot⟩
    · exact h.elim
  · exact ⟨α1, fr, st1, h, hf, hto, fun _ _ h => h⟩
theorem atHead_sound {cx : Cx} {f : FuncId} {c : Code} {α α1 : Al} {st0 st1 : St} {w w1 : World} {fr : Fr} {tmps : Array Value} {K : Fr → St → Prop} (hto : To α st0 w α1 st1 w1) (hf : FrOk α1 fr tmps)
    (h : atHead cx f c st0.length fr st1 K) : ∃ α2 fr' st', K fr' st' ∧ FrOk α2 fr' tmps ∧ To α st0 w α2 st' w1 ∧ (∀ b, b < w1.heap.size → Fs α2 st' w1 b → Fs α1 st1 w1 b) := by
  unfold atHead at h
  split at h
  · exact atKey_sound hto hf h
  · exact ⟨α1, fr, st1, h, hf, hto, fun _ _ h => h⟩
theorem atCut_sound {cx : Cx} {f id : Nat} {c : Code} {α α1 : Al} {st0 st1 : St} {w w1 : World} {fr : Fr} {tmps : Array Value} {K : Fr → St → Prop} (hto : To α st0 w α1 st1 w1) (hf : FrOk α1 fr tmps)
    (h : atCut cx f id c st0.length fr st1 K) : ∃ α2 fr' st', K fr' st' ∧ FrOk α2 fr' tmps ∧ To α st0 w α2 st' w1 ∧ (∀ b, b < w1.heap.size → Fs α2 st' w1 b → Fs α1 st1 w1 b) := by
  unfold atCut at h
  exact atKey_sound hto hf h
theorem reachAll_spec {st : St} : ∀ {n : Nat} {work acc : List Nat}, acc.Nodup → (∀ x ∈ acc, x < st.length) →
    (reachAll st n work acc).Nodup ∧ ∀ x ∈ reachAll st n work acc, x < st.length
  | 0, work, acc, h2, h3 => by unfold reachAll; exact ⟨h2, h3⟩
  | n + 1, [], acc, h2, h3 => by unfold reachAll; exact ⟨h2, h3⟩
  | n + 1, o :: r, acc, h2, h3 => by
    simp only [reachAll]
    cases hh : hasN o acc with
    | true => exact reachAll_spec h2 h3
    | false =>
      dsimp only
      cases hb : Nat.blt o (lenL st) with
      | false => exact reachAll_spec h2 h3
      | true =>
        have hlt : o < st.length := by have := Nat.le_of_ble_eq_true hb; rw [lenL_eq] at this; exact this
        have hn : o ∉ acc := fun hm => by rw [hasN_iff.2 hm] at hh; cases hh
        have hacc : (acc ++ [o]).Nodup := by
          rw [List.nodup_append]
          exact ⟨h2, by simp, fun a ha b hb => by simp at hb; subst hb; rintro rfl; exact hn ha⟩
        have hle : ∀ x ∈ acc ++ [o], x < st.length := fun x hx => by
          rcases List.mem_append.1 hx with hx | hx
          · exact h3 x hx
          · simp at hx; subst hx; exact hlt
        dsimp only
        split
        · exact reachAll_spec hacc hle
        · exact reachAll_spec hacc hle
theorem ren_zero {objs : List Nat} {o j : Nat} (h : ren 0 objs o = some j) : objs[j]? = some o := by
  unfold Ev.ren at h
  split at h
  · rename_i hb; exact absurd (Nat.le_of_ble_eq_true hb) (by omega)
  · simp only [Option.map_eq_some_iff] at h
    obtain ⟨i, h, rfl⟩ := h
    obtain ⟨d, h1, h2⟩ := ren_idx h
    rw [show 0 + i = d by omega]; exact h2
theorem putBack_get {objs : List Nat} {loc : St} : ∀ {st : St} {i o : Nat}, (putBack objs loc i st).length = st.length ∧ (o < st.length → (putBack objs loc i st)[o]? = some (match ren 0 objs (i + o) with
    | some j => getL none loc j
    | none => st[o]?.getD none))
  | [], i, o => ⟨rfl, fun h => by simp at h⟩
  | x :: r, i, o => by
    obtain ⟨h1, _⟩ := putBack_get (objs := objs) (loc := loc) (st := r) (i := i + 1) (o := o)
    refine ⟨by simp [putBack, h1], fun h => ?_⟩
    cases o with
    | zero => simp [putBack]; rfl
    | succ o =>
      have := (putBack_get (objs := objs) (loc := loc) (st := r) (i := i + 1) (o := o)).2 (by simpa using h)
      simp only [putBack, List.getElem?_cons_succ]
      rw [this, show i + 1 + o = i + (o + 1) by omega]
theorem part_sound {α β1 : Al} {st loc loc' loc2 : St} {w w' : World} {objs : List Nat} (hR : R α st w) (hnd : objs.Nodup) (hlt : ∀ x ∈ objs, x < st.length)
    (hloc : mapO (OO.ren (ren 0 objs)) (objs.map st.get) = some loc) (hto : To (α.ren 0 objs) loc w β1 loc' w') (h2 : mapO (OO.ren (back objs objs.length st.length)) loc' = some loc2) :
    ∃ α2, (∀ o o', back objs objs.length st.length o = some o' → α2 o' = β1 o) ∧ To α st w α2 (putBack objs loc2 0 st ++ dropL objs.length loc2) w' := by
  obtain ⟨hl, hg⟩ := mapO_get hloc
  simp only [List.length_map] at hl
  obtain ⟨hl2, hg2⟩ := mapO_get h2
  have hm : objs.length ≤ loc'.length := by rw [← hl]; exact hto.len
  have hβ : ∀ (j o : Nat), objs[j]? = some o → (α.ren 0 objs) j = α o := fun j o h => by simp [Al.ren, h]
  have hjm : ∀ (j o : Nat), objs[j]? = some o → j < objs.length := fun j o h => (List.getElem?_eq_some_iff.1 h).1
  -- what lies in the part came from the state
  have locOld : ∀ (j : Nat) (s : SO), loc.get j = some s → ∃ o s0, objs[j]? = some o ∧ st.get o = some s0 ∧ Kin s0 s := by
    intro j s hs
    have hj := St.get_lt hs
    have hs' : loc[j]? = some (some s) := by
      rw [St.get_eq, List.getElem?_eq_getElem hj] at hs; rw [List.getElem?_eq_getElem hj]; simpa using hs
    obtain ⟨x, hx, hr⟩ := hg j _ hs'
    simp only [List.getElem?_map, Option.map_eq_some_iff] at hx
    obtain ⟨o, ho, hx⟩ := hx
    rcases OO.ren_spec hr with ⟨_, e⟩ | ⟨so, so2, e1, e2, e3, e5⟩
    · cases e
    · cases e2; exact ⟨o, so, ho, by rw [hx, e1], e3⟩
  have wrOld : ∀ b, Wr (α.ren 0 objs) loc w b → ∃ o s0 d, o ∈ objs ∧ st.get o = some s0 ∧ α o = some d ∧ s0.wr = true ∧ s0.lies w d b := by
    rintro b ⟨j, s, d, x1, x2, x3, x4⟩
    obtain ⟨o, s0, y1, y2, y3⟩ := locOld j s x1
    exact ⟨o, s0, d, List.mem_of_getElem? y1, y2, (hβ j o y1).symm.trans x2, y3.wr.trans x3, y3.lies _ _ _ x4⟩
  have fsOld : ∀ b, Fs (α.ren 0 objs) loc w b → ∃ o s0 d, o ∈ objs ∧ st.get o = some s0 ∧ α o = some d ∧ Foot w d s0 b := by
    rintro b ⟨j, s, d, x1, x2, x3⟩
    obtain ⟨o, s0, y1, y2, y3⟩ := locOld j s x1
    exact ⟨o, s0, d, List.mem_of_getElem? y1, y2, (hβ j o y1).symm.trans x2, y3.foot _ _ _ x3⟩
  have isOld : ∀ b, Is (α.ren 0 objs) loc w b → Is α st w b := by
    rintro b ⟨j, s, d, x1, x2, x3⟩
    obtain ⟨o, s0, y1, y2, y3⟩ := locOld j s x1
    exact ⟨o, s0, d, y2, (hβ j o y1).symm.trans x2, y3.ice _ _ _ x3⟩
  let α2 : Al := fun o => if o < st.length then α o else β1 (o - st.length + objs.length)
  have hf : ∀ o o', back objs objs.length st.length o = some o' → α2 o' = β1 o := by
    intro o o' h
    unfold back at h
    split at h
    · rename_i hb
      have ho : o < objs.length := Nat.le_of_ble_eq_true hb
      cases h
      have hge : objs[o]? = some (getL 0 objs o) := by simp [ho]
      have := hlt _ (List.mem_of_getElem? hge)
      simp only [α2, this, if_true]
      rw [hto.ext o (by omega), hβ o _ hge]
    · rename_i hb
      have ho : ¬ o < objs.length := fun hlt => by
        have : Nat.blt o objs.length = true := Nat.ble_eq_true_of_le hlt
        rw [this] at hb; cases hb
      cases h
      simp only [α2]
      rw [if_neg (by omega)]
      congr 1; omega
  have hle : α.le α2 := fun o d h => by
    have : o < st.length := by
      by_cases hh : o < st.length
      · exact hh
      · rw [hR.none o (by omega)] at h; cases h
    simp only [α2, this, if_true]; exact h
  -- the new state's objects
  have key : ∀ (o : Nat) (so : SO), St.get (putBack objs loc2 0 st ++ dropL objs.length loc2) o = some so →
      (o < st.length ∧ o ∉ objs ∧ st.get o = some so) ∨
      (∃ j s1, (o < st.length → objs[j]? = some o) ∧ (st.length ≤ o → j = o - st.length + objs.length) ∧ loc'.get j = some s1 ∧ Kin s1 so ∧ α2 o = β1 j ∧ ∀ w d, Good β1 w d s1 → Good α2 w d so) := by
    intro o so ho
    have fromLoc : ∀ (j : Nat), loc2.get j = some so → ∃ s1, loc'.get j = some s1 ∧ Kin s1 so ∧ ∀ w d, Good β1 w d s1 → Good α2 w d so := by
      intro j hj
      have hlt := St.get_lt hj
      have hj' : loc2[j]? = some (some so) := by
        rw [St.get_eq, List.getElem?_eq_getElem hlt] at hj; rw [List.getElem?_eq_getElem hlt]; simpa using hj
      obtain ⟨x, hx, hr⟩ := hg2 j _ hj'
      rcases OO.ren_spec hr with ⟨_, e⟩ | ⟨s1, so2, e1, e2, e3, e5⟩
      · cases e
      · cases e2; exact ⟨s1, by rw [St.get_eq, hx, e1]; rfl, e3, e5 β1 α2 hf⟩
    rw [St.get_eq] at ho
    by_cases hlo : o < st.length
    · rw [List.getElem?_append_left (by rw [(putBack_get (o := o)).1]; exact hlo), (putBack_get (objs := objs) (loc := loc2) (st := st) (i := 0) (o := o)).2 hlo, Option.getD_some, Nat.zero_add] at ho
      cases hren : ren 0 objs o with
      | some j =>
        rw [hren] at ho
        have hjo := ren_zero hren
        obtain ⟨s1, x1, x2, x4⟩ := fromLoc j ho
        refine .inr ⟨j, s1, fun _ => hjo, fun hh => by omega, x1, x2, ?_, x4⟩
        simp only [α2, hlo, if_true]
        rw [hto.ext j (by rw [hl]; exact hjm _ _ hjo), hβ j o hjo]
      | none =>
        rw [hren] at ho
        refine .inl ⟨hlo, fun hmem => ?_, by rw [St.get_eq]; exact ho⟩
        have hz : ∀ (l : List Nat) (i : Nat), ren.idx o l i = none → o ∉ l := by
          intro l
          induction l with
          | nil => intro i _ h; cases h
          | cons x r ih =>
            intro i h hm
            simp only [ren.idx] at h
            split at h
            · cases h
            · rename_i hne
              rcases List.mem_cons.1 hm with rfl | hm
              · simp at hne
              · exact ih _ h hm
        unfold Ev.ren at hren
        split at hren
        · cases hren
        · simp only [Option.map_eq_none_iff] at hren
          exact hz _ _ hren hmem
    · rw [List.getElem?_append_right (by rw [(putBack_get (o := o)).1]; omega), (putBack_get (o := o)).1, dropL_eq, List.getElem?_drop] at ho
      have hj : loc2.get (o - st.length + objs.length) = some so := by rw [St.get_eq, Nat.add_comm]; exact ho
      obtain ⟨s1, x1, x2, x4⟩ := fromLoc _ hj
      refine .inr ⟨_, s1, fun hh => by omega, fun _ => rfl, x1, x2, ?_, x4⟩
      simp only [α2, hlo, if_false]
  -- an object that the part does not have keeps its blocks
  have out : ∀ o so d, o ∉ objs → st.get o = some so → α o = some d → Good α2 w' d so ∧ (∀ b, Foot w' d so b → Foot w d so b) ∧ (∀ b, Ice w' d so b → Ice w d so b) ∧ ∀ b, so.lies w' d b → so.lies w d b := by
    intro o so d hno ho hd
    obtain ⟨d', x1, x2⟩ := hR.good o so ho
    rw [hd] at x1; cases x1
    have hag : ∀ b, Foot w d so b → w'.heap[b]? = w.heap[b]? := fun b hb => hto.kept b (x2.lt hb) fun hwr => by
      obtain ⟨p, s0, e, y1, y2, y3, y4, y5⟩ := wrOld _ hwr
      exact hR.sep p o s0 so e d b (fun e => hno (e ▸ y1)) y2 ho y3 hd y4 y5 hb
    obtain ⟨g1, g2⟩ := x2.kept hle hag hto.size
    exact ⟨g1, g2, fun b => Ice.congr hag, fun b => SO.lies_congr x2 hag⟩
  have footLt : ∀ o so d b, st.get o = some so → α o = some d → Foot w d so b → b < w.heap.size := by
    intro o so d b ho hd hb
    obtain ⟨d', x1, x2⟩ := hR.good o so ho
    rw [hd] at x1; cases x1
    exact x2.lt hb
  have toFs : ∀ b, b < w.heap.size → ∀ j s1 d, loc'.get j = some s1 → β1 j = some d → Foot w' d s1 b → Fs (α.ren 0 objs) loc w b := by
    intro b hbl j s1 d h1 h2 h3
    exact hto.fs hbl ⟨j, s1, d, h1, h2, h3⟩
  refine ⟨α2, hf, ⟨⟨?_, ?_, ?_, ?_, ?_⟩, ?_, ?_, ?_, ?_, ?_, ?_, hto.size, hto.tape, hto.os, hto.output⟩⟩
  · intro o so ho
    rcases key o so ho with ⟨h1, h2, h3⟩ | ⟨j, s1, h1, h2, h3, h4, h6, h7⟩
    · obtain ⟨d, x1, _⟩ := hR.good o so h3
      exact ⟨d, hle _ _ x1, (out o so d h2 h3 x1).1⟩
    · obtain ⟨d, x1, x2⟩ := hto.rep.good j s1 h3
      exact ⟨d, h6.trans x1, h7 _ _ x2⟩
  · intro o o' so so' d d' b hne ho ho' hd hd' hw hb hfb
    rcases key o so ho with ⟨h1, h2, h3⟩ | ⟨j, s1, h1, h2, h3, h4, h6, h7⟩ <;> rcases key o' so' ho' with ⟨l1, l2, l3⟩ | ⟨j', s1', l1, l2, l3, l4, l6, l7⟩
    · simp only [α2, h1, l1, if_true] at hd hd'
      exact hR.sep o o' so so' d d' b hne h3 l3 hd hd' hw ((out o so d h2 h3 hd).2.2.2 b hb) ((out o' so' d' l2 l3 hd').2.1 b hfb)
    · simp only [α2, h1, if_true] at hd
      replace hb := (out o so d h2 h3 hd).2.2.2 b hb
      have hbl := footLt o so d b h3 hd (Foot.of_own hb)
      obtain ⟨p, s0, e, y1, y2, y3, y4⟩ := fsOld b (toFs b hbl j' s1' d' l3 (l6 ▸ hd') (l4.foot _ _ _ hfb))
      exact hR.sep o p so s0 d e b (fun e => h2 (e ▸ y1)) h3 y2 hd y3 hw hb y4
    · simp only [α2, l1, if_true] at hd'
      have hfb' := (out o' so' d' l2 l3 hd').2.1 b hfb
      have hbl := footLt o' so' d' b l3 hd' hfb'
      obtain ⟨p, s0, e, y1, y2, y3, y4, y5⟩ := wrOld b (hto.wrs b hbl ⟨j, s1, d, h3, h6 ▸ hd, h4.wr.trans hw, h4.lies _ _ _ hb⟩)
      exact hR.sep p o' s0 so' e d' b (fun e => l2 (e ▸ y1)) y2 l3 y3 hd' y4 y5 hfb'
    · have hjj : j ≠ j' := by
        rintro rfl
        by_cases a1 : o < st.length <;> by_cases a2 : o' < st.length
        · have e1 := h1 a1
          rw [l1 a2] at e1
          cases e1; exact hne rfl
        · have e1 := hjm _ _ (h1 a1)
          have e2 := l2 (by omega)
          omega
        · have e1 := hjm _ _ (l1 a2)
          have e2 := h2 (by omega)
          omega
        · have e1 := h2 (by omega)
          have e2 := l2 (by omega)
          omega
      exact hto.rep.sep j j' s1 s1' d d' b hjj h3 l3 (h6 ▸ hd) (l6 ▸ hd') (h4.wr.trans hw) (h4.lies _ _ _ hb) (l4.foot _ _ _ hfb)
  · intro o so d b ho hd hw hb hib
    rcases key o so ho with ⟨h1, h2, h3⟩ | ⟨j, s1, h1, h2, h3, h4, h6, h7⟩
    · simp only [α2, h1, if_true] at hd
      exact hR.self o so d b h3 hd hw ((out o so d h2 h3 hd).2.2.2 b hb) ((out o so d h2 h3 hd).2.2.1 b hib)
    · exact hto.rep.self j s1 d b h3 (h6 ▸ hd) (h4.wr.trans hw) (h4.lies _ _ _ hb) (h4.ice _ _ _ hib)
  · intro o ho
    simp only [List.length_append, (putBack_get (objs := objs) (loc := loc2) (st := st) (i := 0) (o := 0)).1, dropL_eq, List.length_drop] at ho
    simp only [α2]
    rw [if_neg (by omega)]
    exact hto.rep.none _ (by omega)
  · intro o d hd
    simp only [α2] at hd
    split at hd
    · exact hR.cell o d hd
    · exact hto.rep.cell _ d hd
  · intro o ho; simp only [α2, ho, if_true]
  · simp only [List.length_append, (putBack_get (objs := objs) (loc := loc2) (st := st) (i := 0) (o := 0)).1]; omega
  · rintro o so d b x1 x2 hb x3
    rcases key o so x1 with ⟨h1, h2, h3⟩ | ⟨j, s1, h1, h2, h3, h4, h6, h7⟩
    · exact .inr ⟨h1, so, h3, (out o so d h2 h3 (by simp only [α2, h1, if_true] at x2; exact x2)).2.2.2 b x3⟩
    · rcases hto.lies j s1 d b h3 (h6 ▸ x2) hb (h4.lies _ _ _ x3) with h | ⟨hlt, s2, g1, g2⟩
      · obtain ⟨p, s0, e, y1, y2, y3, y4, y5⟩ := wrOld b h
        exact .inl ⟨p, s0, e, y2, y3, y4, y5⟩
      · obtain ⟨o2, s0, y1, y2, y3⟩ := locOld j s2 g1
        by_cases ho : o < st.length
        · have hjo := h1 ho
          rw [hjo] at y1; cases y1
          exact .inr ⟨ho, s0, y2, y3.lies _ _ _ g2⟩
        · have := h2 (by omega)
          rw [hl] at hlt
          omega
  · rintro o so d b x1 x2 hb x3
    rcases key o so x1 with ⟨h1, h2, h3⟩ | ⟨j, s1, h1, h2, h3, h4, h6, h7⟩
    · simp only [α2, h1, if_true] at x2
      exact .inr ⟨o, so, d, h3, x2, (out o so d h2 h3 x2).2.2.1 b x3⟩
    · rcases hto.ice j s1 d b h3 (h6 ▸ x2) hb (h4.ice _ _ _ x3) with h | h
      · obtain ⟨p, s0, e, y1, y2, y3, y4, y5⟩ := wrOld b h
        exact .inl ⟨p, s0, e, y2, y3, y4, y5⟩
      · exact .inr (isOld b h)
  · rintro b hb ⟨o, so, d, x1, x2, x3, x4⟩
    rcases key o so x1 with ⟨h1, h2, h3⟩ | ⟨j, s1, h1, h2, h3, h4, h6, h7⟩
    · simp only [α2, h1, if_true] at x2
      exact ⟨o, so, d, h3, x2, x3, (out o so d h2 h3 x2).2.2.2 b x4⟩
    · obtain ⟨p, s0, e, y1, y2, y3, y4, y5⟩ := wrOld b (hto.wrs b hb ⟨j, s1, d, h3, h6 ▸ x2, h4.wr.trans x3, h4.lies _ _ _ x4⟩)
      exact ⟨p, s0, e, y2, y3, y4, y5⟩
  · intro b hb hn
    refine hto.kept b hb fun hwr => hn ?_
    obtain ⟨p, s0, e, y1, y2, y3, y4, y5⟩ := wrOld b hwr
    exact ⟨p, s0, e, y2, y3, y4, y5⟩
theorem part_R {α : Al} {st loc : St} {w : World} {objs : List Nat} (hR : R α st w) (hnd : objs.Nodup)
    (hloc : mapO (OO.ren (ren 0 objs)) (objs.map st.get) = some loc) : R (α.ren 0 objs) loc w := by
  obtain ⟨hl, hg⟩ := mapO_get hloc
  simp only [List.length_map] at hl
  have key : ∀ (j : Nat) (s : SO), loc.get j = some s → ∃ o s0, objs[j]? = some o ∧ st.get o = some s0 ∧ Kin s0 s ∧ (α.ren 0 objs) j = α o ∧ ∀ d, Good α w d s0 → Good (α.ren 0 objs) w d s := by
    intro j s hs
    have hj := St.get_lt hs
    have hs' : loc[j]? = some (some s) := by
      rw [St.get_eq, List.getElem?_eq_getElem hj] at hs; rw [List.getElem?_eq_getElem hj]; simpa using hs
    obtain ⟨x, hx, hr⟩ := hg j _ hs'
    simp only [List.getElem?_map, Option.map_eq_some_iff] at hx
    obtain ⟨o, ho, hx⟩ := hx
    rcases OO.ren_spec hr with ⟨_, e⟩ | ⟨so, so2, e1, e2, e3, e5⟩
    · cases e
    · cases e2; exact ⟨o, so, ho, by rw [hx, e1], e3, by simp [Al.ren, ho], fun d hg => e5 α _ (fun _ _ => ren_al) w d hg⟩
  refine ⟨?_, ?_, ?_, ?_, ?_⟩
  · intro j s hs
    obtain ⟨o, s0, x1, x2, x3, x5, x6⟩ := key j s hs
    obtain ⟨d, y1, y2⟩ := hR.good o s0 x2
    exact ⟨d, x5.trans y1, x6 d y2⟩
  · intro j j' s s' d d' b hne hs hs' hd hd' hw hb hf
    obtain ⟨o, s0, x1, x2, x3, x5, x6⟩ := key j s hs
    obtain ⟨o', s0', y1, y2, y3, y5, y6⟩ := key j' s' hs'
    have : o ≠ o' := by
      rintro rfl
      obtain ⟨i1, e1⟩ := List.getElem?_eq_some_iff.1 x1
      obtain ⟨i2, e2⟩ := List.getElem?_eq_some_iff.1 y1
      exact hne ((List.getElem_inj hnd).1 (e1.trans e2.symm))
    exact hR.sep o o' s0 s0' d d' b this x2 y2 (x5 ▸ hd) (y5 ▸ hd') (x3.wr.trans hw) (x3.lies _ _ _ hb) (y3.foot _ _ _ hf)
  · intro j s d b hs hd hw hb hib
    obtain ⟨o, s0, x1, x2, x3, x5, x6⟩ := key j s hs
    exact hR.self o s0 d b x2 (x5 ▸ hd) (x3.wr.trans hw) (x3.lies _ _ _ hb) (x3.ice _ _ _ hib)
  · intro j hj
    simp only [Al.ren]
    rw [if_neg (by omega), List.getElem?_eq_none (by omega)]
  · intro j d hd
    simp only [Al.ren] at hd
    split at hd
    · exact hR.cell j d hd
    · split at hd
      · rename_i q _; exact hR.cell q d hd
      · cases hd
end Go.Ev

/- THE ENGINE, part 23: calls and code, sound. -/
namespace Go.Ev
open Go
variable {P : Program}
theorem frame0_ok {α : Al} {args : List SA} {vals : List Value} {n : Nat} (h : RepsA α args vals) : FrOk α (frame0 n args) (vals.toArray ++ Array.replicate (n - vals.toArray.size) undef) := by
  have hl := h.length
  refine ⟨by simp [frame0, hl], fun t sv ht => ?_⟩
  rw [Fr.get_eq] at ht
  unfold frame0 at ht
  by_cases c : t < args.length
  · rw [List.getElem?_append_left (by simpa using c)] at ht
    simp only [List.getElem?_map, List.getElem?_eq_getElem c, Option.map_some, Option.getD_some, Option.some.injEq] at ht
    subst ht
    obtain ⟨v, h1, h2⟩ := h.get (List.getElem?_eq_getElem c)
    refine ⟨v, ?_, h2⟩
    rw [Array.getElem?_append_left (by simp; omega)]
    simpa using h1
  · rw [List.getElem?_append_right (by simp; omega)] at ht
    simp only [repL_eq, lenL_eq, List.length_map, List.getElem?_replicate] at ht
    split at ht
    · rename_i hlt
      simp at ht
      subst ht
      refine ⟨undef, ?_, ⟨[], trivial, rfl⟩⟩
      rw [Array.getElem?_append_right (by simp; omega), Array.getElem?_replicate]
      rw [if_pos (by simp; omega)]
    · simp at ht
def resM (tmps : Array Value) (r : ResultVar) : Sem Value := match r with
  | .tmp t => pure (tmps.getD t undef)
  | .cell a t => do loadVar t (← asAddr (tmps.getD a undef))
theorem evResults_sound {w : World} {fr : Fr} {tmps : Array Value} : ∀ {rs : List ResultVar} {α : Al} {st : St} {k : List SA → St → Prop}, R α st w → FrOk α fr tmps → evResults P fr rs st k →
    ∃ l vs α' st', k l st' ∧ To α st w α' st' w ∧ RepsA α' l vs ∧ (rs.mapM (resM tmps)).run P w = .ok vs w
  | [], α, st, k, hR, hf, h => ⟨[], [], α, st, h, To.refl hR, trivial, by simp⟩
  | .tmp t :: r, α, st, k, hR, hf, h => by
    simp only [evResults] at h
    split at h
    · rename_i a ha
      obtain ⟨l, vs, α', st', h1, h4, h2, h3⟩ := evResults_sound hR hf h
      obtain ⟨v, x1, x2⟩ := hf.2 t _ ha
      refine ⟨a :: l, v :: vs, α', st', h1, h4, ⟨SA.rep_mono (h4.le hR) x2, h2⟩, ?_⟩
      simp [List.mapM_cons, resM, h3, x1]
    · exact h.elim
  | .cell t T :: r, α, st, k, hR, hf, h => by
    simp only [evResults] at h
    split at h
    · rename_i a ha
      obtain ⟨v, x1, x2⟩ := hf.2 t _ ha
      obtain ⟨sv, u, α1, st1, y1, y2, y3, y4⟩ := evLoad_sound hR x2 h
      split at y3
      · rename_i b
        obtain ⟨l, vs, α', st', h1, h4, h2, h3⟩ := evResults_sound y4.rep (hf.mono (y4.le hR)) y3
        refine ⟨b :: l, u :: vs, α', st', h1, y4.trans h4, ⟨SA.rep_mono (h4.le y4.rep) y2, h2⟩, ?_⟩
        have hload : (do loadVar T (← asAddr v) : Sem Value).run P w = .ok u w := by
          unfold Instr.loadAt at y1
          cases v <;> first | (simp [Instr.sureAddr, stuck] at y1; done) | skip
          rename_i p
          cases p with
          | none => simp [Instr.sureAddr, stuck] at y1
          | some p => simpa [Instr.sureAddr, asAddr] using y1
        simp only [List.mapM_cons, resM, Sem.run_bind, x1, Array.getD_eq_getD_getElem?, Option.getD_some]
        simp only [Sem.run_bind] at hload
        rw [hload]
        simp [h3]
      · exact y3.elim
    · exact h.elim
theorem results_run {fn : Func} {tmps : Array Value} {vs : List Value} {w : World} (h : (fn.results.toList.mapM (resM tmps)).run P w = .ok vs w) :
    (results fn tmps).run P w = .ok (if h : vs.toArray.size = 1 then vs.toArray[0] else .tuple vs.toArray) w := by
  have : (fn.results.mapM (resM tmps)).run P w = .ok vs.toArray w := by
    rw [Array.mapM_eq_mapM_toList]
    simp only [Sem.run_map, h, Result.andThen_ok]
  have e : results fn tmps = (do let vs ← fn.results.mapM (resM tmps); pure (if h : vs.size = 1 then vs[0] else .tuple vs)) := by
    unfold results
    congr 1
  rw [e, Sem.run_bind, this]
  rfl
theorem resultV_rep {α : Al} {l : List SA} {vs : List Value} (h : RepsA α l vs) : SV.rep α (resultV l) (if h : vs.toArray.size = 1 then vs.toArray[0] else .tuple vs.toArray) := by
  match l, vs, h with
  | [], [], _ => exact ⟨[], trivial, rfl⟩
  | [a], [v], h => exact h.1
  | a :: b :: r, v :: u :: us, h =>
    refine ⟨v :: u :: us, h, ?_⟩
    rw [dif_neg (by simp)]
  | [a], [], h => exact h.elim
  | [a], v :: u :: us, h => exact h.2.elim
  | a :: b :: r, [v], h => exact h.2.elim
def MarksOk (w0 : World) (α : Al) (st : St) (w : World) (ds : List Deferred) : Prop :=
  ∃ ms : List Nat, ms.Nodup ∧ ds = ms.map (fun b => ({ target := .collected b, args := #[] } : Deferred)) ∧
    ∀ b ∈ ms, w0.heap.size ≤ b ∧ w.heap[b]? = some (.deferred (some [])) ∧ ∀ o so d, st.get o = some so → α o = some d → ¬ Foot w d so b
theorem MarksOk.nil (w0 : World) (α : Al) (st : St) (w : World) : MarksOk w0 α st w [] := ⟨[], List.nodup_nil, rfl, fun _ h => by cases h⟩
theorem mark_apart {α α' : Al} {st st' : St} {w w' : World} (h : To α st w α' st' w') {b : Nat} (hb : b < w.heap.size) (hn : ∀ o so d, st.get o = some so → α o = some d → ¬ Foot w d so b) :
    ∀ o so d, st'.get o = some so → α' o = some d → ¬ Foot w' d so b := by
  intro o so d ho hd hf
  obtain ⟨o2, so2, d2, y1, y2, y3⟩ := h.fs hb ⟨o, so, d, ho, hd, hf⟩
  exact hn o2 so2 d2 y1 y2 y3
theorem MarksOk.to {w0 : World} {α α' : Al} {st st' : St} {w w' : World} {ds : List Deferred} (hm : MarksOk w0 α st w ds) (h : To α st w α' st' w') : MarksOk w0 α' st' w' ds := by
  obtain ⟨ms, h1, h2, h3⟩ := hm
  refine ⟨ms, h1, h2, fun b hb => ?_⟩
  obtain ⟨x1, x2, x3⟩ := h3 b hb
  have hlt : b < w.heap.size := (Array.getElem?_eq_some_iff.1 x2).1
  refine ⟨x1, (h.kept b hlt ?_).trans x2, mark_apart h hlt x3⟩
  rintro ⟨o, so, d, y1, y2, y3, y4⟩
  exact x3 o so d y1 y2 (Foot.of_own y4)
theorem MarksOk.src {w0 w : World} {α α' : Al} {st st' : St} {ds : List Deferred} (hm : MarksOk w0 α st w ds)
    (h : ∀ b, b < w.heap.size → Fs α' st' w b → Fs α st w b) : MarksOk w0 α' st' w ds := by
  obtain ⟨ms, h1, h2, h3⟩ := hm
  refine ⟨ms, h1, h2, fun b hb => ⟨(h3 b hb).1, (h3 b hb).2.1, fun o so d ho hd hf => ?_⟩⟩
  have hlt : b < w.heap.size := (Array.getElem?_eq_some_iff.1 (h3 b hb).2.1).1
  obtain ⟨p, so0, d0, x1, x2, x3⟩ := h b hlt ⟨o, so, d, ho, hd, hf⟩
  exact (h3 b hb).2.2 p so0 d0 x1 x2 x3
theorem To.shut {α α' : Al} {st st' : St} {w w' : World} (h : To α st w α' st' w') {b : Nat} {o : Obj} (hb : w.heap.size ≤ b) (hn : ∀ o so d, st'.get o = some so → α' o = some d → ¬ Foot w' d so b) :
    To α st w α' st' (w'.putObj b o) := by
  have hk : ∀ k, k ≠ b → (w'.putObj b o).heap[k]? = w'.heap[k]? := fun k hk => World.putObj_heap_other hk
  have key : ∀ x so d, st'.get x = some so → α' x = some d → Good α' (w'.putObj b o) d so ∧ (∀ c, Foot (w'.putObj b o) d so c → Foot w' d so c) ∧ (∀ c, Ice (w'.putObj b o) d so c → Ice w' d so c) ∧ ∀ c, so.lies (w'.putObj b o) d c → so.lies w' d c := fun x so d hx hd => by
    obtain ⟨d', h1, h2⟩ := h.rep.good x so hx
    rw [hd] at h1; cases h1
    have hag : ∀ c, Foot w' d so c → (w'.putObj b o).heap[c]? = w'.heap[c]? := fun c hc => hk c (by rintro rfl; exact hn x so d hx hd hc)
    obtain ⟨g1, g2⟩ := h2.kept (Al.le.refl _) hag (by rw [World.putObj_size]; exact Nat.le_refl _)
    exact ⟨g1, g2, fun c => Ice.congr hag, fun c => SO.lies_congr h2 hag⟩
  refine ⟨⟨fun x so hx => ?_, fun x x' so so' d d' c hne hx hx' hd hd' hw hl hf => h.rep.sep x x' so so' d d' c hne hx hx' hd hd' hw ((key x so d hx hd).2.2.2 c hl) ((key x' so' d' hx' hd').2.1 c hf),
    fun x so d c hx hd hw hl hi => h.rep.self x so d c hx hd hw ((key x so d hx hd).2.2.2 c hl) ((key x so d hx hd).2.2.1 c hi), h.rep.none, h.rep.cell⟩, h.ext, h.len,
    fun x so d c hx hd hc hf => h.lies x so d c hx hd hc ((key x so d hx hd).2.2.2 c hf), fun x so d c hx hd hc hf => h.ice x so d c hx hd hc ((key x so d hx hd).2.2.1 c hf), fun c hc ⟨x, so, d, x1, x2, x3, x4⟩ => h.wrs c hc ⟨x, so, d, x1, x2, x3, (key x so d x1 x2).2.2.2 c x4⟩, fun k hkl hkn => ?_, by rw [World.putObj_size]; exact h.size, ⟨h.tape.tape, h.tape.drawn⟩, h.os, h.output⟩
  · obtain ⟨d, h1, _⟩ := h.rep.good x so hx
    exact ⟨d, h1, (key x so d hx h1).1⟩
  · rw [hk k (by omega)]; exact h.kept k hkl hkn
def AfterX (α : Al) (st : St) (w : World) (k : Exit → Fr → St → Prop) (N : Exit → Act → World → Prop) : Prop :=
  ∀ ex fr' st' α' a' w', k ex fr' st' → FrOk α' fr' a'.tmps → To α st w α' st' w' → MarksOk w α' st' w' a'.defers → N ex a' w'
def SumOk (P : Program) (g : FuncId) (s : List SA → St → (SV → St → Prop) → Prop) : Prop :=
  ∀ args st, Lin (s args st) ∧ ∀ k, s args st k → ∀ α w vals, R α st w → RepsA α args vals → CallsIn Fence.wide 0 P g vals.toArray w (CallPost α st w k)
theorem onPart_sound {g : FuncId} {s : List SA → St → (SV → St → Prop) → Prop} (hs : SumOk P g s) {args : List SA} {st : St} {k : SV → St → Prop} (h : onPart s args st k)
    {α : Al} {w : World} {vals : List Value} (hR : R α st w) (ha : RepsA α args vals) : CallsIn Fence.wide 0 P g vals.toArray w (CallPost α st w k) := by
  unfold onPart at h
  obtain ⟨hnd, hlt⟩ := reachAll_spec (st := st) (n := 10000) (work := refsA args) (acc := []) (by simp) (by simp)
  generalize reachAll st 10000 (refsA args) [] = objs at h hnd hlt
  simp only [lenL_eq] at h
  split at h
  · rename_i args' loc h1 h2
    refine ((hs args' loc).2 _ h _ w vals (part_R hR hnd h2) (RepsA.ren (fun _ _ => ren_al) h1 ha)).mono fun e w' ⟨v, loc', β1, val, he, hv, hk, hto⟩ => ?_
    dsimp only at hk
    split at hk
    · rename_i v' loc2 h3 h4
      obtain ⟨α2, x1, x2⟩ := part_sound hR hnd hlt h2 hto h4
      exact ⟨v', _, α2, val, he, SV.ren_rep x1 h3 hv, hk, x2⟩
    · exact hk.elim
  · exact h.elim
def HandPost (α : Al) (st : St) (w : World) (h : Hand) (a : Act) (k : SV → St → Prop) (ex : Exit) (a' : Act) (w' : World) : Prop :=
  ex = .normal ∧ a'.defers = a.defers ∧ a'.tmps.size = a.tmps.size ∧ (∀ t ∈ h.live, a'.tmps[t]? = a.tmps[t]?) ∧
  ∃ l st' α' vs, h.outs.map (fun t => a'.tmps[t]?) = vs.map some ∧ RepsA α' l vs ∧ k (.tup l) st' ∧ To α st w α' st' w'
def HandOk (P : Program) (f : FuncId) (h : Hand) : Prop :=
  ∀ args st, Lin (h.s args st) ∧ ∀ k, h.s args st k → ∀ α w vals a r, (f < big → r = none) → a.tmps.size = h.n → R α st w → RepsA α args vals → h.ins.map (fun t => a.tmps[t]?) = vals.map some →
    (codeAt P (unbig f) h.way).wpIn (Wide r) 0 P (HandPost α st w h a k) a w
theorem keepL_in {live : List Nat} : ∀ {fr : Fr} {i t : Nat} {sv : SV}, (keepL live i fr).get t = some sv → i + t ∈ live
  | [], i, t, sv, h => by simp [keepL, Fr.get, getL] at h
  | x :: r, i, t, sv, h => by
    cases t with
    | zero =>
      simp only [Fr.get, keepL, getL] at h
      split at h
      · rename_i hb; exact hasN_iff.1 hb
      · cases h
    | succ t =>
      have := keepL_in (fr := r) (i := i + 1) (t := t) h
      rw [show i + (t + 1) = i + 1 + t from by omega]; exact this
theorem Lin.weak {F : (SV → St → Prop) → Prop} (h : Lin F) {k k2 : SV → St → Prop} (hk : F k) (hw : ∀ v s, k v s → k2 v s) : F k2 := by
  obtain ⟨v, s, h1, h2⟩ := h k hk
  exact h2 k2 (hw v s h1)
theorem slotsOf_ok {α : Al} {fr : Fr} {tmps : Array Value} (hf : FrOk α fr tmps) : ∀ {ts : List Nat} {args : List SA}, slotsOf fr ts = some args → ∃ vals, RepsA α args vals ∧ ts.map (fun t => tmps[t]?) = vals.map some
  | [], args, h => by simp only [slotsOf, Option.some.injEq] at h; subst h; exact ⟨[], trivial, rfl⟩
  | t :: r, args, h => by
    simp only [slotsOf] at h
    split at h
    · rename_i a l h1 h2
      cases h
      obtain ⟨vals, g1, g2⟩ := slotsOf_ok hf h2
      obtain ⟨v, v1, v2⟩ := hf.2 t _ h1
      exact ⟨v :: vals, ⟨v2, g1⟩, by simp [v1, g2]⟩
    · cases h
theorem setPs_slots {α : Al} {tmps : Array Value} : ∀ {ps : List Nat} {l : List SA} {vs : List Value} {fr fr' : Fr}, setPs fr ps l = some fr' → RepsA α l vs → ps.map (fun t => tmps[t]?) = vs.map some → FrOk α fr tmps → FrOk α fr' tmps
  | [], [], vs, fr, fr', h, ha, hs, hf => by simp [setPs] at h; subst h; exact hf
  | p :: ps, x :: xs, vs, fr, fr', h, ha, hs, hf => by
    cases vs with
    | nil => exact ha.elim
    | cons v vs =>
      simp only [List.map_cons, List.cons.injEq] at hs
      simp only [setPs] at h
      exact setPs_slots h ha.2 hs.2 (hf.say hs.1 (sv := .sa x) ha.1)
  | [], _ :: _, vs, fr, fr', h, ha, hs, hf => by simp [setPs] at h
  | _ :: _, [], vs, fr, fr', h, ha, hs, hf => by simp [setPs] at h
theorem evHand_sound {f : FuncId} {h : Hand} (hh : HandOk P f h) {c : Code} {fr : Fr} {st : St} {k : Fr → St → Prop} (hk : evHand P f h c fr st k) {α : Al} {a : Act} {w : World} (r : Option Nat) (hfr : f < big → r = none) (hR : R α st w) (hf : FrOk α fr a.tmps) :
    c.wpIn (Wide r) 0 P (fun ex a' w' => ex = .normal ∧ a'.defers = a.defers ∧ ∃ fr' st' α', k fr' st' ∧ FrOk α' fr' a'.tmps ∧ To α st w α' st' w') a w := by
  unfold evHand at hk
  split at hk
  case h_2 => exact hk.elim
  rename_i hlen
  have hlen := Nat.eq_of_beq_eq_true hlen
  rw [lenL_eq, hf.1] at hlen
  split at hk
  · rename_i args hs
    obtain ⟨vals, ha, hv⟩ := slotsOf_ok hf hs
    obtain ⟨hc, hk⟩ := hk
    subst hc
    unfold onPart at hk
    obtain ⟨hnd, hlt⟩ := reachAll_spec (st := st) (n := 10000) (work := refsA args) (acc := []) (by simp) (by simp)
    generalize reachAll st 10000 (refsA args) [] = objs at hk hnd hlt
    simp only [lenL_eq] at hk
    split at hk
    · rename_i args' loc h1 h2
      refine wpIn_mono ((hh args' loc).2 _ hk _ w vals a r hfr hlen (part_R hR hnd h2) (RepsA.ren (fun _ _ => ren_al) h1 ha) hv) fun ex a' w' ⟨he, hd, hsz, hl, l, loc', β1, vs, ho, hrep, hk, hto⟩ => ?_
      dsimp only at hk
      split at hk
      · rename_i v' loc2 h3 h4
        obtain ⟨α2, x1, x2⟩ := part_sound hR hnd hlt h2 hto h4
        unfold kHand at hk
        simp only [SV.ren, Option.map_eq_some_iff] at h3
        obtain ⟨l', h3, rfl⟩ := h3
        dsimp only at hk
        split at hk
        · rename_i fr' h5
          refine ⟨he, hd, fr', _, α2, hk, setPs_slots h5 (RepsA.ren x1 h3 hrep) ho ?_, x2⟩
          obtain ⟨k1, k2⟩ := keepL_get (live := h.live) (fr := fr) (i := 0)
          refine ⟨by rw [k1, hsz]; exact hf.1, fun t sv ht => ?_⟩
          obtain ⟨u, u1, u2⟩ := hf.2 t sv (k2 t sv ht)
          have hin := keepL_in ht
          rw [Nat.zero_add] at hin
          exact ⟨u, by rw [hl t hin]; exact u1, SV.rep_mono (x2.le hR) u2⟩
        · exact hk.elim
      · exact hk.elim
    · exact hk.elim
  · exact hk.elim
structure CxOk (P : Program) (cx : Cx) : Prop where
  prog : cx.P = P
  names : NamesOk P
  mixed : P.follows .mixedOrders = true
  sum : ∀ g s, cx.sum g = some s → SumOk P g s
  ovl : ∀ g, cx.ovl g = true → OvlFn P g
  hand : ∀ f i h, cx.hand f i = some h → HandOk P f h
theorem CxOk.ops {P : Program} {cx : Cx} (hx : CxOk P cx) : OpsOk P cx := ⟨hx.names, hx.ovl⟩
def RunOk (P : Program) (run : RunT) : Prop :=
  ∀ {f : FuncId} {c : Code} {fr : Fr} {st : St} {k : Exit → Fr → St → Prop} {r : Option Nat} {Q : Exit → Act → World → Prop} {α0 α : Al} {st0 : St} {a : Act} {w0 w : World},
    (f < big → r = none) → To α0 st0 w0 α st w → FrOk α fr a.tmps → MarksOk w0 α st w a.defers → run st0.length f c fr st k → AfterX α0 st0 w0 k Q → c.wpIn (Wide r) 0 P Q a w
theorem leaves_marks {fn : Func} {tmps : Array Value} {R : Ending → World → Prop} {w0 : World} {α0 α : Al} {st0 st : St} : ∀ (ms : List Nat) (w : World), ms.Nodup → To α0 st0 w0 α st w →
    (∀ b ∈ ms, w0.heap.size ≤ b ∧ w.heap[b]? = some (.deferred (some [])) ∧ ∀ o so d, st.get o = some so → α o = some d → ¬ Foot w d so b) →
    (∀ w', To α0 st0 w0 α st w' → ∃ v, (results fn tmps).run P w' = .ok v w' ∧ R (.returned v) w') →
    LeavesInM Fence.wide 0 P fn tmps R (ms.map fun b => ({ target := .collected b, args := #[] } : Deferred)) .returning w
  | [], w, _, hto, _, hk => by
    exact hk w hto
  | b :: r, w, hnd, hto, hm, hk => by
    obtain ⟨x1, x2, x3⟩ := hm b (by simp)
    rw [List.nodup_cons] at hnd
    refine ⟨by simp, .inl ⟨b, _, rfl, run_takeDeferred x2, ?_⟩⟩
    refine leaves_marks r _ hnd.2 (hto.shut x1 x3) (fun b' hb' => ?_) hk
    obtain ⟨y1, y2, y3⟩ := hm b' (by simp [hb'])
    refine ⟨y1, by rw [World.putObj_heap_other (by rintro rfl; exact hnd.1 hb')]; exact y2, fun o so d ho hd hf => ?_⟩
    obtain ⟨d', g1, g2⟩ := hto.rep.good o so ho
    rw [hd] at g1; cases g1
    exact y3 o so d ho hd ((g2.kept (Al.le.refl _) (fun c hc => World.putObj_heap_other (by rintro rfl; exact x3 o so d ho hd hc)) (by rw [World.putObj_size]; exact Nat.le_refl _)).2 b' hf)
theorem setPs_ok {α : Al} : ∀ {ps : List Nat} {args : List SA} {vals : List Value} {fr fr' : Fr} {tmps : Array Value}, setPs fr ps args = some fr' → RepsA α args vals → FrOk α fr tmps →
    ps.length = vals.length ∧ FrOk α fr' ((ps.zip vals).foldl (fun tmps (t, a) => tmps.setIfInBounds t a) tmps)
  | [], [], vals, fr, fr', tmps, h, ha, hf => by
    cases vals with
    | nil => simp [setPs] at h; subst h; exact ⟨rfl, hf⟩
    | cons _ _ => exact ha.elim
  | p :: ps, x :: xs, vals, fr, fr', tmps, h, ha, hf => by
    cases vals with
    | nil => exact ha.elim
    | cons v vs =>
      simp only [setPs] at h
      have := setPs_ok h ha.2 (tmps := tmps.setIfInBounds p v) (by
        have := FrOk.put (a := ⟨tmps, []⟩) (d := some p) (sv := .sa x) hf ha.1
        simpa [Fr.put, Act.put] using this)
      exact ⟨by simp [this.1], this.2⟩
  | [], _ :: _, vals, fr, fr', tmps, h, ha, hf => by simp [setPs] at h
  | _ :: _, [], vals, fr, fr', tmps, h, ha, hf => by simp [setPs] at h
theorem To.record {α : Al} {st : St} {w : World} (hR : R α st w) {q f : Nat} {fr : Fr} {ps : List Nat} {a b : Code} {s s' : Nat} {j j' : Option Code} {d : Den} {l : Loop}
    (hq : st.get q = some (.lp true f fr ps a b s j)) (hd : α q = some d) (hl : w.heap[d.blk]? = some (.loop l)) :
    To α st w α (st.put q (some (.lp true f fr ps a b s' j'))) (w.putObj d.blk (.loop { l with state := stOf s', pending := j' })) := by
  obtain ⟨d', hd', hval, l', hl', h1, h2, h3, h4, h5, h6⟩ := hR.good q _ hq
  rw [hd] at hd'; cases hd'
  rw [hl] at hl'; cases hl'
  exact To.upd hR hq hd rfl World.putObj_size (fun b hb => World.putObj_heap_other hb) (.of rfl rfl) rfl rfl ⟨hval, _, World.putObj_heap_same (Array.getElem?_eq_some_iff.1 hl).1, h1, h2, h3, h4, rfl, rfl⟩ (fun _ h => h) (fun _ h => h.elim) (fun _ _ _ h => h.elim)
theorem evRound_ok {run : RunT} (hr : RunOk P run) {q : Nat} {args : List SA} {st : St} {k : SV → St → Prop} (h : evRound run q args st k) {α : Al} {w : World} {vals : List Value} (r : Option Nat)
    (hR : R α st w) (ha : RepsA α args vals) : ∃ d l, α q = some d ∧ d.val = .func (.yield d.blk) #[] #[] ∧ w.heap[d.blk]? = some (.loop l) ∧
    vals.length = l.params.size ∧
    RoundIn (Wide r) 0 P d.blk l.fn ((l.params.zip vals.toArray).foldl (fun tmps (t, a) => tmps.setIfInBounds t a) l.tmps) l.assign l.body w (CallPost α st w k) := by
  unfold evRound at h
  split at h
  · rename_i f fr ps a b j hq
    obtain ⟨fr1, hps, h⟩ := opt_iff.1 h
    obtain ⟨d, hd, hval, l, hl, h1, h2, h3, h4, h5, h6⟩ := hR.good q _ hq
    obtain ⟨k1, k2⟩ := setPs_ok hps ha h1
    refine ⟨d, l, hd, hval, hl, by rw [h2]; simp [k1], ?_⟩
    rw [h2, h3, h4]
    have hfold : (ps.toArray.zip vals.toArray).foldl (fun tmps (t, a) => tmps.setIfInBounds t a) l.tmps = (ps.zip vals).foldl (fun tmps (t, a) => tmps.setIfInBounds t a) l.tmps := by
      rw [← Array.foldl_toList]; simp
    rw [hfold]
    refine roundIn_of_wpIn trivial ?_
    refine hr (r := some d.blk) (fun hb => absurd hb (Nat.not_lt.2 (Nat.le_add_left _ _))) (To.refl hR) k2 (MarksOk.nil _ _ _ _) (by rw [lenL_eq] at h; exact h) ?_
    intro ex fr' st' α' a' w' hk hf' hto hm
    unfold kAssign at hk
    split at hk
    · split at hk
      · rename_i f2 fr2 ps2 a2 b2 j2 hq2
        obtain ⟨d2, hd2, hval2, l2, hl2, g1, g2, g3, g4, g5, g6⟩ := hto.rep.good q _ hq2
        have hqlt := St.get_lt hq
        rw [hto.ext q hqlt, hd] at hd2; cases hd2
        have hdd : α' q = some d := by rw [hto.ext q hqlt]; exact hd
        subst g6
        refine ⟨_, run_beginRound hl2 g5, ?_⟩
        have hrec := To.record (s' := 1) (j' := l2.pending) hto.rep hq2 hdd hl2
        have hto2 := hto.trans hrec
        refine hr (r := some d.blk) (fun hb => absurd hb (Nat.not_lt.2 (Nat.le_add_left _ _))) hto2 (hf'.mono (hrec.le hto.rep)) (hm.to hrec) hk ?_
        intro ex fr3 st3 α3 a3 w3 hk3 hf3 hto3 hm3
        have hd3 : α3 q = some d := by rw [hto3.ext q hqlt]; exact hd
        have fin : ∀ jm : Option Code, endRound q st.length jm st3 k → ∃ v w4, (Instr.endRound d.blk jm).run P w3 = .ok v w4 ∧ CallPost α st w k (.returned v) w4 := by
          intro jm he
          unfold endRound at he
          split at he
          · rename_i f4 fr4 ps4 a4 b4 j4 hq4
            obtain ⟨d4, hd4, hval4, l4, hl4, _⟩ := hto3.rep.good q _ hq4
            rw [hd3] at hd4; cases hd4
            have hrec4 := To.record (s' := stAfter (noneB jm)) (j' := jm) hto3.rep hq4 hd3 hl4
            have he2 := run_endRound (P := P) jm hl4
            have hst : (if jm.isNone then LoopState.ready else LoopState.done) = stOf (stAfter (noneB jm)) := by cases jm <;> rfl
            have hbn : jm.isNone = noneB jm := by cases jm <;> rfl
            rw [hst, hbn] at he2
            obtain ⟨α5, v', st5, x1, x2, x3⟩ := collect_sound (hto3.trans hrec4) (v := .sa (.one (.raw (.bool (noneB jm))))) (val := .bool (noneB jm)) rfl he
            exact ⟨_, _, he2, v', st5, α5, _, rfl, x2, x1, x3⟩
          · exact he.elim
        cases ex with
        | normal => exact fin none hk3
        | ret => exact fin (some .ret) hk3
        | exit id => exact fin (some (.exit id)) hk3
        | goto _ => exact hk3.elim
        | panic _ => exact hk3.elim
        | outgrown => exact hk3.elim
      · exact hk.elim
    · exact hk.elim
  · exact h.elim
theorem evCall_ok {cx : Cx} (hx : CxOk P cx) {run : RunT} (hr : RunOk P run) : CallOk P (evCall cx run) := by
  refine ⟨fun g args st k hg h => ?_, fun q args st k h α w vals r hR ha => ?_⟩
  · unfold evCall at h
    rw [show Nat.blt g big = true from Nat.ble_eq_true_of_le hg] at h
    dsimp only at h
    split at h
    · rename_i fn hfn
      split at h
      · rename_i c hc
        rw [hx.prog] at hfn h
        refine ⟨⟨fn, c, hfn, hc⟩, fun α w vals hR ha => ?_⟩
        split at h
        · rename_i s hs
          exact onPart_sound (hx.sum g s hs) h hR ha
        · rw [lenL_eq] at h
          refine callsIn_of_wp_marks hfn hc trivial ?_
          refine hr (r := none) (a := { tmps := vals.toArray ++ Array.replicate (fn.ntmps - vals.toArray.size) undef, defers := [] }) (fun _ => rfl) (To.refl hR) (frame0_ok ha) (MarksOk.nil _ _ _ _) h fun ex fr' st' α' a' w' hk hf hto hm => ?_
          have fin : evResults P fr' fn.results.toList st' (fun l st'' => collect st.length (resultV l) st'' k) → LeavesInM Fence.wide 0 P fn a'.tmps (CallPost α st w k) a'.defers .returning w' := by
            intro h
            obtain ⟨ms, m1, m2, m3⟩ := hm
            rw [m2]
            refine leaves_marks ms w' m1 hto m3 fun w'' hto' => ?_
            obtain ⟨l, vs, αr, str, h1, h4, h2, h3⟩ := evResults_sound hto'.rep hf h
            obtain ⟨α2, v', st2, x1, x2, x3⟩ := collect_sound (hto'.trans h4) (resultV_rep h2) h1
            exact ⟨_, results_run h3, v', st2, α2, _, rfl, x2, x1, x3⟩
          cases ex with
          | normal => exact fin hk
          | ret => exact fin hk
          | exit _ => exact hk.elim
          | goto _ => exact hk.elim
          | panic _ => exact hk.elim
          | outgrown => exact hk.elim
      · exact h.elim
    · exact h.elim
  · unfold evCall at h
    rw [show Nat.blt (big + q) big = false from Bool.eq_false_iff.2 fun hh => by have := Nat.le_of_ble_eq_true hh; omega] at h
    dsimp only at h
    rw [Nat.add_sub_cancel_left] at h
    exact evRound_ok hr h r hR ha
end Go.Ev
