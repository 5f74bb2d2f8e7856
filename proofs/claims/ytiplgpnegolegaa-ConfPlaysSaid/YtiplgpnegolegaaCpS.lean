/- ConfPlays: the loop over the calls, the run. No conditions. -/
import Derived.Test.YtiplgpnegolegaaCpT0
import Derived.Test.YtiplgpnegolegaaCpT1
import Derived.Test.YtiplgpnegolegaaCpF
import Derived.Test.YtiplgpnegolegaaCpB0
import Derived.Test.YtiplgpnegolegaaCpB1
import Derived.Test.YtiplgpnegolegaaCdS
import Derived.Test.YtiplgpnegolegaaSlS
set_option linter.unusedVariables false
set_option linter.unusedSimpArgs false
set_option maxHeartbeats 4000000
set_option maxRecDepth 100000
namespace Go.Spec
open Go Go.Ev
theorem okUs_iff {xs : List Int} : okUs xs = true ↔ ∀ x ∈ xs, 0 ≤ x := by
  unfold okUs okU
  rw [List.all_eq_true]
  exact ⟨fun h x hx => of_decide_eq_true (h x hx), fun h x hx => decide_eq_true (h x hx)⟩
theorem okUs_doL {f : Int} {xs : List Int} {kd ad : Int} (h : okUs xs = true) (ha : 0 ≤ ad) : okUs (doL f xs kd ad) = true := by
  rw [okUs_iff] at h ⊢
  intro x hx
  unfold doL doF at hx
  repeat' split at hx
  all_goals simp only [List.not_mem_nil, insL, delL, List.mem_append, List.mem_cons] at hx
  all_goals first
    | exact h x hx
    | (rcases hx with hx | rfl | hx
       · exact h x (List.mem_of_mem_take hx)
       · exact ha
       · exact h x (List.mem_of_mem_drop hx))
    | (rcases hx with hx | hx
       · exact h x (List.mem_of_mem_take hx)
       · exact h x (List.mem_of_mem_drop hx))
end Go.Spec
namespace Go.Ev
open Go Go.Proofs Go.Spec
theorem u32r (a b : Int) : 0 ≤ addK .u32 a b ∧ addK .u32 a b < 4294967296 := by rw [addK_eq, IntKind.wrap_u32]; omega
theorem n1_iff {N ex : Int} (h1 : 0 ≤ N ∧ N < 4294967296) (h2 : 0 ≤ ex ∧ ex < 4294967296) : addK .u32 N 1 = ex ↔ N = subK .u32 ex 1 := by
  rw [addK_eq, IntKind.wrap_u32, subK_eq, IntKind.wrap_u32]; omega
theorem ncase {N ex : Int} (h1 : 0 ≤ N ∧ N < 4294967296) (h2 : 0 ≤ ex ∧ ex < 4294967296) : (N = ex ∧ addK .u32 N 1 ≠ ex ∧ N ≠ subK .u32 ex 1) ∨ (N ≠ ex ∧ addK .u32 N 1 = ex ∧ N = subK .u32 ex 1) ∨ (N ≠ ex ∧ addK .u32 N 1 ≠ ex ∧ N ≠ subK .u32 ex 1) := by
  rw [addK_eq, IntKind.wrap_u32, subK_eq, IntKind.wrap_u32]; omega
theorem bycase {un b : Int} (h1 : 0 ≤ un ∧ un < 4294967296) (h2 : 0 ≤ b ∧ b < 4294967296) : (b = 0 ∧ addK .u32 un b = un ∧ subK .u32 un (addK .u32 un b) = 0) ∨ (b ≠ 0 ∧ addK .u32 un b ≠ un ∧ subK .u32 un (addK .u32 un b) ≠ 0) := by
  rw [addK_eq, IntKind.wrap_u32, subK_eq, IntKind.wrap_u32]; omega
theorem subadd {ex : Int} (h2 : 0 ≤ ex ∧ ex < 4294967296) : subK .u32 (addK .u32 ex 1) 1 = ex := by
  rw [addK_eq, IntKind.wrap_u32, subK_eq, IntKind.wrap_u32]; omega
theorem eqs (x : Int) : eqK x x = true := eqK_t.2 rfl
theorem bnt {c : Bool} {a b : Prop} (h : c = true) (hb : b) : branch (Bool.not c) a b := br (fun e => by rw [h] at e; cases e) (fun _ => hb)
theorem bnn {x y : Int} {a b : Prop} (h : x ≠ y) (ha : a) : branch (Bool.not (eqK x y)) a b := br (fun _ => ha) (fun e => by rw [eqK_f.2 h] at e; cases e)
theorem bnz {x y : Int} {a b : Prop} (h : x = y) (hb : b) : branch (Bool.not (eqK x y)) a b := bnt (eqK_t.2 h) hb
theorem bsm {f : Int} {xs : List Int} {a b : Prop} (hb : b) : branch (Bool.not (sameB f f xs xs)) a b := bnt (by unfold sameB; rw [eqs, decide_eq_true rfl]; rfl) hb
theorem bhh {x : Bool} {a b : Prop} (hb : b) : branch (Bool.not (x == x)) a b := bnt (by simp) hb
attribute [local irreducible] ev evCall branch need again eqK addK subK doE doA doL hasL sameB okUs mayB mayR
theorem kcase4 (K : Int) (h : 0 ≤ K) : K = 0 ∨ K = 1 ∨ K = 2 ∨ ∃ m : Nat, K = ((m + 3 : Nat) : Int) := by
  by_cases h0 : K = 0
  · exact .inl h0
  · by_cases h1 : K = 1
    · exact .inr (.inl h1)
    · by_cases h2 : K = 2
      · exact .inr (.inr (.inl h2))
      · exact .inr (.inr (.inr ⟨(K - 3).toNat, by omega⟩))
def InvP (r : Bool) (nx un ex uk ua rn ra : Int) (os ps : List Int) : Prop :=
  okUs os = true ∧ okUs ps = true ∧ os.length ≤ 1000000 ∧ ps.length ≤ 1000000 ∧ 0 ≤ uk ∧ 0 ≤ ua ∧ (0 ≤ ex ∧ ex < 4294967296) ∧ (0 ≤ nx ∧ nx < 4294967296) ∧ (0 ≤ un ∧ un < 4294967296) ∧ (r = true → rn = subK .u32 ex 1 ∧ 1 ≤ ra)
structure Heads (L M n : Nat) (xs ys ks cs ds bs zs : List Int) (k : SV → St → Prop) (i : Int) : Prop where
  h00 : ∀ (fo fp nx ex un uk ua : Int) (os ps : List Int), InvP false nx un ex uk ua 0 0 os ps → cpH00 L M n xs ys ks cs ds bs zs k nx ex 0 false i fo fp os ps nx ex fo os fp ps un uk ua
  h01 : ∀ (fo fp nx ex un uk ua rn ra : Int) (os ps : List Int), InvP true nx un ex uk ua rn ra os ps → cpH01 L M n xs ys ks cs ds bs zs k nx ex ra false i fo fp os ps nx ex rn ra fo os fp ps un uk ua
  h10 : ∀ (fo fp nx ex un uk ua : Int) (os ps : List Int), InvP false nx un ex uk ua 0 0 os ps → cpH10 L M n xs ys ks cs ds bs zs k nx ex 0 true i fo fp os ps nx un uk ua ex fo os fp ps un uk ua
  h11 : ∀ (fo fp nx ex un uk ua rn ra : Int) (os ps : List Int), InvP true nx un ex uk ua rn ra os ps → cpH11 L M n xs ys ks cs ds bs zs k nx ex ra true i fo fp os ps nx un uk ua ex rn ra fo os fp ps un uk ua
theorem fin00 {L M n : Nat} {xs ys ks cs ds bs zs : List Int} {k : SV → St → Prop} {i : Int} (H : Heads L M n xs ys ks cs ds bs zs k (addK .i64 i 1)) {fo fp nx ex un uk ua kd ck ca by_ aa : Int} {os ps : List Int} {okb : Bool} (inv : InvP false nx un ex uk ua 0 0 os ps) (hok : okb = true) :
    cpG00 L M n xs ys ks cs ds bs zs k nx ex 0 false okb i fo fp os ps nx ex fo os fp ps un uk ua kd ck ca by_ aa := by
  have inv2 := inv
  obtain ⟨_, _, hl1, hl2, _⟩ := inv
  subst hok
  refine Eq.mpr (t_cpF00 ..) ?_
  simp only [List.take_length]
  refine Again.mk ?_

  repeat' first
    | refine ndd (by omega) ?_
    | refine nd (by rw [Bool.and_eq_true_iff]; exact ⟨decide_eq_true (by omega), by unfold sameB; rw [eqs, decide_eq_true rfl]; rfl⟩) ?_
    | refine bhh ?_
  exact H.h00 _ _ _ _ _ _ _ _ _ inv2
theorem fin01 {L M n : Nat} {xs ys ks cs ds bs zs : List Int} {k : SV → St → Prop} {i : Int} (H : Heads L M n xs ys ks cs ds bs zs k (addK .i64 i 1)) {fo fp nx ex un uk ua rn ra kd ck ca by_ aa : Int} {os ps : List Int} {okb : Bool} (inv : InvP true nx un ex uk ua rn ra os ps) (hok : okb = true) :
    cpG01 L M n xs ys ks cs ds bs zs k nx ex ra false okb i fo fp os ps nx ex rn ra fo os fp ps un uk ua kd ck ca by_ aa := by
  have inv2 := inv
  obtain ⟨_, _, hl1, hl2, _⟩ := inv
  subst hok
  refine Eq.mpr (t_cpF01 ..) ?_
  simp only [List.take_length]
  refine Again.mk ?_

  repeat' first
    | refine ndd (by omega) ?_
    | refine nd (by rw [Bool.and_eq_true_iff]; exact ⟨decide_eq_true (by omega), by unfold sameB; rw [eqs, decide_eq_true rfl]; rfl⟩) ?_
    | refine bhh ?_
  exact H.h01 _ _ _ _ _ _ _ _ _ _ _ inv2
theorem fin10 {L M n : Nat} {xs ys ks cs ds bs zs : List Int} {k : SV → St → Prop} {i : Int} (H : Heads L M n xs ys ks cs ds bs zs k (addK .i64 i 1)) {fo fp nx ex un uk ua kd ck ca by_ aa : Int} {os ps : List Int} {okb : Bool} (inv : InvP false nx un ex uk ua 0 0 os ps) (hok : okb = true) :
    cpG10 L M n xs ys ks cs ds bs zs k nx ex 0 true okb i fo fp os ps nx un uk ua ex fo os fp ps un uk ua kd ck ca by_ aa := by
  have inv2 := inv
  obtain ⟨_, _, hl1, hl2, _⟩ := inv
  subst hok
  refine Eq.mpr (t_cpF10 ..) ?_
  simp only [List.take_length]
  refine Again.mk ?_
  refine bnt (by simp only [eqs, Bool.and_true]) ?_
  repeat' first
    | refine ndd (by omega) ?_
    | refine nd (by rw [Bool.and_eq_true_iff]; exact ⟨decide_eq_true (by omega), by unfold sameB; rw [eqs, decide_eq_true rfl]; rfl⟩) ?_
    | refine bhh ?_
  exact H.h10 _ _ _ _ _ _ _ _ _ inv2
theorem fin11 {L M n : Nat} {xs ys ks cs ds bs zs : List Int} {k : SV → St → Prop} {i : Int} (H : Heads L M n xs ys ks cs ds bs zs k (addK .i64 i 1)) {fo fp nx ex un uk ua rn ra kd ck ca by_ aa : Int} {os ps : List Int} {okb : Bool} (inv : InvP true nx un ex uk ua rn ra os ps) (hok : okb = true) :
    cpG11 L M n xs ys ks cs ds bs zs k nx ex ra true okb i fo fp os ps nx un uk ua ex rn ra fo os fp ps un uk ua kd ck ca by_ aa := by
  have inv2 := inv
  obtain ⟨_, _, hl1, hl2, _⟩ := inv
  subst hok
  refine Eq.mpr (t_cpF11 ..) ?_
  simp only [List.take_length]
  refine Again.mk ?_
  refine bnt (by simp only [eqs, Bool.and_true]) ?_
  repeat' first
    | refine ndd (by omega) ?_
    | refine nd (by rw [Bool.and_eq_true_iff]; exact ⟨decide_eq_true (by omega), by unfold sameB; rw [eqs, decide_eq_true rfl]; rfl⟩) ?_
    | refine bhh ?_
  exact H.h11 _ _ _ _ _ _ _ _ _ _ _ inv2
theorem step00 {L M n i : Nat} {xs ys ks cs ds bs zs : List Int} {k : SV → St → Prop} (hi : i < n) (hn : n ≤ 200) (hks : ∀ j, 0 ≤ ks.getD j 0) (hcs : ∀ j, 0 ≤ cs.getD j 0) (hds : ∀ j, 0 ≤ ds.getD j 0) (hbs : ∀ j, 0 ≤ bs.getD j 0 ∧ bs.getD j 0 < 4294967296) (H : Heads L M n xs ys ks cs ds bs zs k (addK .i64 (i : Int) 1))
    (fo fp nx ex un uk ua : Int) (os ps : List Int) (inv : InvP false nx un ex uk ua 0 0 os ps) : cpH00 (L + 1) M n xs ys ks cs ds bs zs k nx ex 0 false (i : Int) fo fp os ps nx ex fo os fp ps un uk ua := by
  refine Eq.mpr (t_cpH00 ..) ?_
  refine Again.mk (brt (by omega) (ndd (by omega) (ndd (by omega) (ndd (by omega) ?_))))
  have hK := hks (0 + Int.toNat (i : Int))
  have hC := hcs (0 + Int.toNat (i : Int))
  have hD := hds (0 + Int.toNat (i : Int))
  generalize ks.getD (0 + Int.toNat (i : Int)) 0 = K at hK ⊢
  generalize cs.getD (0 + Int.toNat (i : Int)) 0 = ck at hC ⊢
  generalize ds.getD (0 + Int.toNat (i : Int)) 0 = ca at hD ⊢
  have hBy := hbs (0 + Int.toNat (i : Int))
  generalize bs.getD (0 + Int.toNat (i : Int)) 0 = by_ at hBy ⊢
  generalize zs.getD (0 + Int.toNat (i : Int)) 0 = aa
  obtain ⟨hu1, hu2, hl1, hl2, huk, hua, hex, hnx, hun, hrr⟩ := inv

  have hd1 := doL_len fo os ck ca
  have hd2 := doL_len fp ps ck ca
  have hd3 := doL_len fo os uk ua
  have hw1 := okUs_doL (f := fo) (kd := ck) hu1 hD
  have hw2 := okUs_doL (f := fp) (kd := ck) hu2 hD
  have hw3 := okUs_doL (f := fo) (kd := uk) hu1 hua
  have hsub := subadd hex
  have hexr := u32r ex 1
  have hN := u32r ex by_
  have hnxr := u32r nx 1
  have hNc := ncase hN hex
  have hUc := bycase hun hBy
  rcases kcase4 K hK with rfl | rfl | rfl | ⟨m, rfl⟩
  · refine Eq.mpr (t_cpB000 ..) ?_
    try simp only [List.take_length]
    refine Again.mk ?_
    by_cases hE : doE fo os ck ca = 0
    all_goals
      (repeat' first
        | refine ndd (by omega) ?_
        | refine nd (by simp only [hu1, hu2, Bool.and_true, decide_eq_true_iff]; omega) ?_
        | refine bret (by first | assumption | omega) ?_
        | refine bref (by first | assumption | omega) ?_
        | refine bnz (by first | assumption | omega) ?_
        | refine bnn (by first | assumption | omega) ?_
        | refine bnt (by simp only [eqs, Bool.and_true]) ?_
        | refine brt (by omega) ?_
        | refine brf (by omega) ?_
        | refine brd (fun _ => ?_) (fun _ => ?_)
        | refine bre (fun _ => ?_) (fun _ => ?_)
        | refine bren (fun _ => ?_) (fun _ => ?_))
    all_goals first
      | refine fin00 H ⟨?_, ?_, ?_, ?_, ?_, ?_, ?_, ?_, ?_, ?_⟩ ?_
      | refine fin01 H ⟨?_, ?_, ?_, ?_, ?_, ?_, ?_, ?_, ?_, ?_⟩ ?_
      | refine fin10 H ⟨?_, ?_, ?_, ?_, ?_, ?_, ?_, ?_, ?_, ?_⟩ ?_
      | refine fin11 H ⟨?_, ?_, ?_, ?_, ?_, ?_, ?_, ?_, ?_, ?_⟩ ?_
    all_goals first
      | assumption
      | rfl
      | omega
      | exact eqs _
      | (simp only [eqs, Bool.and_true]; done)
      | (rw [eqK_t]; omega)
      | exact fun e => by cases e
      | (intro _; refine ⟨?_, ?_⟩ <;> first | assumption | omega)
  · refine Eq.mpr (t_cpB001 ..) ?_
    try simp only [List.take_length]
    refine Again.mk ?_
    by_cases hE : doE fp ps ck ca = 0
    all_goals rcases hNc with ⟨hN1, hN2, hN3⟩ | ⟨hN1, hN2, hN3⟩ | ⟨hN1, hN2, hN3⟩
    all_goals
      (repeat' first
        | refine ndd (by omega) ?_
        | refine nd (by simp only [hu1, hu2, Bool.and_true, decide_eq_true_iff]; omega) ?_
        | refine bret (by first | assumption | omega) ?_
        | refine bref (by first | assumption | omega) ?_
        | refine bnz (by first | assumption | omega) ?_
        | refine bnn (by first | assumption | omega) ?_
        | refine bnt (by simp only [eqs, Bool.and_true]) ?_
        | refine brt (by omega) ?_
        | refine brf (by omega) ?_
        | refine brd (fun _ => ?_) (fun _ => ?_)
        | refine bre (fun _ => ?_) (fun _ => ?_)
        | refine bren (fun _ => ?_) (fun _ => ?_))
    all_goals first
      | refine fin00 H ⟨?_, ?_, ?_, ?_, ?_, ?_, ?_, ?_, ?_, ?_⟩ ?_
      | refine fin01 H ⟨?_, ?_, ?_, ?_, ?_, ?_, ?_, ?_, ?_, ?_⟩ ?_
      | refine fin10 H ⟨?_, ?_, ?_, ?_, ?_, ?_, ?_, ?_, ?_, ?_⟩ ?_
      | refine fin11 H ⟨?_, ?_, ?_, ?_, ?_, ?_, ?_, ?_, ?_, ?_⟩ ?_
    all_goals first
      | assumption
      | rfl
      | omega
      | exact eqs _
      | (simp only [eqs, Bool.and_true]; done)
      | (rw [eqK_t]; omega)
      | exact fun e => by cases e
      | (intro _; refine ⟨?_, ?_⟩ <;> first | assumption | omega)
  · refine Eq.mpr (t_cpB002 ..) ?_
    try simp only [List.take_length]
    refine Again.mk ?_
    by_cases hE : doE fo os uk ua = 0
    all_goals rcases hUc with ⟨hB1, hB2, hB3⟩ | ⟨hB1, hB2, hB3⟩
    all_goals by_cases hA : aa = 1
    all_goals
      (repeat' first
        | refine ndd (by omega) ?_
        | refine nd (by simp only [hu1, hu2, Bool.and_true, decide_eq_true_iff]; omega) ?_
        | refine bret (by first | assumption | omega) ?_
        | refine bref (by first | assumption | omega) ?_
        | refine bnz (by first | assumption | omega) ?_
        | refine bnn (by first | assumption | omega) ?_
        | refine bnt (by simp only [eqs, Bool.and_true]) ?_
        | refine brt (by omega) ?_
        | refine brf (by omega) ?_
        | refine brd (fun _ => ?_) (fun _ => ?_)
        | refine bre (fun _ => ?_) (fun _ => ?_)
        | refine bren (fun _ => ?_) (fun _ => ?_))
    all_goals first
      | refine fin00 H ⟨?_, ?_, ?_, ?_, ?_, ?_, ?_, ?_, ?_, ?_⟩ ?_
      | refine fin01 H ⟨?_, ?_, ?_, ?_, ?_, ?_, ?_, ?_, ?_, ?_⟩ ?_
      | refine fin10 H ⟨?_, ?_, ?_, ?_, ?_, ?_, ?_, ?_, ?_, ?_⟩ ?_
      | refine fin11 H ⟨?_, ?_, ?_, ?_, ?_, ?_, ?_, ?_, ?_, ?_⟩ ?_
    all_goals first
      | assumption
      | rfl
      | omega
      | exact eqs _
      | (simp only [eqs, Bool.and_true]; done)
      | (rw [eqK_t]; omega)
      | exact fun e => by cases e
      | (intro _; refine ⟨?_, ?_⟩ <;> first | assumption | omega)
  · refine Eq.mpr (t_cpB00p ..) ?_
    try simp only [List.take_length]
    refine Again.mk ?_
    all_goals
      (repeat' first
        | refine ndd (by omega) ?_
        | refine nd (by simp only [hu1, hu2, Bool.and_true, decide_eq_true_iff]; omega) ?_
        | refine bret (by first | assumption | omega) ?_
        | refine bref (by first | assumption | omega) ?_
        | refine bnz (by first | assumption | omega) ?_
        | refine bnn (by first | assumption | omega) ?_
        | refine bnt (by simp only [eqs, Bool.and_true]) ?_
        | refine brt (by omega) ?_
        | refine brf (by omega) ?_
        | refine brd (fun _ => ?_) (fun _ => ?_)
        | refine bre (fun _ => ?_) (fun _ => ?_)
        | refine bren (fun _ => ?_) (fun _ => ?_))
    all_goals first
      | refine fin00 H ⟨?_, ?_, ?_, ?_, ?_, ?_, ?_, ?_, ?_, ?_⟩ ?_
      | refine fin01 H ⟨?_, ?_, ?_, ?_, ?_, ?_, ?_, ?_, ?_, ?_⟩ ?_
      | refine fin10 H ⟨?_, ?_, ?_, ?_, ?_, ?_, ?_, ?_, ?_, ?_⟩ ?_
      | refine fin11 H ⟨?_, ?_, ?_, ?_, ?_, ?_, ?_, ?_, ?_, ?_⟩ ?_
    all_goals first
      | assumption
      | rfl
      | omega
      | exact eqs _
      | (simp only [eqs, Bool.and_true]; done)
      | (rw [eqK_t]; omega)
      | exact fun e => by cases e
      | (intro _; refine ⟨?_, ?_⟩ <;> first | assumption | omega)
theorem step01 {L M n i : Nat} {xs ys ks cs ds bs zs : List Int} {k : SV → St → Prop} (hi : i < n) (hn : n ≤ 200) (hks : ∀ j, 0 ≤ ks.getD j 0) (hcs : ∀ j, 0 ≤ cs.getD j 0) (hds : ∀ j, 0 ≤ ds.getD j 0) (hbs : ∀ j, 0 ≤ bs.getD j 0 ∧ bs.getD j 0 < 4294967296) (H : Heads L M n xs ys ks cs ds bs zs k (addK .i64 (i : Int) 1))
    (fo fp nx ex un uk ua rn ra : Int) (os ps : List Int) (inv : InvP true nx un ex uk ua rn ra os ps) : cpH01 (L + 1) M n xs ys ks cs ds bs zs k nx ex ra false (i : Int) fo fp os ps nx ex rn ra fo os fp ps un uk ua := by
  refine Eq.mpr (t_cpH01 ..) ?_
  refine Again.mk (brt (by omega) (ndd (by omega) (ndd (by omega) (ndd (by omega) ?_))))
  have hK := hks (0 + Int.toNat (i : Int))
  have hC := hcs (0 + Int.toNat (i : Int))
  have hD := hds (0 + Int.toNat (i : Int))
  generalize ks.getD (0 + Int.toNat (i : Int)) 0 = K at hK ⊢
  generalize cs.getD (0 + Int.toNat (i : Int)) 0 = ck at hC ⊢
  generalize ds.getD (0 + Int.toNat (i : Int)) 0 = ca at hD ⊢
  have hBy := hbs (0 + Int.toNat (i : Int))
  generalize bs.getD (0 + Int.toNat (i : Int)) 0 = by_ at hBy ⊢
  generalize zs.getD (0 + Int.toNat (i : Int)) 0 = aa
  obtain ⟨hu1, hu2, hl1, hl2, huk, hua, hex, hnx, hun, hrr⟩ := inv
  obtain ⟨hrn, hra⟩ := hrr rfl
  have hd1 := doL_len fo os ck ca
  have hd2 := doL_len fp ps ck ca
  have hd3 := doL_len fo os uk ua
  have hw1 := okUs_doL (f := fo) (kd := ck) hu1 hD
  have hw2 := okUs_doL (f := fp) (kd := ck) hu2 hD
  have hw3 := okUs_doL (f := fo) (kd := uk) hu1 hua
  have hsub := subadd hex
  have hexr := u32r ex 1
  have hN := u32r ex by_
  have hnxr := u32r nx 1
  have hNc := ncase hN hex
  have hUc := bycase hun hBy
  rcases kcase4 K hK with rfl | rfl | rfl | ⟨m, rfl⟩
  · refine Eq.mpr (t_cpB010 ..) ?_
    try simp only [List.take_length]
    refine Again.mk ?_
    by_cases hE : doE fo os ck ca = 0
    all_goals
      (repeat' first
        | refine ndd (by omega) ?_
        | refine nd (by simp only [hu1, hu2, Bool.and_true, decide_eq_true_iff]; omega) ?_
        | refine bret (by first | assumption | omega) ?_
        | refine bref (by first | assumption | omega) ?_
        | refine bnz (by first | assumption | omega) ?_
        | refine bnn (by first | assumption | omega) ?_
        | refine bnt (by simp only [eqs, Bool.and_true]) ?_
        | refine brt (by omega) ?_
        | refine brf (by omega) ?_
        | refine brd (fun _ => ?_) (fun _ => ?_)
        | refine bre (fun _ => ?_) (fun _ => ?_)
        | refine bren (fun _ => ?_) (fun _ => ?_))
    all_goals first
      | refine fin00 H ⟨?_, ?_, ?_, ?_, ?_, ?_, ?_, ?_, ?_, ?_⟩ ?_
      | refine fin01 H ⟨?_, ?_, ?_, ?_, ?_, ?_, ?_, ?_, ?_, ?_⟩ ?_
      | refine fin10 H ⟨?_, ?_, ?_, ?_, ?_, ?_, ?_, ?_, ?_, ?_⟩ ?_
      | refine fin11 H ⟨?_, ?_, ?_, ?_, ?_, ?_, ?_, ?_, ?_, ?_⟩ ?_
    all_goals first
      | assumption
      | rfl
      | omega
      | exact eqs _
      | (simp only [eqs, Bool.and_true]; done)
      | (rw [eqK_t]; omega)
      | exact fun e => by cases e
      | (intro _; refine ⟨?_, ?_⟩ <;> first | assumption | omega)
  · refine Eq.mpr (t_cpB011 ..) ?_
    try simp only [List.take_length]
    refine Again.mk ?_
    by_cases hE : doE fp ps ck ca = 0
    all_goals rcases hNc with ⟨hN1, hN2, hN3⟩ | ⟨hN1, hN2, hN3⟩ | ⟨hN1, hN2, hN3⟩
    all_goals
      (repeat' first
        | refine ndd (by omega) ?_
        | refine nd (by simp only [hu1, hu2, Bool.and_true, decide_eq_true_iff]; omega) ?_
        | refine bret (by first | assumption | omega) ?_
        | refine bref (by first | assumption | omega) ?_
        | refine bnz (by first | assumption | omega) ?_
        | refine bnn (by first | assumption | omega) ?_
        | refine bnt (by simp only [eqs, Bool.and_true]) ?_
        | refine brt (by omega) ?_
        | refine brf (by omega) ?_
        | refine brd (fun _ => ?_) (fun _ => ?_)
        | refine bre (fun _ => ?_) (fun _ => ?_)
        | refine bren (fun _ => ?_) (fun _ => ?_))
    all_goals first
      | refine fin00 H ⟨?_, ?_, ?_, ?_, ?_, ?_, ?_, ?_, ?_, ?_⟩ ?_
      | refine fin01 H ⟨?_, ?_, ?_, ?_, ?_, ?_, ?_, ?_, ?_, ?_⟩ ?_
      | refine fin10 H ⟨?_, ?_, ?_, ?_, ?_, ?_, ?_, ?_, ?_, ?_⟩ ?_
      | refine fin11 H ⟨?_, ?_, ?_, ?_, ?_, ?_, ?_, ?_, ?_, ?_⟩ ?_
    all_goals first
      | assumption
      | rfl
      | omega
      | exact eqs _
      | (simp only [eqs, Bool.and_true]; done)
      | (rw [eqK_t]; omega)
      | exact fun e => by cases e
      | (intro _; refine ⟨?_, ?_⟩ <;> first | assumption | omega)
  · refine Eq.mpr (t_cpB012 ..) ?_
    try simp only [List.take_length]
    refine Again.mk ?_
    by_cases hE : doE fo os uk ua = 0
    all_goals rcases hUc with ⟨hB1, hB2, hB3⟩ | ⟨hB1, hB2, hB3⟩
    all_goals by_cases hA : aa = 1
    all_goals
      (repeat' first
        | refine ndd (by omega) ?_
        | refine nd (by simp only [hu1, hu2, Bool.and_true, decide_eq_true_iff]; omega) ?_
        | refine bret (by first | assumption | omega) ?_
        | refine bref (by first | assumption | omega) ?_
        | refine bnz (by first | assumption | omega) ?_
        | refine bnn (by first | assumption | omega) ?_
        | refine bnt (by simp only [eqs, Bool.and_true]) ?_
        | refine brt (by omega) ?_
        | refine brf (by omega) ?_
        | refine brd (fun _ => ?_) (fun _ => ?_)
        | refine bre (fun _ => ?_) (fun _ => ?_)
        | refine bren (fun _ => ?_) (fun _ => ?_))
    all_goals first
      | refine fin00 H ⟨?_, ?_, ?_, ?_, ?_, ?_, ?_, ?_, ?_, ?_⟩ ?_
      | refine fin01 H ⟨?_, ?_, ?_, ?_, ?_, ?_, ?_, ?_, ?_, ?_⟩ ?_
      | refine fin10 H ⟨?_, ?_, ?_, ?_, ?_, ?_, ?_, ?_, ?_, ?_⟩ ?_
      | refine fin11 H ⟨?_, ?_, ?_, ?_, ?_, ?_, ?_, ?_, ?_, ?_⟩ ?_
    all_goals first
      | assumption
      | rfl
      | omega
      | exact eqs _
      | (simp only [eqs, Bool.and_true]; done)
      | (rw [eqK_t]; omega)
      | exact fun e => by cases e
      | (intro _; refine ⟨?_, ?_⟩ <;> first | assumption | omega)
  · refine Eq.mpr (t_cpB01p ..) ?_
    try simp only [List.take_length]
    refine Again.mk ?_
    all_goals
      (repeat' first
        | refine ndd (by omega) ?_
        | refine nd (by simp only [hu1, hu2, Bool.and_true, decide_eq_true_iff]; omega) ?_
        | refine bret (by first | assumption | omega) ?_
        | refine bref (by first | assumption | omega) ?_
        | refine bnz (by first | assumption | omega) ?_
        | refine bnn (by first | assumption | omega) ?_
        | refine bnt (by simp only [eqs, Bool.and_true]) ?_
        | refine brt (by omega) ?_
        | refine brf (by omega) ?_
        | refine brd (fun _ => ?_) (fun _ => ?_)
        | refine bre (fun _ => ?_) (fun _ => ?_)
        | refine bren (fun _ => ?_) (fun _ => ?_))
    all_goals first
      | refine fin00 H ⟨?_, ?_, ?_, ?_, ?_, ?_, ?_, ?_, ?_, ?_⟩ ?_
      | refine fin01 H ⟨?_, ?_, ?_, ?_, ?_, ?_, ?_, ?_, ?_, ?_⟩ ?_
      | refine fin10 H ⟨?_, ?_, ?_, ?_, ?_, ?_, ?_, ?_, ?_, ?_⟩ ?_
      | refine fin11 H ⟨?_, ?_, ?_, ?_, ?_, ?_, ?_, ?_, ?_, ?_⟩ ?_
    all_goals first
      | assumption
      | rfl
      | omega
      | exact eqs _
      | (simp only [eqs, Bool.and_true]; done)
      | (rw [eqK_t]; omega)
      | exact fun e => by cases e
      | (intro _; refine ⟨?_, ?_⟩ <;> first | assumption | omega)
theorem step10 {L M n i : Nat} {xs ys ks cs ds bs zs : List Int} {k : SV → St → Prop} (hi : i < n) (hn : n ≤ 200) (hks : ∀ j, 0 ≤ ks.getD j 0) (hcs : ∀ j, 0 ≤ cs.getD j 0) (hds : ∀ j, 0 ≤ ds.getD j 0) (hbs : ∀ j, 0 ≤ bs.getD j 0 ∧ bs.getD j 0 < 4294967296) (H : Heads L M n xs ys ks cs ds bs zs k (addK .i64 (i : Int) 1))
    (fo fp nx ex un uk ua : Int) (os ps : List Int) (inv : InvP false nx un ex uk ua 0 0 os ps) : cpH10 (L + 1) M n xs ys ks cs ds bs zs k nx ex 0 true (i : Int) fo fp os ps nx un uk ua ex fo os fp ps un uk ua := by
  refine Eq.mpr (t_cpH10 ..) ?_
  refine Again.mk (brt (by omega) (ndd (by omega) (ndd (by omega) (ndd (by omega) ?_))))
  have hK := hks (0 + Int.toNat (i : Int))
  have hC := hcs (0 + Int.toNat (i : Int))
  have hD := hds (0 + Int.toNat (i : Int))
  generalize ks.getD (0 + Int.toNat (i : Int)) 0 = K at hK ⊢
  generalize cs.getD (0 + Int.toNat (i : Int)) 0 = ck at hC ⊢
  generalize ds.getD (0 + Int.toNat (i : Int)) 0 = ca at hD ⊢
  have hBy := hbs (0 + Int.toNat (i : Int))
  generalize bs.getD (0 + Int.toNat (i : Int)) 0 = by_ at hBy ⊢
  generalize zs.getD (0 + Int.toNat (i : Int)) 0 = aa
  obtain ⟨hu1, hu2, hl1, hl2, huk, hua, hex, hnx, hun, hrr⟩ := inv

  have hd1 := doL_len fo os ck ca
  have hd2 := doL_len fp ps ck ca
  have hd3 := doL_len fo os uk ua
  have hw1 := okUs_doL (f := fo) (kd := ck) hu1 hD
  have hw2 := okUs_doL (f := fp) (kd := ck) hu2 hD
  have hw3 := okUs_doL (f := fo) (kd := uk) hu1 hua
  have hsub := subadd hex
  have hexr := u32r ex 1
  have hN := u32r ex by_
  have hnxr := u32r nx 1
  have hNc := ncase hN hex
  have hUc := bycase hun hBy
  rcases kcase4 K hK with rfl | rfl | rfl | ⟨m, rfl⟩
  · refine Eq.mpr (t_cpB100 ..) ?_
    try simp only [List.take_length]
    refine Again.mk ?_
    by_cases hE : doE fo os ck ca = 0
    all_goals
      (repeat' first
        | refine ndd (by omega) ?_
        | refine nd (by simp only [hu1, hu2, Bool.and_true, decide_eq_true_iff]; omega) ?_
        | refine bret (by first | assumption | omega) ?_
        | refine bref (by first | assumption | omega) ?_
        | refine bnz (by first | assumption | omega) ?_
        | refine bnn (by first | assumption | omega) ?_
        | refine bnt (by simp only [eqs, Bool.and_true]) ?_
        | refine brt (by omega) ?_
        | refine brf (by omega) ?_
        | refine brd (fun _ => ?_) (fun _ => ?_)
        | refine bre (fun _ => ?_) (fun _ => ?_)
        | refine bren (fun _ => ?_) (fun _ => ?_))
    all_goals first
      | refine fin00 H ⟨?_, ?_, ?_, ?_, ?_, ?_, ?_, ?_, ?_, ?_⟩ ?_
      | refine fin01 H ⟨?_, ?_, ?_, ?_, ?_, ?_, ?_, ?_, ?_, ?_⟩ ?_
      | refine fin10 H ⟨?_, ?_, ?_, ?_, ?_, ?_, ?_, ?_, ?_, ?_⟩ ?_
      | refine fin11 H ⟨?_, ?_, ?_, ?_, ?_, ?_, ?_, ?_, ?_, ?_⟩ ?_
    all_goals first
      | assumption
      | rfl
      | omega
      | exact eqs _
      | (simp only [eqs, Bool.and_true]; done)
      | (rw [eqK_t]; omega)
      | exact fun e => by cases e
      | (intro _; refine ⟨?_, ?_⟩ <;> first | assumption | omega)
  · refine Eq.mpr (t_cpB101 ..) ?_
    try simp only [List.take_length]
    refine Again.mk ?_
    by_cases hE : doE fp ps ck ca = 0
    all_goals rcases hNc with ⟨hN1, hN2, hN3⟩ | ⟨hN1, hN2, hN3⟩ | ⟨hN1, hN2, hN3⟩
    all_goals
      (repeat' first
        | refine ndd (by omega) ?_
        | refine nd (by simp only [hu1, hu2, Bool.and_true, decide_eq_true_iff]; omega) ?_
        | refine bret (by first | assumption | omega) ?_
        | refine bref (by first | assumption | omega) ?_
        | refine bnz (by first | assumption | omega) ?_
        | refine bnn (by first | assumption | omega) ?_
        | refine bnt (by simp only [eqs, Bool.and_true]) ?_
        | refine brt (by omega) ?_
        | refine brf (by omega) ?_
        | refine brd (fun _ => ?_) (fun _ => ?_)
        | refine bre (fun _ => ?_) (fun _ => ?_)
        | refine bren (fun _ => ?_) (fun _ => ?_))
    all_goals first
      | refine fin00 H ⟨?_, ?_, ?_, ?_, ?_, ?_, ?_, ?_, ?_, ?_⟩ ?_
      | refine fin01 H ⟨?_, ?_, ?_, ?_, ?_, ?_, ?_, ?_, ?_, ?_⟩ ?_
      | refine fin10 H ⟨?_, ?_, ?_, ?_, ?_, ?_, ?_, ?_, ?_, ?_⟩ ?_
      | refine fin11 H ⟨?_, ?_, ?_, ?_, ?_, ?_, ?_, ?_, ?_, ?_⟩ ?_
    all_goals first
      | assumption
      | rfl
      | omega
      | exact eqs _
      | (simp only [eqs, Bool.and_true]; done)
      | (rw [eqK_t]; omega)
      | exact fun e => by cases e
      | (intro _; refine ⟨?_, ?_⟩ <;> first | assumption | omega)
  · refine Eq.mpr (t_cpB102 ..) ?_
    try simp only [List.take_length]
    refine Again.mk ?_
    by_cases hE : doE fo os uk ua = 0
    all_goals rcases hUc with ⟨hB1, hB2, hB3⟩ | ⟨hB1, hB2, hB3⟩
    all_goals by_cases hA : aa = 1
    all_goals
      (repeat' first
        | refine ndd (by omega) ?_
        | refine nd (by simp only [hu1, hu2, Bool.and_true, decide_eq_true_iff]; omega) ?_
        | refine bret (by first | assumption | omega) ?_
        | refine bref (by first | assumption | omega) ?_
        | refine bnz (by first | assumption | omega) ?_
        | refine bnn (by first | assumption | omega) ?_
        | refine bnt (by simp only [eqs, Bool.and_true]) ?_
        | refine brt (by omega) ?_
        | refine brf (by omega) ?_
        | refine brd (fun _ => ?_) (fun _ => ?_)
        | refine bre (fun _ => ?_) (fun _ => ?_)
        | refine bren (fun _ => ?_) (fun _ => ?_))
    all_goals first
      | refine fin00 H ⟨?_, ?_, ?_, ?_, ?_, ?_, ?_, ?_, ?_, ?_⟩ ?_
      | refine fin01 H ⟨?_, ?_, ?_, ?_, ?_, ?_, ?_, ?_, ?_, ?_⟩ ?_
      | refine fin10 H ⟨?_, ?_, ?_, ?_, ?_, ?_, ?_, ?_, ?_, ?_⟩ ?_
      | refine fin11 H ⟨?_, ?_, ?_, ?_, ?_, ?_, ?_, ?_, ?_, ?_⟩ ?_
    all_goals first
      | assumption
      | rfl
      | omega
      | exact eqs _
      | (simp only [eqs, Bool.and_true]; done)
      | (rw [eqK_t]; omega)
      | exact fun e => by cases e
      | (intro _; refine ⟨?_, ?_⟩ <;> first | assumption | omega)
  · refine Eq.mpr (t_cpB10p ..) ?_
    try simp only [List.take_length]
    refine Again.mk ?_
    all_goals
      (repeat' first
        | refine ndd (by omega) ?_
        | refine nd (by simp only [hu1, hu2, Bool.and_true, decide_eq_true_iff]; omega) ?_
        | refine bret (by first | assumption | omega) ?_
        | refine bref (by first | assumption | omega) ?_
        | refine bnz (by first | assumption | omega) ?_
        | refine bnn (by first | assumption | omega) ?_
        | refine bnt (by simp only [eqs, Bool.and_true]) ?_
        | refine brt (by omega) ?_
        | refine brf (by omega) ?_
        | refine brd (fun _ => ?_) (fun _ => ?_)
        | refine bre (fun _ => ?_) (fun _ => ?_)
        | refine bren (fun _ => ?_) (fun _ => ?_))
    all_goals first
      | refine fin00 H ⟨?_, ?_, ?_, ?_, ?_, ?_, ?_, ?_, ?_, ?_⟩ ?_
      | refine fin01 H ⟨?_, ?_, ?_, ?_, ?_, ?_, ?_, ?_, ?_, ?_⟩ ?_
      | refine fin10 H ⟨?_, ?_, ?_, ?_, ?_, ?_, ?_, ?_, ?_, ?_⟩ ?_
      | refine fin11 H ⟨?_, ?_, ?_, ?_, ?_, ?_, ?_, ?_, ?_, ?_⟩ ?_
    all_goals first
      | assumption
      | rfl
      | omega
      | exact eqs _
      | (simp only [eqs, Bool.and_true]; done)
      | (rw [eqK_t]; omega)
      | exact fun e => by cases e
      | (intro _; refine ⟨?_, ?_⟩ <;> first | assumption | omega)
theorem step11 {L M n i : Nat} {xs ys ks cs ds bs zs : List Int} {k : SV → St → Prop} (hi : i < n) (hn : n ≤ 200) (hks : ∀ j, 0 ≤ ks.getD j 0) (hcs : ∀ j, 0 ≤ cs.getD j 0) (hds : ∀ j, 0 ≤ ds.getD j 0) (hbs : ∀ j, 0 ≤ bs.getD j 0 ∧ bs.getD j 0 < 4294967296) (H : Heads L M n xs ys ks cs ds bs zs k (addK .i64 (i : Int) 1))
    (fo fp nx ex un uk ua rn ra : Int) (os ps : List Int) (inv : InvP true nx un ex uk ua rn ra os ps) : cpH11 (L + 1) M n xs ys ks cs ds bs zs k nx ex ra true (i : Int) fo fp os ps nx un uk ua ex rn ra fo os fp ps un uk ua := by
  refine Eq.mpr (t_cpH11 ..) ?_
  refine Again.mk (brt (by omega) (ndd (by omega) (ndd (by omega) (ndd (by omega) ?_))))
  have hK := hks (0 + Int.toNat (i : Int))
  have hC := hcs (0 + Int.toNat (i : Int))
  have hD := hds (0 + Int.toNat (i : Int))
  generalize ks.getD (0 + Int.toNat (i : Int)) 0 = K at hK ⊢
  generalize cs.getD (0 + Int.toNat (i : Int)) 0 = ck at hC ⊢
  generalize ds.getD (0 + Int.toNat (i : Int)) 0 = ca at hD ⊢
  have hBy := hbs (0 + Int.toNat (i : Int))
  generalize bs.getD (0 + Int.toNat (i : Int)) 0 = by_ at hBy ⊢
  generalize zs.getD (0 + Int.toNat (i : Int)) 0 = aa
  obtain ⟨hu1, hu2, hl1, hl2, huk, hua, hex, hnx, hun, hrr⟩ := inv
  obtain ⟨hrn, hra⟩ := hrr rfl
  have hd1 := doL_len fo os ck ca
  have hd2 := doL_len fp ps ck ca
  have hd3 := doL_len fo os uk ua
  have hw1 := okUs_doL (f := fo) (kd := ck) hu1 hD
  have hw2 := okUs_doL (f := fp) (kd := ck) hu2 hD
  have hw3 := okUs_doL (f := fo) (kd := uk) hu1 hua
  have hsub := subadd hex
  have hexr := u32r ex 1
  have hN := u32r ex by_
  have hnxr := u32r nx 1
  have hNc := ncase hN hex
  have hUc := bycase hun hBy
  rcases kcase4 K hK with rfl | rfl | rfl | ⟨m, rfl⟩
  · refine Eq.mpr (t_cpB110 ..) ?_
    try simp only [List.take_length]
    refine Again.mk ?_
    by_cases hE : doE fo os ck ca = 0
    all_goals
      (repeat' first
        | refine ndd (by omega) ?_
        | refine nd (by simp only [hu1, hu2, Bool.and_true, decide_eq_true_iff]; omega) ?_
        | refine bret (by first | assumption | omega) ?_
        | refine bref (by first | assumption | omega) ?_
        | refine bnz (by first | assumption | omega) ?_
        | refine bnn (by first | assumption | omega) ?_
        | refine bnt (by simp only [eqs, Bool.and_true]) ?_
        | refine brt (by omega) ?_
        | refine brf (by omega) ?_
        | refine brd (fun _ => ?_) (fun _ => ?_)
        | refine bre (fun _ => ?_) (fun _ => ?_)
        | refine bren (fun _ => ?_) (fun _ => ?_))
    all_goals first
      | refine fin00 H ⟨?_, ?_, ?_, ?_, ?_, ?_, ?_, ?_, ?_, ?_⟩ ?_
      | refine fin01 H ⟨?_, ?_, ?_, ?_, ?_, ?_, ?_, ?_, ?_, ?_⟩ ?_
      | refine fin10 H ⟨?_, ?_, ?_, ?_, ?_, ?_, ?_, ?_, ?_, ?_⟩ ?_
      | refine fin11 H ⟨?_, ?_, ?_, ?_, ?_, ?_, ?_, ?_, ?_, ?_⟩ ?_
    all_goals first
      | assumption
      | rfl
      | omega
      | exact eqs _
      | (simp only [eqs, Bool.and_true]; done)
      | (rw [eqK_t]; omega)
      | exact fun e => by cases e
      | (intro _; refine ⟨?_, ?_⟩ <;> first | assumption | omega)
  · refine Eq.mpr (t_cpB111 ..) ?_
    try simp only [List.take_length]
    refine Again.mk ?_
    by_cases hE : doE fp ps ck ca = 0
    all_goals rcases hNc with ⟨hN1, hN2, hN3⟩ | ⟨hN1, hN2, hN3⟩ | ⟨hN1, hN2, hN3⟩
    all_goals
      (repeat' first
        | refine ndd (by omega) ?_
        | refine nd (by simp only [hu1, hu2, Bool.and_true, decide_eq_true_iff]; omega) ?_
        | refine bret (by first | assumption | omega) ?_
        | refine bref (by first | assumption | omega) ?_
        | refine bnz (by first | assumption | omega) ?_
        | refine bnn (by first | assumption | omega) ?_
        | refine bnt (by simp only [eqs, Bool.and_true]) ?_
        | refine brt (by omega) ?_
        | refine brf (by omega) ?_
        | refine brd (fun _ => ?_) (fun _ => ?_)
        | refine bre (fun _ => ?_) (fun _ => ?_)
        | refine bren (fun _ => ?_) (fun _ => ?_))
    all_goals first
      | refine fin00 H ⟨?_, ?_, ?_, ?_, ?_, ?_, ?_, ?_, ?_, ?_⟩ ?_
      | refine fin01 H ⟨?_, ?_, ?_, ?_, ?_, ?_, ?_, ?_, ?_, ?_⟩ ?_
      | refine fin10 H ⟨?_, ?_, ?_, ?_, ?_, ?_, ?_, ?_, ?_, ?_⟩ ?_
      | refine fin11 H ⟨?_, ?_, ?_, ?_, ?_, ?_, ?_, ?_, ?_, ?_⟩ ?_
    all_goals first
      | assumption
      | rfl
      | omega
      | exact eqs _
      | (simp only [eqs, Bool.and_true]; done)
      | (rw [eqK_t]; omega)
      | exact fun e => by cases e
      | (intro _; refine ⟨?_, ?_⟩ <;> first | assumption | omega)
  · refine Eq.mpr (t_cpB112 ..) ?_
    try simp only [List.take_length]
    refine Again.mk ?_
    by_cases hE : doE fo os uk ua = 0
    all_goals rcases hUc with ⟨hB1, hB2, hB3⟩ | ⟨hB1, hB2, hB3⟩
    all_goals by_cases hA : aa = 1
    all_goals
      (repeat' first
        | refine ndd (by omega) ?_
        | refine nd (by simp only [hu1, hu2, Bool.and_true, decide_eq_true_iff]; omega) ?_
        | refine bret (by first | assumption | omega) ?_
        | refine bref (by first | assumption | omega) ?_
        | refine bnz (by first | assumption | omega) ?_
        | refine bnn (by first | assumption | omega) ?_
        | refine bnt (by simp only [eqs, Bool.and_true]) ?_
        | refine brt (by omega) ?_
        | refine brf (by omega) ?_
        | refine brd (fun _ => ?_) (fun _ => ?_)
        | refine bre (fun _ => ?_) (fun _ => ?_)
        | refine bren (fun _ => ?_) (fun _ => ?_))
    all_goals first
      | refine fin00 H ⟨?_, ?_, ?_, ?_, ?_, ?_, ?_, ?_, ?_, ?_⟩ ?_
      | refine fin01 H ⟨?_, ?_, ?_, ?_, ?_, ?_, ?_, ?_, ?_, ?_⟩ ?_
      | refine fin10 H ⟨?_, ?_, ?_, ?_, ?_, ?_, ?_, ?_, ?_, ?_⟩ ?_
      | refine fin11 H ⟨?_, ?_, ?_, ?_, ?_, ?_, ?_, ?_, ?_, ?_⟩ ?_
    all_goals first
      | assumption
      | rfl
      | omega
      | exact eqs _
      | (simp only [eqs, Bool.and_true]; done)
      | (rw [eqK_t]; omega)
      | exact fun e => by cases e
      | (intro _; refine ⟨?_, ?_⟩ <;> first | assumption | omega)
  · refine Eq.mpr (t_cpB11p ..) ?_
    try simp only [List.take_length]
    refine Again.mk ?_
    all_goals
      (repeat' first
        | refine ndd (by omega) ?_
        | refine nd (by simp only [hu1, hu2, Bool.and_true, decide_eq_true_iff]; omega) ?_
        | refine bret (by first | assumption | omega) ?_
        | refine bref (by first | assumption | omega) ?_
        | refine bnz (by first | assumption | omega) ?_
        | refine bnn (by first | assumption | omega) ?_
        | refine bnt (by simp only [eqs, Bool.and_true]) ?_
        | refine brt (by omega) ?_
        | refine brf (by omega) ?_
        | refine brd (fun _ => ?_) (fun _ => ?_)
        | refine bre (fun _ => ?_) (fun _ => ?_)
        | refine bren (fun _ => ?_) (fun _ => ?_))
    all_goals first
      | refine fin00 H ⟨?_, ?_, ?_, ?_, ?_, ?_, ?_, ?_, ?_, ?_⟩ ?_
      | refine fin01 H ⟨?_, ?_, ?_, ?_, ?_, ?_, ?_, ?_, ?_, ?_⟩ ?_
      | refine fin10 H ⟨?_, ?_, ?_, ?_, ?_, ?_, ?_, ?_, ?_, ?_⟩ ?_
      | refine fin11 H ⟨?_, ?_, ?_, ?_, ?_, ?_, ?_, ?_, ?_, ?_⟩ ?_
    all_goals first
      | assumption
      | rfl
      | omega
      | exact eqs _
      | (simp only [eqs, Bool.and_true]; done)
      | (rw [eqK_t]; omega)
      | exact fun e => by cases e
      | (intro _; refine ⟨?_, ?_⟩ <;> first | assumption | omega)
theorem cxCp_ok : CxOk Try.prog cxCp := mkCx_ok (by kernel_rfl) (by kernel_rfl) (by
  intro y h
  simp only [sumsC, List.mem_cons, List.not_mem_nil, or_false] at h
  rcases h with rfl | rfl | rfl | rfl | rfl | rfl | rfl | rfl | rfl
  · exact known_sum
  · exact clone32_sum
  · exact do_sum
  · exact dr_sum
  · exact may_sum
  · exact mayR_sum
  · exact sameL_sum
  · exact has_sum
  · exact hs_sum)
theorem heads {M n : Nat} {xs ys ks cs ds bs zs : List Int} {k : SV → St → Prop} (c : Nat) (hn : n ≤ 200) (hks : ∀ j, 0 ≤ ks.getD j 0) (hcs : ∀ j, 0 ≤ cs.getD j 0) (hds : ∀ j, 0 ≤ ds.getD j 0) (hbs : ∀ j, 0 ≤ bs.getD j 0 ∧ bs.getD j 0 < 4294967296) (hT : ∀ st, k (.sa (.one (bv true))) st) :
    ∀ (rem i : Nat), i + rem = n → Heads (rem + c + 1) M n xs ys ks cs ds bs zs k (i : Int) := by
  intro rem
  induction rem with
  | zero =>
    intro i h
    refine ⟨?_, ?_, ?_, ?_⟩
    · intro fo fp nx ex un uk ua os ps _
      exact Eq.mpr (t_cpH00 (L := 0 + c) ..) (Again.mk (brf (by omega) (hT _)))
    · intro fo fp nx ex un uk ua rn ra os ps _
      exact Eq.mpr (t_cpH01 (L := 0 + c) ..) (Again.mk (brf (by omega) (hT _)))
    · intro fo fp nx ex un uk ua os ps _
      exact Eq.mpr (t_cpH10 (L := 0 + c) ..) (Again.mk (brf (by omega) (hT _)))
    · intro fo fp nx ex un uk ua rn ra os ps _
      exact Eq.mpr (t_cpH11 (L := 0 + c) ..) (Again.mk (brf (by omega) (hT _)))
  | succ rem ih =>
    intro i h
    have H := ih (i + 1) (by omega)
    have e : addK .i64 (i : Int) 1 = ((i + 1 : Nat) : Int) := by rw [add64 (by omega)]; omega
    rw [← e] at H
    rw [show rem + 1 + c + 1 = (rem + c + 1) + 1 from by omega]
    exact ⟨step00 (by omega) hn hks hcs hds hbs H, step01 (by omega) hn hks hcs hds hbs H, step10 (by omega) hn hks hcs hds hbs H, step11 (by omega) hn hks hcs hds hbs H⟩
end Go.Ev
