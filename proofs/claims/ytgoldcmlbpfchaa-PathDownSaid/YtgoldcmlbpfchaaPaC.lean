/- The law PathDown, run: a path is inactive just if there were more misses than its tries since it was heard of last. No conditions. -/
import Derived.Test.YtgoldcmlbpfchaaPaS
import Derived.Test.YtgoldcmlbpfchaaPaT2
namespace Go.Ev
open Go Go.Proofs Go.Spec
attribute [local irreducible] ev evCall branch need again

theorem lt_of {q tries : Int} (h : (!((!decide (q > tries)) == decide (q ≤ tries))) = true) : False := by
  by_cases h1 : q ≤ tries
  · have : ¬ q > tries := by omega
    simp [h1, this] at h
  · have : q > tries := by omega
    simp [h1, this] at h
theorem turn_of {a b : Bool} (h : (!((!(a == b)) == !((!a) == !b))) = true) : False := by cases a <;> cases b <;> simp at h
theorem hear_of {a : Bool} (h : (!((!(a == false)) == !((!a) == true))) = true) : False := by cases a <;> simp at h
theorem stay_of {a : Bool} (h : (!(false == !((!a) == !a))) = true) : False := by cases a <;> simp at h
theorem ne_of' {a : Int} (h : (a != a) = true) : False := by simp at h

/-- What is said of either state of the loop: no heartbeat is out, or one is. -/
def DownAt (mtu ss sr rr mm ri rmin rmax it pt al beat life : Int) (len c : Nat) (A B : List Int) (C : List Bool) (tries : Int) (N : Nat) (k : Exit → Fr → St → Prop) (i q : Int) : Prop :=
  (∀ (lo hi va s v : Int) (b : Bool) (w1 w2 w3 w4 : Int), ev cx1 N 1 3 (codeAt Try.prog 3 [1, 1, 1, 1, 1, 0, 1, 0]) (frm 104 [(2, .sa (.one (.ptr 1 0 0))), (5, .sa (.one (.ptr 2 0 0))), (7, .sa (.one (iv .i64 q))), (24, .sa (.one (.sl 0 0 len (some c)))), (25, .sa (.one (iv .i64 len))), (26, .sa (.one (iv .i64 i)))]) [some (.mem false .ext 33 3 (.tab len [.ints .u8 A, .ints .u32 B, .bools C])), obj 25 13 [iv .i64 mtu, iv .u16 ss, iv .i64 sr, iv .i64 rr, iv .i64 mm, iv .u32 ri, iv .u32 rmin, iv .u32 rmax, iv .u8 it, iv .u8 pt, iv .u8 al, iv .u32 beat, iv .u32 life], obj 53 8 [iv .u32 1, iv .u32 2, .ptr 3 0 0, .ptr 4 0 0, iv .i64 tries, iv .i64 q, bv (decide (q > tries)), .raw (.slice none 0 0)], obj 59 6 [iv .u64 lo, iv .u64 hi, iv .u64 va, iv .u64 s, iv .u64 v, bv b], obj 61 4 [iv .i64 w1, iv .i64 w2, iv .i64 w3, iv .i64 w4]] k) ∧
  (∀ (lo hi va s v : Int) (b : Bool) (w1 w2 w3 w4 : Int) (o : Int), ev cx1 N 1 3 (codeAt Try.prog 3 [1, 1, 1, 1, 1, 0, 1, 0]) (frm 104 [(2, .sa (.one (.ptr 1 0 0))), (5, .sa (.one (.ptr 2 0 0))), (7, .sa (.one (iv .i64 q))), (24, .sa (.one (.sl 0 0 len (some c)))), (25, .sa (.one (iv .i64 len))), (26, .sa (.one (iv .i64 i)))]) [some (.mem false .ext 33 3 (.tab len [.ints .u8 A, .ints .u32 B, .bools C])), obj 25 13 [iv .i64 mtu, iv .u16 ss, iv .i64 sr, iv .i64 rr, iv .i64 mm, iv .u32 ri, iv .u32 rmin, iv .u32 rmax, iv .u8 it, iv .u8 pt, iv .u8 al, iv .u32 beat, iv .u32 life], obj 53 8 [iv .u32 1, iv .u32 2, .ptr 3 0 0, .ptr 4 0 0, iv .i64 tries, iv .i64 q, bv (decide (q > tries)), .sl 5 0 1 none], obj 59 6 [iv .u64 lo, iv .u64 hi, iv .u64 va, iv .u64 s, iv .u64 v, bv b], obj 61 4 [iv .i64 w1, iv .i64 w2, iv .i64 w3, iv .i64 w4], some (.mem true .whole 23 1 (.lst [[iv .u32 o]]))] k)

theorem down_loop (mtu ss sr rr mm ri rmin rmax it pt al beat life : Int) (len c : Nat) (A B : List Int) (C : List Bool) (tries : Int) (hp : 0 ≤ pt ∧ pt ≤ 255) (ht : tries = pt) (hlen : len ≤ 3000) (k : Exit → Fr → St → Prop)
    (hkA : ∀ (i q : Int) (lo hi va s v : Int) (b : Bool) (w1 w2 w3 w4 : Int), k (Exit.exit 0) (frm 104 [(2, .sa (.one (.ptr 1 0 0))), (5, .sa (.one (.ptr 2 0 0))), (7, .sa (.one (iv .i64 q))), (24, .sa (.one (.sl 0 0 len (some c)))), (25, .sa (.one (iv .i64 len))), (26, .sa (.one (iv .i64 i))), (27, .sa (.one (bv false)))]) [some (.mem false .ext 33 3 (.tab len [.ints .u8 A, .ints .u32 B, .bools C])), obj 25 13 [iv .i64 mtu, iv .u16 ss, iv .i64 sr, iv .i64 rr, iv .i64 mm, iv .u32 ri, iv .u32 rmin, iv .u32 rmax, iv .u8 it, iv .u8 pt, iv .u8 al, iv .u32 beat, iv .u32 life], obj 53 8 [iv .u32 1, iv .u32 2, .ptr 3 0 0, .ptr 4 0 0, iv .i64 tries, iv .i64 q, bv (decide (q > tries)), .raw (.slice none 0 0)], obj 59 6 [iv .u64 lo, iv .u64 hi, iv .u64 va, iv .u64 s, iv .u64 v, bv b], obj 61 4 [iv .i64 w1, iv .i64 w2, iv .i64 w3, iv .i64 w4]])
    (hkB : ∀ (i q : Int) (lo hi va s v : Int) (b : Bool) (w1 w2 w3 w4 : Int) (o : Int), k (Exit.exit 0) (frm 104 [(2, .sa (.one (.ptr 1 0 0))), (5, .sa (.one (.ptr 2 0 0))), (7, .sa (.one (iv .i64 q))), (24, .sa (.one (.sl 0 0 len (some c)))), (25, .sa (.one (iv .i64 len))), (26, .sa (.one (iv .i64 i))), (27, .sa (.one (bv false)))]) [some (.mem false .ext 33 3 (.tab len [.ints .u8 A, .ints .u32 B, .bools C])), obj 25 13 [iv .i64 mtu, iv .u16 ss, iv .i64 sr, iv .i64 rr, iv .i64 mm, iv .u32 ri, iv .u32 rmin, iv .u32 rmax, iv .u8 it, iv .u8 pt, iv .u8 al, iv .u32 beat, iv .u32 life], obj 53 8 [iv .u32 1, iv .u32 2, .ptr 3 0 0, .ptr 4 0 0, iv .i64 tries, iv .i64 q, bv (decide (q > tries)), .sl 5 0 1 none], obj 59 6 [iv .u64 lo, iv .u64 hi, iv .u64 va, iv .u64 s, iv .u64 v, bv b], obj 61 4 [iv .i64 w1, iv .i64 w2, iv .i64 w3, iv .i64 w4], some (.mem true .whole 23 1 (.lst [[iv .u32 o]]))]) :
    ∀ (rem : Nat) (i q : Int), 0 ≤ i → i + rem = len → 0 ≤ q → q ≤ i → DownAt mtu ss sr rr mm ri rmin rmax it pt al beat life len c A B C tries (rem + 52) k i q
  | 0, i, q, h0, h1, h2, h3 => by
    refine ⟨fun lo hi va s v b w1 w2 w3 w4 => ?_, fun lo hi va s v b w1 w2 w3 w4 o => ?_⟩
    · rw [t_downA mtu ss sr rr mm ri rmin rmax it pt al beat life len c A B C i tries q (decide (q > tries)) lo hi va s v b w1 w2 w3 w4 0 k]
      exact br (fun h => absurd h (by simp; omega)) (fun _ => hkA i q lo hi va s v b w1 w2 w3 w4)
    · rw [t_downB mtu ss sr rr mm ri rmin rmax it pt al beat life len c A B C i tries q (decide (q > tries)) lo hi va s v b w1 w2 w3 w4 o 0 k]
      exact br (fun h => absurd h (by simp; omega)) (fun _ => hkB i q lo hi va s v b w1 w2 w3 w4 o)
  | rem + 1, i, q, h0, h1, h2, h3 => by
    have hip : IntKind.wrap .i64 (i + 1) = i + 1 := Go.IntWalk.i64_in _ (by omega)
    have hq : IntKind.wrap .i64 (q + 1) = q + 1 := Go.IntWalk.i64_in _ (by omega)
    have hpt : IntKind.wrap .i64 pt = tries := by rw [ht]; exact Go.IntWalk.i64_in _ (by omega)
    have hN : rem + 1 + 51 = rem + 52 := by omega
    have ht0 : (0 : Int) ≤ tries := by omega
    have hd0 : decide ((0 : Int) > tries) = false := by simp; omega
    obtain ⟨SA, SB⟩ := down_loop mtu ss sr rr mm ri rmin rmax it pt al beat life len c A B C tries hp ht hlen k hkA hkB rem (i + 1) q (by omega) (by omega) h2 (by omega)
    obtain ⟨MA, MB⟩ := down_loop mtu ss sr rr mm ri rmin rmax it pt al beat life len c A B C tries hp ht hlen k hkA hkB rem (i + 1) (q + 1) (by omega) (by omega) (by omega) (by omega)
    obtain ⟨HA, HB⟩ := down_loop mtu ss sr rr mm ri rmin rmax it pt al beat life len c A B C tries hp ht hlen k hkA hkB rem (i + 1) 0 (by omega) (by omega) (by omega) (by omega)
    rw [hd0] at HA HB
    refine ⟨fun lo hi va s v b w1 w2 w3 w4 => ?_, fun lo hi va s v b w1 w2 w3 w4 o => ?_⟩
    · rw [t_downA mtu ss sr rr mm ri rmin rmax it pt al beat life len c A B C i tries q (decide (q > tries)) lo hi va s v b w1 w2 w3 w4 (rem + 1) k]
      rw [hip, hN, hpt, hq]
      refine br (fun _ => nd (by simp; omega) (nd (by simp; omega) (nd (by simp; omega) ?_))) (fun h => absurd h (by simp; omega))
      repeat' refine br (fun _ => ?_) (fun _ => ?_)
      all_goals first
        | exact SA _ _ _ _ _ _ _ _ _ _
        | exact SB _ _ _ _ _ _ _ _ _ _ _
        | exact MA _ _ _ _ _ _ _ _ _ _
        | exact HA _ _ _ _ _ _ _ _ _ _
        | (exfalso; first | exact lt_of (by assumption) | exact turn_of (by assumption) | exact hear_of (by assumption) | exact stay_of (by assumption) | exact ne_of' (by assumption) | (simp_all; done))
    · rw [t_downB mtu ss sr rr mm ri rmin rmax it pt al beat life len c A B C i tries q (decide (q > tries)) lo hi va s v b w1 w2 w3 w4 o (rem + 1) k]
      rw [hip, hN, hpt, hq]
      refine br (fun _ => nd (by simp; omega) (nd (by simp; omega) (nd (by simp; omega) ?_))) (fun h => absurd h (by simp; omega))
      repeat' refine br (fun _ => ?_) (fun _ => ?_)
      all_goals first
        | exact SA _ _ _ _ _ _ _ _ _ _
        | exact SB _ _ _ _ _ _ _ _ _ _ _
        | exact MB _ _ _ _ _ _ _ _ _ _ _
        | exact HB _ _ _ _ _ _ _ _ _ _ _
        | (exfalso; first | exact lt_of (by assumption) | exact turn_of (by assumption) | exact hear_of (by assumption) | exact stay_of (by assumption) | exact ne_of' (by assumption) | (simp_all; done))

/-- The law, whatever came in. -/
theorem lawDown (mtu ss sr rr mm ri rmin rmax it pt al beat life : Int) (len c : Nat) (A B : List Int) (C : List Bool) (hp : 0 ≤ pt ∧ pt ≤ 255) : ∃ n, evCall cx1 (ev cx1 n) 3 [.agg (cellsC ⟨mtu, ss, sr, rr, mm, ri, rmin, rmax, it, pt, al, beat, life⟩), .one (.sl 0 0 len (some c))] [some (.mem false .ext 33 3 (.tab len [.ints .u8 A, .ints .u32 B, .bools C]))] (fun v _ => v = .sa (.one (.raw (.bool true)))) := by
  refine ⟨len + 60, ?_⟩
  unfold cellsC
  have := t_down mtu ss sr rr mm ri rmin rmax it pt al beat life len c A B C len (fun v _ => v = .sa (.one (.raw (.bool true))))
  refine this.mpr ?_
  refine br (fun _ => rfl) (fun h1 => br (fun _ => br (fun _ => rfl) (fun _ => br (fun _ => rfl) (fun _ => ?_))) (fun _ => rfl))
  have hpt : IntKind.wrap .i64 pt = pt := Go.IntWalk.i64_in _ (by omega)
  rw [hpt]
  have hl : len ≤ 3000 := by simp at h1; omega
  have hd0 : decide ((0 : Int) > pt) = false := by simp; omega
  have L := (down_loop mtu ss sr rr mm ri rmin rmax it pt al beat life len c A B C pt hp rfl hl (kBlock 0 (kSeq (ev cx1 (len + 54) 1 3 (codeAt Try.prog 3 [1, 1, 1, 1, 1, 1])) (kRet (Cx.P cx1) [(ResultVar.tmp 4)] 1 (fun v _ => v = .sa (.one (.raw (.bool true)))))))
    (fun i q lo hi va s v b w1 w2 w3 w4 => by rw [t_downEndA]; rfl) (fun i q lo hi va s v b w1 w2 w3 w4 o => by rw [t_downEndB]; rfl) len 0 0 (by omega) (by omega) (by omega) (by omega)).1
  rw [hd0] at L
  exact L _ _ _ _ _ _ _ _ _ _
theorem lawDownNil (mtu ss sr rr mm ri rmin rmax it pt al beat life : Int) (o : Option Addr) : ∃ n, evCall cx1 (ev cx1 n) 3 [.agg (cellsC ⟨mtu, ss, sr, rr, mm, ri, rmin, rmax, it, pt, al, beat, life⟩), .one (.raw (.slice o 0 0))] [] (fun v _ => v = .sa (.one (.raw (.bool true)))) := by
  refine ⟨60, ?_⟩
  unfold cellsC
  refine (t_downNil mtu ss sr rr mm ri rmin rmax it pt al beat life o (fun v _ => v = .sa (.one (.raw (.bool true))))).mpr ?_
  repeat' first | exact rfl | refine br (fun _ => ?_) (fun _ => ?_)
end Go.Ev
