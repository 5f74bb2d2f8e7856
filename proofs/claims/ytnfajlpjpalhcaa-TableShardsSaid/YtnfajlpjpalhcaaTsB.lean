/- Table: texts TbQ, TbRD, TrT, RgB, RgL, TbR, TbU, TbVD, one behind the other. No conditions. -/
import Derived.Test.YtnfajlpjpalhcaaTsA
import Derived.Test.YtnfajlpjpalhcaaEvD
import Derived.Maps.RangeRun
set_option linter.unusedVariables false
set_option linter.unusedSimpArgs false
section
namespace Go.Ev
open Go Go.Proofs Go.Spec
attribute [local irreducible] ev evCall branch need again
theorem To.grown {α : Al} {st : St} {w w' : World} (hR : R α st w) (hk : ∀ b, b < w.heap.size → w'.heap[b]? = w.heap[b]?) (hs : w.heap.size ≤ w'.heap.size) (ht : TapeOk w w') (ho : w'.os = w.os) (hp : w'.output = w.output) : To α st w α st w' := by
  have foot : ∀ {o so d}, st.get o = some so → α o = some d → Good α w' d so ∧ (∀ b, Foot w' d so b → Foot w d so b) ∧ (∀ b, Foot w d so b → b < w.heap.size) ∧ Good α w d so := fun {o so d} h1 h2 => by
    obtain ⟨d', h3, h4⟩ := hR.good o so h1
    rw [h2] at h3; cases h3
    have hlt : ∀ b, Foot w d so b → b < w.heap.size := fun b hb => h4.lt hb
    obtain ⟨g1, g2⟩ := h4.kept (Al.le.refl _) (fun b hb => hk b (hlt b hb)) hs
    exact ⟨g1, g2, hlt, h4⟩
  have hkk : ∀ {o so d}, st.get o = some so → α o = some d → ∀ c, Foot w d so c → w'.heap[c]? = w.heap[c]? := fun h1 h2 c hc => hk c ((foot h1 h2).2.2.1 c hc)
  refine ⟨⟨fun o so ho => ?_, fun o o' so so' d d' b hne ho ho' hd hd' hw hl hf => ?_, fun o so d b ho hd hw hl hi => ?_, hR.none, hR.cell⟩, fun _ _ => rfl, Nat.le_refl _, fun o so d b ho hd hb hl => ?_, fun o so d b ho hd hb hi => ?_, fun b hb hw => ?_, fun b hb _ => hk b hb, hs, ht, ho, hp⟩
  · obtain ⟨d, h1, _⟩ := hR.good o so ho
    exact ⟨d, h1, (foot ho h1).1⟩
  · exact hR.sep o o' so so' d d' b hne ho ho' hd hd' hw (SO.lies_congr (α := α) (foot ho hd).2.2.2 (hkk ho hd) hl) ((foot ho' hd').2.1 b hf)
  · exact hR.self o so d b ho hd hw (SO.lies_congr (α := α) (foot ho hd).2.2.2 (hkk ho hd) hl) (Ice.congr (hkk ho hd) hi)
  · exact .inr ⟨St.get_lt ho, so, ho, SO.lies_congr (α := α) (foot ho hd).2.2.2 (hkk ho hd) hl⟩
  · exact .inr ⟨o, so, d, ho, hd, Ice.congr (hkk ho hd) hi⟩
  · obtain ⟨o, so, d, ho, hd, hw, hl⟩ := hw
    exact ⟨o, so, d, ho, hd, hw, SO.lies_congr (α := α) (foot ho hd).2.2.2 (hkk ho hd) hl⟩
theorem get1 {so so1 : SO} {o : Nat} (h : St.get [some so] o = some so1) : o = 0 ∧ so1 = so := by
  cases o with
  | zero => simp [St.get_eq] at h; exact ⟨rfl, h.symm⟩
  | succ n => simp [St.get_eq] at h
theorem R.one1 {α : Al} {so so' : SO} {w : World} (h : R α [some so] w) (hg : ∀ d, α 0 = some d → Good α w d so → Good α w d so') (hi : ∀ d b, ¬ Ice w d so' b) : R α [some so'] w := by
  refine ⟨fun o s ho => ?_, fun o o' s s' d d' b hne ho ho' _ _ _ _ _ => ?_, fun o s d b ho hd _ _ hh => ?_, h.none, h.cell⟩
  · obtain ⟨rfl, rfl⟩ := get1 ho
    obtain ⟨d, h1, h2⟩ := h.good 0 so rfl
    exact ⟨d, h1, hg d h1 h2⟩
  · obtain ⟨rfl, rfl⟩ := get1 ho
    obtain ⟨rfl, rfl⟩ := get1 ho'
    exact absurd rfl hne
  · obtain ⟨rfl, rfl⟩ := get1 ho
    exact hi _ _ hh
theorem To.one1 {α : Al} {s1 s1' s2 s2' : SO} {w w' : World} (h : To α [some s1] w α [some s2] w') (hl1 : ∀ w d b, s1.lies w d b → s1'.lies w d b) (hw1 : s1'.wr = true) (hw2 : s1.wr = true) (hl2 : ∀ w d b, s2'.lies w d b → s2.lies w d b) (hw3 : s2.wr = true) (hR : R α [some s2'] w') (hi : ∀ w d b, ¬ Ice w d s2' b) : To α [some s1'] w α [some s2'] w' := by
  have hwr : ∀ b, Wr α [some s1] w b → Wr α [some s1'] w b := by
    rintro b ⟨o, so, d, h1, h2, h3, h4⟩
    obtain ⟨rfl, rfl⟩ := get1 h1
    exact ⟨0, _, d, rfl, h2, hw1, hl1 _ _ _ h4⟩
  refine ⟨hR, fun _ _ => rfl, Nat.le_refl _, fun o so d b ho hd hb hl => ?_, fun o so d b ho hd hb hh => ?_, fun b hb hw => ?_, fun b hb hn => h.kept b hb fun hw => hn (hwr b hw), h.size, h.tape, h.os, h.output⟩
  · obtain ⟨rfl, rfl⟩ := get1 ho
    exact .inl (hwr b (h.wrs b hb ⟨0, s2, d, rfl, hd, hw3, hl2 _ _ _ hl⟩))
  · obtain ⟨rfl, rfl⟩ := get1 ho
    exact (hi _ _ _ hh).elim
  · obtain ⟨o, so, d, h1, h2, h3, h4⟩ := hw
    obtain ⟨rfl, rfl⟩ := get1 h1
    exact hwr b (h.wrs b hb ⟨0, s2, d, rfl, h2, hw3, hl2 _ _ _ h4⟩)
theorem flat_rowX {ks : List Kx} {so : SO} (h : rowX ks = some so) {w : World} {d : Den} {b : Nat} : ¬ Ice w d so b := by
  unfold rowX at h
  cases h
  rintro ⟨_, i, j, k, xs, v, h1, h2, _⟩
  simp only [Ct.get, colsAt, Col.at] at h2
  match j, h2 with
  | 0, h2 => simp at h2
  | 1, h2 => simp at h2
  | 2, h2 => simp at h2
  | n + 3, h2 => simp at h2
theorem getD_colP {ks : List Kx} {i : Nat} {x : Kx} (h : ks[i]? = some x) : (colP ks).getD i 0 = x.1 ∧ (colF ks).getD i 0 = x.2.1 ∧ (colG ks).getD i 0 = x.2.2 := by
  simp [colP, colF, colG, List.getD_eq_getElem?_getD, h]
theorem rowX_cells {ks : List Kx} {w : World} {α : Al} {cs : Array Value} {off : Nat} (h : ∀ i k, ks[i]? = some k → cs[off + i * 3]? = some (.int .u32 k.1) ∧ cs[off + i * 3 + 1]? = some (.int .u16 k.2.1) ∧ cs[off + i * 3 + 2]? = some (.int .u16 k.2.2)) :
    (Ct.tab (lenK ks) [.ints .u32 (colP ks), .ints .u16 (colF ks), .ints .u16 (colG ks)]).Cells w α 3 fun i j => cs[off + i * 3 + j]? := fun i hi => by
  have hi : i < ks.length := hi
  obtain ⟨h0, h1, h2⟩ := h i _ (List.getElem?_eq_getElem hi)
  obtain ⟨g0, g1, g2⟩ := getD_colP (List.getElem?_eq_getElem hi)
  refine ⟨rfl, fun j c hj => ?_⟩
  simp only [Ct.get, colsAt, Col.at, g0, g1, g2] at hj
  match j, hj with
  | 0, hj => simp at hj; subst hj; exact ⟨_, rfl, h0, rfl⟩
  | 1, hj => simp at hj; subst hj; exact ⟨_, rfl, h1, rfl⟩
  | 2, hj => simp at hj; subst hj; exact ⟨_, rfl, h2, rfl⟩
  | n + 3, hj => simp at hj
theorem encK_get (x : Kx) : (encK x)[0]! = .int .u32 x.1 ∧ (encK x)[1]! = .int .u16 x.2.1 ∧ (encK x)[2]! = .int .u16 x.2.2 := ⟨rfl, rfl, rfl⟩
theorem cmpLaysK (blk off size : Nat) (w : World) : CmpLays Try.prog 26 #[] encK 3 ordK blk off size w := fun m os dk _ x y => by
  have := order_calls x y (Go.Proofs.sortWorldK encK 3 w blk off m dk os)
  simpa using this
theorem insK_perm {x : Kx} : ∀ {l : List Kx}, (insK x l).Perm (x :: l)
  | [] => .refl _
  | y :: r => by
    unfold insK
    split
    · exact (insK_perm.cons y).trans (.swap x y r)
    · exact .refl _
theorem sortK_perm : ∀ {l : List Kx}, (sortK l).Perm l
  | [] => .refl _
  | x :: r => insK_perm.trans (sortK_perm.cons x)
theorem insK_sorted {x : Kx} : ∀ {l : List Kx}, l.Pairwise (fun a b => ltK b a = false) → (insK x l).Pairwise (fun a b => ltK b a = false)
  | [], _ => by simp [insK]
  | y :: r, h => by
    obtain ⟨h1, h2⟩ := List.pairwise_cons.1 h
    unfold insK
    split
    · rename_i e
      refine List.pairwise_cons.2 ⟨fun z hz => ?_, insK_sorted h2⟩
      rcases List.mem_cons.1 (insK_perm.mem_iff.1 hz) with rfl | hz
      · rw [ltK_iff] at e; rw [ltK_false]; omega
      · exact h1 z hz
    · rename_i e
      refine List.pairwise_cons.2 ⟨fun z hz => ?_, h⟩
      rcases List.mem_cons.1 hz with rfl | hz
      · exact e
      · have := h1 z hz
        rw [ltK_false] at *; omega
theorem sortK_sorted : ∀ {l : List Kx}, (sortK l).Pairwise (fun a b => ltK b a = false)
  | [] => List.Pairwise.nil
  | x :: r => insK_sorted sortK_sorted
theorem sortK_merge {ks : List Kx} : sortK ks = ks.mergeSort (fun x y => !ltK y x) := by
  have h := Go.Sort.sorted_unique_holds (lt := ltK) swoK oneK ks.toArray (sortK ks).toArray ⟨by simp [sortK_perm.length_eq], fun i hi => ?_, ?_⟩ fun i j _ hij hj => ?_
  · simpa using h
  · have hi : ks.length ≤ i := by rcases hi with h | h; · omega
                                  · simpa using h
    rw [getElem!_neg _ _ (by simp [sortK_perm.length_eq]; omega), getElem!_neg _ _ (by simp; omega)]
  · have e1 : (sortK ks).toArray.extract 0 ks.toArray.size = (sortK ks).toArray := by rw [show ks.toArray.size = (sortK ks).toArray.size from by simp [sortK_perm.length_eq]]; exact Array.extract_size
    have e2 : ks.toArray.extract 0 ks.toArray.size = ks.toArray := Array.extract_size
    rw [e1, e2]
    exact sortK_perm
  · have hl : (sortK ks).length = ks.length := sortK_perm.length_eq
    have hj : j < ks.length := by simpa using hj
    rw [getElem!_pos _ j (by simp [hl, hj]), getElem!_pos _ i (by simp [hl]; omega)]
    exact List.pairwise_iff_getElem.1 sortK_sorted i j (by omega) (by omega) hij
theorem sorted_perm {L : List Kx} {d' : Array Kx} (h1 : Go.Sort.PermIn 0 L.toArray.size L.toArray d') (h2 : Go.Sort.SortedIn (ltOf ordK) 0 L.toArray.size d') {ks : List Kx} (hp : L.Perm ks) : d'.toList = sortK ks := by
  have hs : d'.size = L.length := by simpa using h1.1
  have hperm : d'.toList.Perm L := by
    have := h1.2.2
    have e1 : d'.extract 0 L.toArray.size = d' := by rw [show L.toArray.size = d'.size from by simp [hs]]; exact Array.extract_size
    have e2 : L.toArray.extract 0 L.toArray.size = L.toArray := Array.extract_size
    rw [e1, e2] at this
    exact this
  have hlen : ks.toArray.size = L.toArray.size := by simpa using hp.length_eq.symm
  rw [sortK_merge]
  refine Go.Sort.sorted_unique_holds (lt := ltK) swoK oneK ks.toArray d' ⟨by simp [hs, hp.length_eq], fun i hi => ?_, ?_⟩ (by rw [hlen]; exact h2)
  · have hi : ks.length ≤ i := by rcases hi with h | h; · omega
                                  · simpa using h
    rw [getElem!_neg _ _ (by have := hp.length_eq; omega), getElem!_neg _ _ (by simp; omega)]
  · have e1 : d'.extract 0 ks.toArray.size = d' := by rw [show ks.toArray.size = d'.size from by simp [hs, hp.length_eq]]; exact Array.extract_size
    have e2 : ks.toArray.extract 0 ks.toArray.size = ks.toArray := Array.extract_size
    rw [e1, e2]
    exact hperm.trans hp
theorem sortK_len {ks : List Kx} : (sortK ks).length = ks.length := sortK_perm.length_eq
theorem sort_call {α : Al} {w : World} {vals : List Value} {D : AD} {k : SV → St → Prop} (hR : R α [some (.abs true 1 D)] w) (hv : RepsA α [.one (.ref 0), .one (.raw (.func (.func 26) #[] #[]))] vals) (hn : lenK (sortT D) * 8 ≤ 140737488355328) (hk : k (.tup []) [rowX (sortT D)]) :
    CallsIn Fence.wide 0 Try.prog 29 vals.toArray w (CallPost α [some (.abs true 1 D)] w k) := by
  have hR1 := hR
  obtain ⟨d, hd, hm, L, hL, hg⟩ := hR.good 0 _ rfl
  have hks : ksT D = (D.sh.getD 0 []).map (·.1) := rfl
  by_cases hL0 : L = []
  · -- no keys
    subst hL0
    have hs0 : sortT D = [] := by
      have : (D.sh.getD 0 []).map (·.1) = [] := by rw [← hks]; exact List.Perm.nil_eq hL |>.symm
      unfold sortT; rw [this]; simp [sortK]
    have hRo : R α [some (.own true .row 36 3 (.lst []))] w := hR.one1 (fun d' hd' _ => by
      rw [hd] at hd'; cases hd'
      refine ⟨hm, by omega, ?_⟩
      rcases hg with ⟨h1, _, a, h2⟩ | ⟨h1, h2, h3, cs, fz, h4, h5, h6, h7⟩
      · exact .inl ⟨h1, rfl, a, 0, h2, fun _ => rfl⟩
      · exact .inr ⟨h1, h2, h3, cs, fz, h4, ⟨h5.1, h5.2.imp id fun x => ⟨rfl, x⟩⟩, h6, fun i hi => by simp [Ct.len] at hi⟩) (fun d b => by rintro ⟨_, i, j, kk, xs, v, h1, _⟩; simp [Ct.len] at h1)
    have hC : CallOk Try.prog (evCall cxT0 (ev cxT0 200)) := evCall_ok (run := ev cxT0 200) cxT0_ok (ev_sound cxT0_ok 200).1
    refine ((hC.1 29 _ _ _ (by decide) (Eq.mpr (t_sort0 (fun v st => v = .tup [] ∧ st = [some (.own true .row 36 3 (.lst []))])) ⟨rfl, rfl⟩)).2 α w vals hRo hv).mono fun e w' ⟨v, st', α', val, he, hvv, ⟨h1, h2⟩, hto⟩ => ?_
    subst h1; subst h2
    have hα : α' = α := by
      funext o
      cases o with
      | zero => exact hto.ext 0 (by simp)
      | succ n => rw [hto.rep.none (n + 1) (by simp), hR.none (n + 1) (by simp)]
    subst hα
    refine ⟨.tup [], _, α', val, he, hvv, hk, ?_⟩
    rw [hs0]
    refine hto.one1 (fun _ _ _ h => h) rfl rfl (fun _ _ _ h => h) rfl (hto.rep.one1 (fun d' hd' h => ?_) fun d b => flat_rowX rfl) fun w d b => flat_rowX rfl
    obtain ⟨g1, g2, g3⟩ := h
    refine ⟨g1, g2, ?_⟩
    rcases g3 with ⟨h1, h2, h3⟩ | ⟨h1, h2, h3, cs, fz, h4, h5, h6, h7⟩
    · exact .inl ⟨h1, rfl, h3⟩
    · exact .inr ⟨h1, h2, h3, cs, fz, h4, h5, h6, fun i hi => by simp [Ct.len, lenK] at hi⟩
  · -- the kit's contract
    rcases hg with ⟨_, h, _⟩ | ⟨h1, h2, h3, cs, fz, h4, h5, h6, h7⟩
    · exact absurd h hL0
    match vals, hv with
    | [v0, v1], ⟨e0, e1, _⟩ =>
    simp only [SA.rep, SC.val?, hd, Option.some.injEq] at e0 e1
    have hlt : d.blk < w.heap.size := (Array.getElem?_eq_some_iff.1 h4).1
    have hcell : ∀ i c, i < L.length → c < 3 → cs[d.off + (i * 3 + c)]? = some ((encK L[i]!)[c]!) := fun i c hi hc => by
      obtain ⟨a0, a1, a2⟩ := h7 i _ (List.getElem?_eq_getElem hi)
      rw [getElem!_pos L i hi]
      match c, hc with
      | 0, _ => exact a0
      | 1, _ => exact a1
      | 2, _ => exact a2
    have hH : Go.Sort.HoldsK encK 3 w d.blk d.off L.toArray := fun j hj => by
      rw [Go.Sort.size_flatK] at hj
      have hj : j < L.length * 3 := by simpa using hj
      rw [Go.Sort.get_flatK _ _ _ _ (by simpa using hj)]
      have hc := hcell (j / 3) (j % 3) (by omega) (by omega)
      rw [show j / 3 * 3 + j % 3 = j from by omega] at hc
      refine ⟨?_, ?_⟩
      · simp only [World.cell?, h4]
        simpa using hc
      · simp only [World.frozen?, h4]
        rcases h5.2 with rfl | rfl
        · simp
        · simp only [Bool.and_eq_false_iff, decide_eq_false_iff_not]
          have := (Array.getElem?_eq_some_iff.1 hc).1
          exact .inl (by omega)
    have hn' : L.toArray.size < 4611686018427387904 := by
      have e : (sortT D).length = L.length := by unfold sortT; rw [sortK_len, ← hks, hL.length_eq]
      unfold lenK at hn
      simp only [List.size_toArray]; omega
    have hcon := AnyQ.slices_SortFunc (P := Try.prog) Try.sortK 3 Try.isAgg36 Try.sizeOf36 encK (fun _ => rfl) (fun x v hv => by simp [encK] at hv; rcases hv with rfl | rfl | rfl <;> rfl) ordK swoK 26 #[] d.blk d.off d.cap L.toArray w (enters_of Try.func26 (by kernel_rfl) rfl) (cmpLaysK _ _ _ _) hH hlt hn'
    rw [← e0, ← e1, h2]
    refine (callsIn_wide.2 hcon).mono fun e w' ⟨he, d', n, os, hp, hs, hw⟩ => ?_
    have hd' : d'.toList = sortT D := sorted_perm hp hs hL
    have hdl : d'.size = L.length := by simpa using hp.1
    have hsl : (sortT D).length = L.length := by rw [← hd']; simpa using hdl
    refine ⟨.tup [], _, α, .tuple #[], he, ⟨[], trivial, rfl⟩, hk, ?_⟩
    -- the row, turned
    let cs' := Go.Sort.putCells id d.off (Go.Sort.flatK encK 3 d') cs
    let w1 : World := Go.Sort.putRowK encK 3 (Go.Sort.ahead w n) d.blk d.off d'
    have hb1 : w1.heap[d.blk]? = some (.cells cs' 36 fz) := by
      show (Go.Sort.mapBlock (Go.Sort.ahead w n) d.blk _).heap[d.blk]? = _
      simp only [Go.Sort.mapBlock, Array.getElem?_modify, Go.Sort.ahead, h4, if_true, Option.map_some, Go.Sort.onCells]
      rfl
    have hb2 : ∀ b, b ≠ d.blk → w1.heap[b]? = w.heap[b]? := fun b hb => by
      show (Go.Sort.mapBlock (Go.Sort.ahead w n) d.blk _).heap[b]? = _
      simp only [Go.Sort.mapBlock, Array.getElem?_modify, Go.Sort.ahead, if_neg (Ne.symm hb)]
    have hsz1 : w1.heap.size = w.heap.size := Go.Sort.size_putRow _ _ _ _ _
    have hcs : cs'.size = cs.size := by simp [cs', Go.Sort.putCells]
    have hnew : ∀ i c, i < L.length → c < 3 → cs'[d.off + (i * 3 + c)]? = some ((encK d'[i]!)[c]!) := fun i c hi hc => by
      have hold := hcell i c hi hc
      simp only [cs', Go.Sort.putCells, Array.getElem?_mapIdx, hold, Option.map_some, Go.Sort.size_flatK, hdl]
      rw [if_pos ⟨by omega, by omega⟩, show d.off + (i * 3 + c) - d.off = i * 3 + c from by omega, Go.Sort.get_flatK _ _ _ _ (by rw [hdl]; omega)]
      rw [show (i * 3 + c) / 3 = i from by omega, show (i * 3 + c) % 3 = c from by omega]
      rfl
    have hcellv : ∀ v ∈ cs'.toList, isCell v = true := fun v hv => by
      obtain ⟨j, hj, rfl⟩ := List.getElem_of_mem hv
      have hj' : j < cs.size := by simpa [hcs] using hj
      rw [Array.getElem_toList]
      simp only [cs', Go.Sort.putCells, Array.getElem_mapIdx]
      split
      · rename_i hr
        rw [Go.Sort.get_flatK _ _ _ _ (by rw [Go.Sort.size_flatK] at hr; omega)]
        generalize d'[(j - d.off) / 3]! = x
        have : (j - d.off) % 3 < 3 := by omega
        match (j - d.off) % 3, this with
        | 0, _ => rfl
        | 1, _ => rfl
        | 2, _ => rfl
      · exact h5.1 _ (by simp)
    have hto1 : To α [some (.abs true 1 D)] w α (St.put [some (.abs true 1 D)] 0 (rowX (sortT D))) w1 := by
      refine To.upd hR1 rfl hd rfl hsz1 (fun b hb => hb2 b fun e => hb ⟨h1, e⟩) ⟨rfl, Nat.le_add_right _ _⟩ rfl rfl ⟨hm, by omega, .inr ⟨h1, ?_, ?_, cs', fz, hb1, ⟨hcellv, ?_⟩, by rw [hcs]; exact h6, ?_⟩⟩ (fun b hb => hb) (fun b hb => (flat_rowX rfl hb).elim) fun _ b _ hb => flat_rowX rfl hb
      · rw [h2]; show _ = Value.slice _ (sortT D).length _; rw [hsl]
      · show (sortT D).length ≤ _; rw [hsl]; exact h3
      · rw [hcs]; exact h5.2.imp id fun x => ⟨rfl, x⟩
      · refine rowX_cells fun i x hx => ?_
        have hi : i < L.length := by rw [← hsl]; exact (List.getElem?_eq_some_iff.1 hx).1
        have hx' : d'[i]! = x := by
          rw [← hd'] at hx
          rw [getElem!_pos d' i (by rw [hdl]; exact hi)]
          have := (List.getElem?_eq_some_iff.1 hx).2
          simpa using this
        have a0 := hnew i 0 hi (by omega)
        have a1 := hnew i 1 hi (by omega)
        have a2 := hnew i 2 hi (by omega)
        rw [hx'] at a0 a1 a2
        exact ⟨a0, a1, a2⟩
    have hw' : w' = Go.Sort.grow w1 os := hw
    rw [hw']
    refine hto1.trans (To.grown hto1.rep (fun b hb => ?_) ?_ ⟨rfl, Nat.le_refl _⟩ rfl rfl)
    · show (w1.heap ++ os)[b]? = _
      rw [Array.getElem?_append_left hb]
    · show _ ≤ (w1.heap ++ os).size
      simp
theorem sortF_sum : SumOk Try.prog 29 sSortF := by
  refine fun args st => ⟨?_, fun k h α w vals hR hv => ?_⟩
  · unfold sSortF
    split
    · split
      · exact linNeed (linNeed linRet)
      · exact fun _ h => h.elim
    · exact fun _ h => h.elim
  · unfold sSortF at h
    split at h
    · split at h
      · have hh := need_iff.1 (need_iff.1 h).2
        have h1 := of_decide_eq_true (need_iff.1 h).1
        subst h1
        exact sort_call hR hv (of_decide_eq_true hh.1) hh.2
      · exact h.elim
    · exact h.elim
end Go.Ev
end
section
namespace Go.Spec
open Go Go.Ev
def kxOf (v : Value) : Kx := match v with
  | .agg ⟨[.int _ a, .int _ b, .int _ c]⟩ => (a, b, c)
  | _ => (0, 0, 0)
def keysR (rs : List MapEntry) : List Kx := rs.map fun x => kxOf x.key
def prD (ks : List Kx) : TbD := ⟨[ks.map fun k => (k, 0)]⟩
end Go.Spec
namespace Go.Ev
open Go Go.Proofs Go.Spec
def opsAt (P : Program) (f : FuncId) (way : List Nat) : List Oper := match codeAt P f way with
  | .region _ ops _ => ops.toList
  | _ => []
noncomputable def apA : Code := codeAt Try.prog 35 [1, 0, 1, 0, 0]
noncomputable def apB : Code := codeAt Try.prog 35 [1, 0, 1, 0, 1]
def nilS : SV := .sa (.one (.raw (.slice none 0 0)))
def unS : Option SV := some (.tup [])
def kkT : List IntKind := [.u32, .u16, .u16]
def apFr : Fr := [some nilS, some (.sa (.one (.ref 1))), some (.sa (.one (.ptr 4 0 0))), unS, some nilS, unS, some (.sa (.one (.ref 1))), unS, unS, unS, unS, unS, unS]
def boxM (o : Nat) : Option SO := some (.mem true .whole 58 1 (.lst [[.ref o]]))
def cloK (o : Nat) : Option SO := some (.clo (.func 30) [] [.one (.ptr o 0 0)])
def boxS (o : Nat) : Option SO := some (.mem true .whole 57 1 (.lst [[.ref o]]))
noncomputable def lpK : Option SO := some (.lp true 35 apFr [7] apA apB 0 none)
noncomputable def sKeys1 : SumT := fun args st k => match args with
  | [.one (.ref 0), .one (.ptr 2 0 0)] => (match st with
    | [some (.lp true g fr [7] a b 0 none), some (.clo (.func g2) [] [.one (.ptr 2 0 0)]), some (.mem wb .whole T1 1 (.lst [[.ref 3]])), some (.mv false kk [] rs cl 0), some (.mem true .whole T2 1 (.lst [[.raw (.slice none 0 0)]]))] =>
      a = apA ∧ b = apB ∧ fr = apFr ∧ kk = kkT ∧ need (decide (g = 35 ∧ g2 = 30 ∧ T1 = 58 ∧ T2 = 57 ∧ wb = true)) (need (decide (lenK (keysR rs) * 8 ≤ 140737488355328)) (k (.tup []) [lpK, cloK 2, boxM 3, some (.mv false [.u32, .u16, .u16] [] rs cl 0), boxS 5, some (.abs true 1 (prD (keysR rs)))]))
    | _ => False)
  | _ => False
noncomputable def cxR1 : Cx := mkCx Try.prog [(30, sKeys1)] [] []
noncomputable def stK (L : List Kx) (ob : Obj) (rs : List MapEntry) (cl : Nat) : St := [lpK, cloK 2, boxM 3, some (.mv false [.u32, .u16, .u16] [] rs cl 0), boxS 6, some (.box true ob), rowX L]
noncomputable def st0K (rs : List MapEntry) (cl : Nat) : St := [lpK, cloK 2, boxM 3, some (.mv false [.u32, .u16, .u16] [] rs cl 0), some (.mem true .whole 57 1 (.lst [[.raw (.slice none 0 0)]]))]
noncomputable def cxR2 : Cx := mkCx Try.prog [] [(30, 77, [0, 1, 5], []), (30, 78, [0, 1], [])] []
end Go.Ev
end
section
namespace Go.Ev
open Go Go.Proofs Go.Spec
theorem t_keys (w : Bool) (n i cl : Nat) (vs : List Value) (rs : List MapEntry) (k : SV → St → Prop) : evCall cxT0 (ev cxT0 60) 25 [.one (.ref 0)] [mvK false [] rs cl] k =
    (k (.sa (.one (SC.ref 1))) [(some (SO.mv false [.u32, .u16, .u16] [] rs cl 0)), (some (SO.clo (Fn.func 30) [] [(.one (SC.ptr 2 0 0))])), (obj 58 1 [(SC.ref 0)])]) := by kernel_rfl
theorem t_coll (cl : Nat) (rs : List MapEntry) (k : SV → St → Prop) : evCall cxR1 (ev cxR1 60) 28 [.one (.ref 0)] [cloK 1, boxM 2, mvK false [] rs cl] k =
    ((apA = apA) ∧ ((apB = apB) ∧ ((apFr = apFr) ∧ ((kkT = kkT) ∧ (need (decide ((((Spec.lenK (Spec.keysR rs)) * 8) ≤ 140737488355328))) (k (.sa (.one (SC.ref 3))) [(some (SO.clo (Fn.func 30) [] [(.one (SC.ptr 1 0 0))])), (obj 58 1 [(SC.ref 2)]), (some (SO.mv false [.u32, .u16, .u16] [] rs cl 0)), (some (SO.abs true 1 (Spec.prD (Spec.keysR rs))))])))))) := by kernel_rfl
theorem t_k0 (cl : Nat) (rs : List MapEntry) (k : Fr → St → Prop) : evOps cxT0 (evCall cxT0 (ev cxT0 50)) (opsAt Try.prog 30 [0]) (takeL 1 (opsAt Try.prog 30 [0])) (frm 14 [(0, .sa (.one (.ref 0))), (1, .sa (.one (.ptr 2 0 0)))]) [lpK, cloK 2, boxM 3, mvK false [] rs cl, some (.mem true .whole 57 1 (.lst [[.raw (.slice none 0 0)]]))] k =
    (k (frm 14 [(0, (.sa (.one (SC.ref 0)))), (1, (.sa (.one (SC.ptr 2 0 0)))), (4, (.sa (.one (SC.ref 3))))]) [(some (SO.lp true 35 (frm 13 [(0, (.sa (.one (SC.raw (Value.slice Option.none 0 0))))), (1, (.sa (.one (SC.ref 1)))), (2, (.sa (.one (SC.ptr 4 0 0)))), (3, (.tup [])), (4, (.sa (.one (SC.raw (Value.slice Option.none 0 0))))), (5, (.tup [])), (6, (.sa (.one (SC.ref 1)))), (7, (.tup [])), (8, (.tup [])), (9, (.tup [])), (10, (.tup [])), (11, (.tup [])), (12, (.tup []))]) [7] apA apB 0 Option.none)), (some (SO.clo (Fn.func 30) [] [(.one (SC.ptr 2 0 0))])), (obj 58 1 [(SC.ref 3)]), (some (SO.mv false [.u32, .u16, .u16] [] rs cl 0)), (obj 57 1 [(SC.raw (Value.slice Option.none 0 0))])]) := by kernel_rfl
theorem t_k2 (cl : Nat) (rs : List MapEntry) (p f g : Int) (v : Value) (L : List Kx) (ob : Obj) (k : Fr → St → Prop) : evOps cxT0 (evCall cxT0 (ev cxT0 50)) (opsAt Try.prog 30 [1, 0, 0, 1, 1, 0, 0]) (dropL 1 (opsAt Try.prog 30 [1, 0, 0, 1, 1, 0, 0])) (frm 14 [(0, .sa (.one (.ref 0))), (1, .sa (.one (.ptr 2 0 0))), (5, .sa (.one (.ref 5))), (8, .tup [kA p f g, .one (.raw v)])]) [lpK, cloK 2, boxM 3, mvK false [] rs cl, boxS 6, some (.box true ob), rowX L] k =
    (k (frm 14 [(0, (.sa (.one (SC.ref 0)))), (1, (.sa (.one (SC.ptr 2 0 0)))), (3, (.sa (.one (SC.ptr 7 0 0)))), (5, (.sa (.one (SC.ref 5)))), (8, (.tup [(.agg [(iv .u32 p), (iv .u16 f), (iv .u16 g)]), (.one (SC.raw v))])), (9, (.sa (.agg [(iv .u32 p), (iv .u16 f), (iv .u16 g)])))]) [(some (SO.lp true 35 (frm 13 [(0, (.sa (.one (SC.raw (Value.slice Option.none 0 0))))), (1, (.sa (.one (SC.ref 1)))), (2, (.sa (.one (SC.ptr 4 0 0)))), (3, (.tup [])), (4, (.sa (.one (SC.raw (Value.slice Option.none 0 0))))), (5, (.tup [])), (6, (.sa (.one (SC.ref 1)))), (7, (.tup [])), (8, (.tup [])), (9, (.tup [])), (10, (.tup [])), (11, (.tup [])), (12, (.tup []))]) [7] apA apB 0 Option.none)), (some (SO.clo (Fn.func 30) [] [(.one (SC.ptr 2 0 0))])), (obj 58 1 [(SC.ref 3)]), (some (SO.mv false [.u32, .u16, .u16] [] rs cl 0)), (obj 57 1 [(SC.ref 6)]), (some (SO.box true ob)), (some (SO.own true MK.row 36 3 (Ct.tab (Spec.lenK L) [(Col.ints .u32 (Spec.colP L)), (Col.ints .u16 (Spec.colF L)), (Col.ints .u16 (Spec.colG L))]))), (obj 36 3 [(iv .u32 p), (iv .u16 f), (iv .u16 g)])]) := by kernel_rfl
theorem t_k3 (cl : Nat) (rs : List MapEntry) (p f g v : Int) (L : List Kx) (ob : Obj) (k : Exit → Fr → St → Prop) : ev cxT0 50 5 30 (codeAt Try.prog 30 [1, 0, 0, 1, 1, 0, 1]) (frm 14 [(0, .sa (.one (.ref 0))), (1, .sa (.one (.ptr 2 0 0))), (3, .sa (.one (.ptr 7 0 0))), (5, .sa (.one (.ref 5)))]) [lpK, cloK 2, boxM 3, mvK false [] rs cl, boxS 6, some (.box true ob), rowX L, some (.mem true .whole 36 3 (.lst [[iv .u32 p, iv .u16 f, iv .u16 g]]))] k =
    (need (decide (((((Spec.lenK L) + 1) * 8) ≤ 140737488355328))) (k Exit.normal (frm 14 [(0, (.sa (.one (SC.ref 0)))), (1, (.sa (.one (SC.ptr 2 0 0)))), (3, (.sa (.one (SC.ptr 7 0 0)))), (5, (.sa (.one (SC.ref 5)))), (10, (.sa (.one (SC.ref 0)))), (11, (.sa (.agg [(iv .u32 p), (iv .u16 f), (iv .u16 g)]))), (12, (.sa (.one (bv true)))), (13, (.sa (.one (bv false))))]) [(some (SO.lp true 35 (frm 13 [(0, (.sa (.one (SC.raw (Value.slice Option.none 0 0))))), (1, (.sa (.one (SC.ref 1)))), (2, (.sa (.one (SC.ptr 4 0 0)))), (3, (.tup [])), (4, (.sa (.one (SC.raw (Value.slice Option.none 0 0))))), (5, (.tup [])), (6, (.sa (.one (SC.ref 1)))), (7, (.tup [])), (8, (.tup [])), (9, (.tup [])), (10, (.tup [])), (11, (.tup [])), (12, (.tup []))]) [7] apA apB 0 Option.none)), (some (SO.clo (Fn.func 30) [] [(.one (SC.ptr 2 0 0))])), (obj 58 1 [(SC.ref 3)]), (some (SO.mv false [.u32, .u16, .u16] [] rs cl 0)), (obj 57 1 [(SC.ref 8)]), (some (SO.box true ob)), Option.none, (obj 36 3 [(iv .u32 p), (iv .u16 f), (iv .u16 g)]), (some (SO.own true MK.row 36 3 (Ct.tab ((Spec.lenK L) + 1) [(Col.ints .u32 ((fitL (0) (Spec.lenK L) (Spec.colP L)) ++ [p])), (Col.ints .u16 ((fitL (0) (Spec.lenK L) (Spec.colF L)) ++ [f])), (Col.ints .u16 ((fitL (0) (Spec.lenK L) (Spec.colG L)) ++ [g]))])))])) := by kernel_rfl
end Go.Ev
end
section
namespace Go.Ev
open Go
variable {P : Program}
theorem evOps_pre {cx : Cx} {call : CallT} {r : Option Nat} {ops : Array Oper} {Q : Exit → Act → World → Prop} {more : List Nat} (hP : cx.P = P) (hN : OpsOk P cx) (hC : CallOk P call) :
    ∀ (pre : List Oper) (i : Nat), (∀ j o, pre[j]? = some o → ops[i + j]? = some o) → ∀ {fr : Fr} {st : St} {k : Fr → St → Prop} {α : Al} {a : Act} {w : World}, R α st w → FrOk α fr a.tmps →
      evOps cx call ops.toList pre fr st k → (∀ fr' st' α' a' w', k fr' st' → FrOk α' fr' a'.tmps → To α st w α' st' w' → a'.defers = a.defers → wpOpsIn (Wide r) 0 P ops Q more a' w') →
      wpOpsIn (Wide r) 0 P ops Q (List.range' i pre.length ++ more) a w
  | [], i, _, fr, st, k, α, a, w, hR, hf, h, hK => by
    simp only [evOps, forceV_eq] at h
    exact hK fr st α a w h hf (To.refl hR) rfl
  | o :: rest, i, hd, fr, st, k, α, a, w, hR, hf, h, hK => by
    have ho : ops[i]? = some o := by simpa using hd 0 o rfl
    simp only [evOps, forceV_eq] at h
    simp only [List.length_cons, List.range'_succ, List.cons_append]
    rw [wpOpsIn_cons]
    simp only [wpOpIn, ho]
    have hd' : ∀ j q, rest[j]? = some q → ops[i + 1 + j]? = some q := fun j q hj => by
      have := hd (j + 1) q (by simpa using hj)
      rw [show i + 1 + j = i + (j + 1) from by omega]; exact this
    rcases evGuard_sound hf h with ⟨hw, fr', hf', h⟩ | ⟨hw, fr', hf', h⟩
    · rw [if_pos hw]
      refine evOp_sound hP hN hC hR (evOperand_rep hf') h fun sv st' α' w' v hk hv hto => ?_
      refine evOps_pre hP hN hC rest (i + 1) hd' hto.rep ((hf'.mono (hto.le hR)).put hv) hk fun fr2 st2 α2 a2 w2 x1 x2 x3 x4 => ?_
      exact hK fr2 st2 α2 a2 w2 x1 x2 (hto.trans x3) (by rw [x4, put_defers_eq])
    · rw [if_neg (by rw [hw]; simp)]
      refine ⟨fun _ _ => trivial, ?_⟩
      refine evOps_pre hP hN hC rest (i + 1) hd' hR (hf'.put (sv := undefV) (v := undef) ⟨[], trivial, rfl⟩) h fun fr2 st2 α2 a2 w2 x1 x2 x3 x4 => ?_
      exact hK fr2 st2 α2 a2 w2 x1 x2 x3 (by rw [x4, put_defers_eq])
theorem op_value {r : Option Nat} {ops : Array Oper} {Q : Exit → Act → World → Prop} {i : Nat} {rest : List Nat} {o : Oper} {a : Act} {w w' : World} {v : Value} (ho : ops[i]? = some o) (hg : o.guard = none)
    (hs : (o.semAt (Wide r).round a.eval).run P w = .ok (.value v) w') (h : wpOpsIn (Wide r) 0 P ops Q rest (a.put o.dst v) w') : wpOpsIn (Wide r) 0 P ops Q (i :: rest) a w := by
  rw [wpOpsIn_cons]
  simp only [wpOpIn, ho]
  rw [if_pos (by simp [Region.wanted, hg])]
  refine ⟨fun _ _ => trivial, ?_⟩
  rw [hs]
  exact h
theorem semAt_range {r : Option Nat} {o : Oper} {a : Act} {w w' : World} {T : TypeId} {x : Operand} {v : Value} (ho : o.op = .range T x) (h : (Instr.range T (a.eval x)).run P w = .ok v w') : (o.semAt r a.eval).run P w = .ok (.value v) w' := by
  obtain ⟨_, op, _, _, _, _⟩ := o
  subst ho
  cases r <;> simp [Oper.semAt, execOp, h]
theorem semAt_next {r : Option Nat} {o : Oper} {a : Act} {w w' : World} {x : Operand} {v : Value} (ho : o.op = .next x false) (h : (Instr.next (a.eval x) false o.type).run P w = .ok v w') : (o.semAt r a.eval).run P w = .ok (.value v) w' := by
  obtain ⟨_, op, _, _, _, _⟩ := o
  subst ho
  cases r <;> simp [Oper.semAt, execOp] at h ⊢ <;> simp [h]
theorem semAt_entry {r : Option Nat} {o : Oper} {a : Act} {w w' : World} {x : Operand} {v : Value} (ho : o.op = .entry x) (h : (Instr.entry (a.eval x)).run P w = .ok v w') : (o.semAt r a.eval).run P w = .ok (.value v) w' := by
  obtain ⟨_, op, _, _, _, _⟩ := o
  subst ho
  cases r <;> simp [Oper.semAt, execOp, h]
theorem semAt_extract {r : Option Nat} {o : Oper} {a : Act} {w : World} {x : Operand} {i : Nat} {vs : Array Value} {v : Value} (ho : o.op = .extract x i) (hx : a.eval x = .tuple vs) (hv : vs[i]? = some v) : (o.semAt r a.eval).run P w = .ok (.value v) w := by
  obtain ⟨_, op, _, _, _, _⟩ := o
  subst ho
  cases r <;> simp [Oper.semAt, execOp, Instr.extract, hx, hv]
structure RgF (w0 w : World) (ob : Obj) (it : Nat) (ds : List Deferred) : Prop where
  kept : ∀ b, b < w0.heap.size → w.heap[b]? = w0.heap[b]?
  size : w0.heap.size ≤ w.heap.size
  tape : TapeOk w0 w
  os : w.os = w0.os
  output : w.output = w0.output
  ob : w.heap[it]? = some ob
  new : w0.heap.size ≤ it
  marks : ∃ ms : List Nat, ms.Nodup ∧ ds = ms.map (fun b => ({ target := .collected b, args := #[] } : Deferred)) ∧ ∀ b ∈ ms, w0.heap.size ≤ b ∧ w.heap[b]? = some (.deferred (some []))
def itDen (it : Nat) : Den := ⟨it, 0, 1, 1, .pointer (some ⟨it, 0, none⟩), true⟩
section
variable {α : Al} {st : St} {w0 w : World} {ob : Obj} {it : Nat} {ds : List Deferred}
theorem RgF.foot (hF : RgF w0 w ob it ds) (hR : R α st w0) {o : Nat} {so : SO} {d : Den} (ho : st.get o = some so) (hd : α o = some d) : Good α w d so ∧ (∀ b, Foot w d so b → Foot w0 d so b) ∧ (∀ b, Foot w0 d so b → b < w0.heap.size) ∧ Good α w0 d so := by
  obtain ⟨d', h1, h2⟩ := hR.good o so ho
  rw [hd] at h1; cases h1
  have hlt : ∀ b, Foot w0 d so b → b < w0.heap.size := fun b hb => h2.lt hb
  obtain ⟨g1, g2⟩ := h2.kept (Al.le.refl _) (fun b hb => hF.kept b (hlt b hb)) hF.size
  exact ⟨g1, g2, hlt, h2⟩
theorem RgF.to (hF : RgF w0 w ob it ds) (hR : R α st w0) : To α st w0 (α.add st.length (itDen it)) (st ++ [some (.box true ob)]) w := by
  have hsame : ∀ o, o < st.length → (α.add st.length (itDen it)) o = α o := fun o ho => Al.add_other (by omega)
  have hle : α.le (α.add st.length (itDen it)) := Al.le_add (hR.none _ (Nat.le_refl _))
  have hbox : (α.add st.length (itDen it)) st.length = some (itDen it) := Al.add_same
  have hcase : ∀ o so d, St.get (st ++ [some (.box true ob)]) o = some so → (α.add st.length (itDen it)) o = some d → (o < st.length ∧ st.get o = some so ∧ α o = some d) ∨ (o = st.length ∧ so = .box true ob ∧ d = itDen it) := fun o so d ho hd => by
    rcases St.get_append ho with h | ⟨rfl, h⟩
    · have hlt := St.get_lt h
      exact .inl ⟨hlt, h, by rw [← hsame o hlt]; exact hd⟩
    · cases h
      rw [hbox] at hd; cases hd
      exact .inr ⟨rfl, rfl, rfl⟩
  refine ⟨⟨fun o so ho => ?_, fun o o' so so' d d' b hne ho ho' hd hd' hw hl hf => ?_, fun o so d b ho hd hw hl hi => ?_, fun o ho => ?_, fun o d hd => ?_⟩, hsame, by simp, fun o so d b ho hd hb hl => ?_, fun o so d b ho hd hb hi => ?_, fun b hb hw => ?_, fun b hb _ => hF.kept b hb, hF.size, hF.tape, hF.os, hF.output⟩
  · rcases St.get_append ho with h | ⟨rfl, h⟩
    · obtain ⟨d, h1, _⟩ := hR.good o so h
      exact ⟨d, hle _ _ h1, ((hF.foot hR h h1).1).congr hle (fun _ _ => rfl) (Nat.le_refl _)⟩
    · cases h
      exact ⟨_, hbox, rfl, hF.ob⟩
  · rcases hcase o so d ho hd with ⟨_, h1, h2⟩ | ⟨rfl, rfl, rfl⟩ <;> rcases hcase o' so' d' ho' hd' with ⟨_, h1', h2'⟩ | ⟨rfl, rfl, rfl⟩
    · obtain ⟨_, f1, _, _⟩ := hF.foot hR h1 h2
      obtain ⟨_, f2, _, _⟩ := hF.foot hR h1' h2'
      have hl0 : so.lies w0 d b := SO.lies_congr (α := α) (hF.foot hR h1 h2).2.2.2 (fun c hc => hF.kept c ((hF.foot hR h1 h2).2.2.1 c hc)) hl
      exact hR.sep o o' so so' d d' b hne h1 h1' h2 h2' hw hl0 (f2 b hf)
    · obtain ⟨_, f1, f2, _⟩ := hF.foot hR h1 h2
      have := f2 b (f1 b (.inl hl))
      rcases hf with hf | hf
      · have hf : b = it := hf
        have := hF.new; omega
      · exact hf.elim
    · obtain ⟨_, f1, f2, _⟩ := hF.foot hR h1' h2'
      have := f2 b (f1 b hf)
      have hl : b = it := hl
      have := hF.new; omega
    · exact hne rfl
  · rcases hcase o so d ho hd with ⟨_, h1, h2⟩ | ⟨rfl, rfl, rfl⟩
    · have hk : ∀ c, Foot w0 d so c → w.heap[c]? = w0.heap[c]? := fun c hc => hF.kept c ((hF.foot hR h1 h2).2.2.1 c hc)
      exact hR.self o so d b h1 h2 hw (SO.lies_congr (α := α) (hF.foot hR h1 h2).2.2.2 hk hl) (Ice.congr hk hi)
    · exact hi
  · simp only [List.length_append, List.length_cons, List.length_nil] at ho
    rw [Al.add_other (by omega)]; exact hR.none o (by omega)
  · by_cases h : o = st.length
    · subst h; rw [hbox] at hd; cases hd; rfl
    · rw [Al.add_other h] at hd; exact hR.cell o d hd
  · rcases hcase o so d ho hd with ⟨h0, h1, h2⟩ | ⟨rfl, rfl, rfl⟩
    · exact .inr ⟨h0, so, h1, SO.lies_congr (α := α) (hF.foot hR h1 h2).2.2.2 (fun c hc => hF.kept c ((hF.foot hR h1 h2).2.2.1 c hc)) hl⟩
    · have hl : b = it := hl
      have := hF.new; omega
  · rcases hcase o so d ho hd with ⟨h0, h1, h2⟩ | ⟨rfl, rfl, rfl⟩
    · exact .inr ⟨o, so, d, h1, h2, Ice.congr (fun c hc => hF.kept c ((hF.foot hR h1 h2).2.2.1 c hc)) hi⟩
    · exact hi.elim
  · obtain ⟨o, so, d, ho, hd, hw, hl⟩ := hw
    rcases hcase o so d ho hd with ⟨h0, h1, h2⟩ | ⟨rfl, rfl, rfl⟩
    · exact ⟨o, so, d, h1, h2, hw, SO.lies_congr (α := α) (hF.foot hR h1 h2).2.2.2 (fun c hc => hF.kept c ((hF.foot hR h1 h2).2.2.1 c hc)) hl⟩
    · have hl : b = it := hl
      have := hF.new; omega
theorem RgF.mk' (hF : RgF w0 w ob it ds) (hR : R α st w0) (hob : ob ≠ .deferred (some [])) : MarksOk w0 (α.add st.length (itDen it)) (st ++ [some (.box true ob)]) w ds := by
  obtain ⟨ms, h1, h2, h3⟩ := hF.marks
  refine ⟨ms, h1, h2, fun b hb => ⟨(h3 b hb).1, (h3 b hb).2, fun o so d ho hd hf => ?_⟩⟩
  rcases St.get_append ho with h | ⟨rfl, h⟩
  · have hd' : α o = some d := by rw [← hd]; exact (Al.add_other (by have := St.get_lt h; omega)).symm
    obtain ⟨_, f1, f2, _⟩ := hF.foot hR h hd'
    have := f2 b (f1 b hf)
    have := (h3 b hb).1
    omega
  · cases h
    rw [Al.add_same] at hd; cases hd
    rcases hf with hf | hf
    · have hf : b = it := hf
      subst hf
      have := (h3 _ hb).2
      rw [hF.ob] at this
      exact hob (Option.some.inj this)
    · exact hf.elim
theorem RgF.back {α' : Al} {st' : St} {w' : World} {j : Nat} (hR : R α st w0) (hn : ∀ b, ¬ Wr α st w0 b) (hto : To α st w0 α' st' w') (hm : MarksOk w0 α' st' w' ds) (hlt : st.length ≤ j) (hj : st'.get j = some (.box true ob)) :
    ∃ it', α' j = some ⟨it', (α' j).elim 0 (·.off), (α' j).elim 0 (·.m), (α' j).elim 0 (·.cap), .pointer (some ⟨it', 0, none⟩), (α' j).elim true (·.live)⟩ ∧ RgF w0 w' ob it' ds := by
  obtain ⟨d, hd, h1, h2⟩ := hto.rep.good j _ hj
  refine ⟨d.blk, by rw [hd]; obtain ⟨b, o, m, c, v, l⟩ := d; simp only at h1; subst h1; rfl, fun b hb => hto.kept b hb (hn b), hto.size, hto.tape, hto.os, hto.output, h2, ?_, ?_⟩
  · by_cases hb : d.blk < w0.heap.size
    · exfalso
      rcases hto.lies j _ d d.blk hj hd hb rfl with h | ⟨h, _⟩
      · exact hn _ h
      · omega
    · omega
  · obtain ⟨ms, h3, h4, h5⟩ := hm
    exact ⟨ms, h3, h4, fun b hb => ⟨(h5 b hb).1, (h5 b hb).2.1⟩⟩
theorem RgF.to0 (hF : RgF w0 w ob it ds) (hR : R α st w0) : To α st w0 α st w := by
  have hk : ∀ {o so d}, st.get o = some so → α o = some d → ∀ c, Foot w0 d so c → w.heap[c]? = w0.heap[c]? := fun h1 h2 c hc => hF.kept c ((hF.foot hR h1 h2).2.2.1 c hc)
  refine ⟨⟨fun o so ho => ?_, fun o o' so so' d d' b hne ho ho' hd hd' hw hl hf => ?_, fun o so d b ho hd hw hl hi => ?_, hR.none, hR.cell⟩, fun _ _ => rfl, Nat.le_refl _, fun o so d b ho hd hb hl => ?_, fun o so d b ho hd hb hi => ?_, fun b hb hw => ?_, fun b hb _ => hF.kept b hb, hF.size, hF.tape, hF.os, hF.output⟩
  · obtain ⟨d, h1, _⟩ := hR.good o so ho
    exact ⟨d, h1, (hF.foot hR ho h1).1⟩
  · exact hR.sep o o' so so' d d' b hne ho ho' hd hd' hw (SO.lies_congr (α := α) (hF.foot hR ho hd).2.2.2 (hk ho hd) hl) ((hF.foot hR ho' hd').2.1 b hf)
  · exact hR.self o so d b ho hd hw (SO.lies_congr (α := α) (hF.foot hR ho hd).2.2.2 (hk ho hd) hl) (Ice.congr (hk ho hd) hi)
  · exact .inr ⟨St.get_lt ho, so, ho, SO.lies_congr (α := α) (hF.foot hR ho hd).2.2.2 (hk ho hd) hl⟩
  · exact .inr ⟨o, so, d, ho, hd, Ice.congr (hk ho hd) hi⟩
  · obtain ⟨o, so, d, ho, hd, hw, hl⟩ := hw
    exact ⟨o, so, d, ho, hd, hw, SO.lies_congr (α := α) (hF.foot hR ho hd).2.2.2 (hk ho hd) hl⟩
theorem RgF.leave {fn : Func} {tmps : Array Value} {S : Ending → World → Prop} (hF : RgF w0 w ob it ds) (hR : R α st w0) (h : ∀ w', To α st w0 α st w' → ∃ v, (results fn tmps).run P w' = .ok v w' ∧ S (.returned v) w') :
    LeavesInM Fence.wide 0 P fn tmps S ds .returning w := by
  obtain ⟨ms, h1, h2, h3⟩ := hF.marks
  rw [h2]
  refine leaves_marks ms w h1 (hF.to0 hR) (fun b hb => ⟨(h3 b hb).1, (h3 b hb).2, fun o so d ho hd hf => ?_⟩) h
  obtain ⟨_, f1, f2, _⟩ := hF.foot hR ho hd
  have := f2 b (f1 b hf)
  have := (h3 b hb).1
  omega
theorem RgF.start {α' : Al} {st' : St} {w' : World} (hn : ∀ b, ¬ Wr α st w0 b) (hto : To α st w0 α' st' w') (hm : MarksOk w0 α' st' w' ds) : RgF w0 (w'.alloc ob) ob w'.heap.size ds := by
  have hk : ∀ b, b < w'.heap.size → (w'.alloc ob).heap[b]? = w'.heap[b]? := fun b hb => by
    show (w'.heap.push ob)[b]? = _
    rw [Array.getElem?_push, if_neg (by omega)]
  refine ⟨fun b hb => (hk b (by have := hto.size; omega)).trans (hto.kept b hb (hn b)), ?_, ⟨hto.tape.tape, hto.tape.drawn⟩, hto.os, hto.output, ?_, hto.size, ?_⟩
  · show _ ≤ (w'.heap.push ob).size
    have := hto.size
    simp; omega
  · show (w'.heap.push ob)[w'.heap.size]? = _
    simp
  · obtain ⟨ms, h1, h2, h3⟩ := hm
    exact ⟨ms, h1, h2, fun b hb => ⟨(h3 b hb).1, (hk b (Array.getElem?_eq_some_iff.1 (h3 b hb).2.1).1).trans (h3 b hb).2.1⟩⟩
theorem frmFrom_get (l : List (Nat × SV)) : ∀ (n i t : Nat), (frmFrom l i n)[t]? = if t < n then some (frmAt (i + t) l) else none
  | 0, i, t => by simp [frmFrom]
  | n + 1, i, 0 => by simp [frmFrom]
  | n + 1, i, t + 1 => by
    simp only [frmFrom, List.getElem?_cons_succ, frmFrom_get l n (i + 1) t]
    by_cases h : t < n
    · rw [if_pos h, if_pos (by omega), show i + 1 + t = i + (t + 1) from by omega]
    · rw [if_neg h, if_neg (by omega)]
theorem frm_get {l : List (Nat × SV)} {n t : Nat} {sv : SV} : (frm n l).get t = some sv ↔ t < n ∧ frmAt t l = some sv := by
  rw [Fr.get_eq]
  simp only [frm, frmFrom_get, Nat.zero_add]
  by_cases h : t < n
  · rw [if_pos h]; simp [h]
  · rw [if_neg h]; simp [h]
theorem frm_length {l : List (Nat × SV)} {n : Nat} : (frm n l).length = n := by
  have : ∀ (n i : Nat), (frmFrom l i n).length = n := by
    intro n
    induction n with
    | zero => intro i; rfl
    | succ n ih => intro i; simp [frmFrom, ih]
  exact this n 0
theorem frmAt_mem {t : Nat} {sv : SV} : ∀ {l : List (Nat × SV)}, frmAt t l = some sv → (t, sv) ∈ l
  | [], h => by cases h
  | (j, v) :: r, h => by
    simp only [frmAt] at h
    split at h
    · rename_i hb
      have := Nat.eq_of_beq_eq_true hb
      cases h; subst this; simp
    · exact List.mem_cons_of_mem _ (frmAt_mem h)
theorem FrOk.ofL {n : Nat} {l : List (Nat × SV)} {tmps : Array Value} (hs : tmps.size = n) (h : ∀ p ∈ l, ∃ v, tmps[p.1]? = some v ∧ SV.rep α p.2 v) : FrOk α (frm n l) tmps :=
  ⟨by rw [frm_length, hs], fun t sv ht => h (t, sv) (frmAt_mem (frm_get.1 ht).2)⟩
theorem FrOk.atL {n : Nat} {l : List (Nat × SV)} {tmps : Array Value} (hf : FrOk α (frm n l) tmps) {t : Nat} {sv : SV} (ht : frmAt t l = some sv) (hlt : t < n) : ∃ v, tmps[t]? = some v ∧ SV.rep α sv v := hf.2 t sv (frm_get.2 ⟨hlt, ht⟩)
theorem FrOk.sizeL {n : Nat} {l : List (Nat × SV)} {tmps : Array Value} (hf : FrOk α (frm n l) tmps) : tmps.size = n := by rw [← hf.1, frm_length]
theorem box_piece {cx : Cx} (hx : CxOk P cx) {n f : Nat} {c : Code} {fr : Fr} {k : Exit → Fr → St → Prop} {Q : Exit → Act → World → Prop} {a : Act} (hob : ob ≠ .deferred (some [])) (hF : RgF w0 w ob it a.defers) (hR : R α st w0)
    (hf : FrOk (α.add st.length (itDen it)) fr a.tmps) (h : ev cx n st.length f c fr (st ++ [some (.box true ob)]) k)
    (hK : ∀ ex fr' st' α' a' w', k ex fr' st' → FrOk α' fr' a'.tmps → To α st w0 α' st' w' → MarksOk w0 α' st' w' a'.defers → Q ex a' w') : c.wpIn (Wide none) 0 P Q a w :=
  (ev_sound hx n).1 (fun _ => rfl) (hF.to hR) hf (hF.mk' hR hob) h fun ex fr' st' α' a' w' hk hf' hto hm => hK ex fr' st' α' a' w' hk hf' hto hm
end
end Go.Ev
end
section
namespace Go.Ev
open Go
open Go.ChangeMaps (setBlock)
variable {P : Program}
theorem eval_put_same {a : Act} {t : Nat} {v : Value} (h : t < a.tmps.size) : (a.put (some t) v).eval (.tmp t) = v := by
  simp [Act.put, Act.eval, h]
theorem eval_put_other {a : Act} {t t' : Nat} {v : Value} (h : t ≠ t') : (a.put (some t') v).eval (.tmp t) = a.eval (.tmp t) := by
  simp [Act.put, Act.eval, Array.getD_eq_getD_getElem?, Array.getElem?_setIfInBounds, Ne.symm h]
theorem put_size {a : Act} {d : Option Nat} {v : Value} : (a.put d v).tmps.size = a.tmps.size := by cases d <;> simp [Act.put]
theorem RgF.step {w0 w w1 : World} {ob ob' : Obj} {it : Nat} {ds : List Deferred} (hF : RgF w0 w ob it ds) (h1 : w1 = w ∨ w1 = w.drew) (hob : ob ≠ .deferred (some [])) : RgF w0 (setBlock w1 it ob') ob' it ds := by
  have hh : w1.heap = w.heap := by rcases h1 with rfl | rfl <;> rfl
  have hlt : it < w.heap.size := (Array.getElem?_eq_some_iff.1 hF.ob).1
  have hk : ∀ b, b ≠ it → (setBlock w1 it ob').heap[b]? = w.heap[b]? := fun b hb => by
    simp only [setBlock, hh, Array.getElem?_setIfInBounds]
    rw [if_neg (fun e => hb e.symm)]
  refine ⟨fun b hb => (hk b (by have := hF.new; omega)).trans (hF.kept b hb), ?_, ?_, ?_, ?_, ?_, hF.new, ?_⟩
  · simp only [setBlock, hh, Array.size_setIfInBounds]; exact hF.size
  · rcases h1 with rfl | rfl
    · exact ⟨hF.tape.tape, hF.tape.drawn⟩
    · exact ⟨hF.tape.tape, Nat.le_succ_of_le hF.tape.drawn⟩
  · rcases h1 with rfl | rfl <;> exact hF.os
  · rcases h1 with rfl | rfl <;> exact hF.output
  · simp [setBlock, hh, Array.getElem?_setIfInBounds, hlt]
  · obtain ⟨ms, m1, m2, m3⟩ := hF.marks
    refine ⟨ms, m1, m2, fun b hb => ⟨(m3 b hb).1, ?_⟩⟩
    by_cases e : b = it
    · subst e
      have := (m3 _ hb).2
      rw [hF.ob] at this
      exact absurd (Option.some.inj this) hob
    · rw [hk b e]; exact (m3 b hb).2
theorem range_loop {b0 id4 d1 d2 : Nat} {ops : Array Oper} {B : Code} {o1 o2 : Oper} {itT : Nat} {Q : Exit → Act → World → Prop} {a : Act} {w : World} {bm cl : Nat} {es : List MapEntry}
    (hs : ops.size = 2) (h1 : ops[0]? = some o1) (h2 : ops[1]? = some o2) (g1 : o1.guard = none) (g2 : o2.guard = none) (p1 : o1.op = .next (.tmp itT) false) (p2 : o2.op = .extract (.tmp d1) 0) (e1 : o1.dst = some d1) (e2 : o2.dst = some d2) (hd : d1 ≠ d2)
    (hyoung : ∀ x ∈ es, x.born < cl) (Inv : Array Nat → Act → World → Prop)
    (hI : ∀ seen a w, Inv seen a w → ∃ it, a.eval (.tmp itT) = .pointer (some ⟨it, 0, none⟩) ∧ w.heap[it]? = some (.mapIter (some bm) cl seen cl) ∧ w.heap[bm]? = some (.map es.toArray cl) ∧ d1 < a.tmps.size ∧ d2 < a.tmps.size)
    (h0 : ∃ seen, Inv seen a w)
    (over : ∀ seen a w, Inv seen a w → (∀ e ∈ es, seen.contains e.born = true) → Q .normal ((a.put (some d1) (.tuple #[.bool false])).put (some d2) (.bool false)) w)
    (step : ∀ seen a w it e w1, Inv seen a w → a.eval (.tmp itT) = .pointer (some ⟨it, 0, none⟩) → e ∈ es → seen.contains e.born = false → (w1 = w ∨ w1 = w.drew) →
      B.wpIn (Wide none) 0 P (Exit.then (fun a w => Inv (seen.push e.born) a w) (Exit.inBlock b0 Q)) ((a.put (some d1) (.tuple #[.bool true, e.key, e.val])).put (some d2) (.bool true)) (setBlock w1 it (.mapIter (some bm) cl (seen.push e.born) cl))) :
    (Code.block b0 (.loop (.seq (.region id4 ops false) (.seq (.cond (.tmp d2) .skip (.exit b0)) B)))).wpIn (Wide none) 0 P Q a w := by
  refine wpIn_block ?_
  refine wpIn_loop (fun a w => ∃ seen, Inv seen a w) (fun a w => match a.eval (.tmp itT) with
    | .pointer (some p) => (match w.heap[p.block]? with
      | some (.mapIter _ _ seen _) => (es.filter fun e => !seen.contains e.born).length
      | _ => 0)
    | _ => 0) h0 fun a w ⟨seen, hinv⟩ => ?_
  obtain ⟨it, q1, q2, q3, q4, q5⟩ := hI seen a w hinv
  simp only [q1, q2]
  refine wpIn_seq (wpIn_region ?_)
  have hr : List.range ops.size = [0, 1] := by rw [hs]; rfl
  rw [hr]
  have q5' : d2 < (a.put (some d1) (.tuple #[.bool false])).tmps.size := by rw [put_size]; exact q5
  rcases run_next_at (P := P) w o1.type it bm cl cl seen es.toArray cl q2 q3 (by simpa using hyoung) (Nat.le_refl _) with ⟨hz, hrun⟩ | ⟨e, he, w1, hw1, hrun⟩
  · refine op_value h1 g1 (semAt_next p1 (by rw [q1]; exact hrun)) (op_value h2 g2 (semAt_extract (v := .bool false) p2 (by rw [e1]; exact eval_put_same q4) rfl) ?_)
    rw [e1, e2]
    refine wpIn_seq (wpIn_cond_false (by exact eval_put_same (by rw [put_size]; exact q5)) (wpIn_exit ?_))
    show Exit.inBlock b0 Q (.exit b0) _ _
    simp only [Exit.inBlock, if_true]
    refine over seen a w hinv fun e he => ?_
    cases hc : seen.contains e.born with
    | true => rfl
    | false =>
      exfalso
      have : e ∈ (leftOf es.toArray seen).toList := by
        simp only [leftOf]
        rw [Array.toList_filter, List.mem_filter]
        exact ⟨by simpa using he, by rw [hc]; rfl⟩
      have hl : (leftOf es.toArray seen).toList.length = 0 := by simpa using hz
      rw [List.length_eq_zero_iff] at hl
      rw [hl] at this; cases this
  · have hmem : e ∈ es ∧ seen.contains e.born = false := by
      simp only [leftOf] at he
      rw [Array.toList_filter, List.mem_filter] at he
      exact ⟨by simpa using he.1, by simpa using he.2⟩
    refine op_value h1 g1 (semAt_next p1 (by rw [q1]; exact hrun)) (op_value h2 g2 (semAt_extract (v := .bool true) p2 (by rw [e1]; exact eval_put_same q4) rfl) ?_)
    rw [e1, e2]
    refine wpIn_seq (wpIn_cond_true (by exact eval_put_same (by rw [put_size]; exact q5)) (wpIn_skip ?_))
    refine wpIn_mono (step seen a w it e w1 hinv q1 hmem.1 hmem.2 hw1) fun ex a' w' hq => ?_
    cases ex with
    | normal =>
      refine ⟨⟨_, hq⟩, ?_⟩
      obtain ⟨it', r1, r2, _, _, _⟩ := hI _ _ _ hq
      simp only [r1, r2]
      have hsub : ∀ l : List MapEntry, (l.filter fun x => !(seen.push e.born).contains x.born).length ≤ (l.filter fun x => !seen.contains x.born).length := by
        intro l
        induction l with
        | nil => simp
        | cons x r ih =>
          simp only [List.filter_cons]
          by_cases hx : seen.contains x.born = true
          · have : (seen.push e.born).contains x.born = true := by simp only [Array.contains_push, Bool.or_eq_true]; first | exact .inl hx | exact .inr hx
            rw [if_neg (by rw [this]; simp), if_neg (by rw [hx]; simp)]; exact ih
          · rw [if_pos (show (!seen.contains x.born) = true by simpa using hx)]
            split
            · simp only [List.length_cons]; omega
            · simp only [List.length_cons]; omega
      have hstr : ∀ l : List MapEntry, e ∈ l → (l.filter fun x => !(seen.push e.born).contains x.born).length < (l.filter fun x => !seen.contains x.born).length := by
        intro l hl
        induction l with
        | nil => cases hl
        | cons x r ih =>
          simp only [List.filter_cons]
          by_cases hxe : x = e
          · subst hxe
            rw [if_neg (by simp), if_pos (show (!seen.contains x.born) = true by rw [hmem.2]; rfl)]
            have := hsub r
            simp only [List.length_cons]; omega
          · have hr := ih ((List.mem_cons.1 hl).resolve_left fun h => hxe h.symm)
            by_cases hx : seen.contains x.born = true
            · have : (seen.push e.born).contains x.born = true := by simp only [Array.contains_push, Bool.or_eq_true]; first | exact .inl hx | exact .inr hx
              rw [if_neg (by rw [this]; simp), if_neg (by rw [hx]; simp)]; exact hr
            · rw [if_pos (show (!seen.contains x.born) = true by simpa using hx)]
              split
              · simp only [List.length_cons]; omega
              · simp only [List.length_cons]; omega
      exact hstr es hmem.1
    | _ => exact hq
end Go.Ev
end
section
namespace Go.Ev
open Go Go.Proofs Go.Spec
open Go.ChangeMaps (setBlock)
attribute [local irreducible] ev evCall branch need again evOps
theorem k1Fn : Try.prog.funcs[(30 : Nat)]? = some Try.f30 := by kernel_rfl
theorem k1Body : Try.f30.body = some (codeAt Try.prog 30 []) := by kernel_rfl
theorem k1Res : Try.f30.results = #[] := by kernel_rfl
theorem k1Tmps : Try.f30.ntmps = 14 := by kernel_rfl
noncomputable def k1O (way : List Nat) : Array Oper := (opsAt Try.prog 30 way).toArray
theorem k1Code : codeAt Try.prog 30 [] = .seq (.region 0 (k1O [0]) false) (.block 0 (.loop (.seq (.region 1 (k1O [1, 0, 0, 0]) false) (.seq (.cond (.tmp 7) .skip (.exit 0))
    (.block 1 (.seq (.region 2 (k1O [1, 0, 0, 1, 1, 0, 0]) false) (codeAt Try.prog 30 [1, 0, 0, 1, 1, 0, 1]))))))) := by kernel_rfl
def isOp (o : Option Oper) (op : Op) (d : Nat) : Prop := ∃ q, o = some q ∧ q.op = op ∧ q.dst = some d ∧ q.guard = none
theorem k1Range : isOp (k1O [0])[1]? (.range 58 (.tmp 4)) 5 := ⟨_, rfl, rfl, rfl, rfl⟩
theorem k1Next : isOp (k1O [1, 0, 0, 0])[0]? (.next (.tmp 5) false) 6 := ⟨_, rfl, rfl, rfl, rfl⟩
theorem k1Ext : isOp (k1O [1, 0, 0, 0])[1]? (.extract (.tmp 6) 0) 7 := ⟨_, rfl, rfl, rfl, rfl⟩
theorem k1Entry : isOp (k1O [1, 0, 0, 1, 1, 0, 0])[0]? (.entry (.tmp 5)) 8 := ⟨_, rfl, rfl, rfl, rfl⟩
theorem k1Size0 : (k1O [0]).size = 2 := by kernel_rfl
theorem k1Size1 : (k1O [1, 0, 0, 0]).size = 2 := by kernel_rfl
theorem k1Size2 : (k1O [1, 0, 0, 1, 1, 0, 0]).size = 4 := by kernel_rfl
theorem k1MapT : ∃ k e, Try.prog.underlying 58 = some (.map k e) := ⟨_, _, rfl⟩
theorem cxR2_ok : CxOk Try.prog cxR2 := mkCx_ok namesT mixedT (by simp)
theorem tmp_at {a : Act} {t : Nat} {v : Value} (ht : t < a.tmps.size) (h : a.eval (.tmp t) = v) : a.tmps[t]? = some v := by
  simp only [Act.eval, Array.getD_eq_getD_getElem?] at h
  rw [Array.getElem?_eq_getElem ht] at h ⊢
  simpa using h
theorem To.retell {α α' : Al} {st st' : St} {w w' : World} {o : Nat} {so so' : SO} (h : To α st w α' st' w') (ho : st'.get o = some so) (hl : ∀ w d b, so'.lies w d b → so.lies w d b) (hw : so'.wr = true → so.wr = true) (hi : ∀ d b, ¬ Ice w' d so' b)
    (hg : ∀ d, α' o = some d → Good α' w' d so → Good α' w' d so') : To α st w α' (st'.put o (some so')) w' := by
  have hlt := St.get_lt ho
  have hcase : ∀ p s, (st'.put o (some so')).get p = some s → (p = o ∧ s = so') ∨ (p ≠ o ∧ st'.get p = some s) := fun p s hp => by
    by_cases e : p = o
    · subst e; rw [St.get_put_eq hlt] at hp; cases hp; exact .inl ⟨rfl, rfl⟩
    · rw [St.get_put_ne (Ne.symm e)] at hp; exact .inr ⟨e, hp⟩
  have hfoot : ∀ p s d b, (st'.put o (some so')).get p = some s → Foot w' d s b → ∃ s0, st'.get p = some s0 ∧ Foot w' d s0 b := fun p s d b hp hf => by
    rcases hcase p s hp with ⟨rfl, rfl⟩ | ⟨_, hp⟩
    · exact ⟨so, ho, .inl (hl _ _ _ (hf.resolve_right (hi d b)))⟩
    · exact ⟨s, hp, hf⟩
  have hlies : ∀ p s d b, (st'.put o (some so')).get p = some s → s.lies w' d b → ∃ s0, st'.get p = some s0 ∧ s0.lies w' d b ∧ (s.wr = true → s0.wr = true) := fun p s d b hp hf => by
    rcases hcase p s hp with ⟨rfl, rfl⟩ | ⟨_, hp⟩
    · exact ⟨so, ho, hl _ _ _ hf, hw⟩
    · exact ⟨s, hp, hf, id⟩
  refine ⟨⟨fun p s hp => ?_, fun p p' s s' d d' b hne hp hp' hd hd' hww hll hf => ?_, fun p s d b hp hd hww hll hii => ?_, fun p hp => h.rep.none p (by rwa [St.length_put] at hp), h.rep.cell⟩, h.ext, by rw [St.length_put]; exact h.len, fun p s d b hp hd hb hll => ?_, fun p s d b hp hd hb hii => ?_, fun b hb hww => ?_, h.kept, h.size, h.tape, h.os, h.output⟩
  · rcases hcase p s hp with ⟨rfl, rfl⟩ | ⟨_, hp⟩
    · obtain ⟨d, h1, h2⟩ := h.rep.good p so ho
      exact ⟨d, h1, hg d h1 h2⟩
    · exact h.rep.good p s hp
  · obtain ⟨s0, g1, g2, g3⟩ := hlies p s d b hp hll
    obtain ⟨s1, g4, g5⟩ := hfoot p' s' d' b hp' hf
    exact h.rep.sep p p' s0 s1 d d' b hne g1 g4 hd hd' (g3 hww) g2 g5
  · rcases hcase p s hp with ⟨rfl, rfl⟩ | ⟨_, hp⟩
    · exact hi d b hii
    · exact h.rep.self p s d b hp hd hww hll hii
  · obtain ⟨s0, g1, g2, _⟩ := hlies p s d b hp hll
    exact h.lies p s0 d b g1 hd hb g2
  · rcases hcase p s hp with ⟨rfl, rfl⟩ | ⟨_, hp⟩
    · exact (hi d b hii).elim
    · exact h.ice p s d b hp hd hb hii
  · obtain ⟨p, s, d, h1, h2, h3, h4⟩ := hww
    obtain ⟨s0, g1, g2, g3⟩ := hlies p s d b h1 h4
    exact h.wrs b hb ⟨p, s0, d, g1, h2, g3 h3, g2⟩
theorem kxOf_key (k : Kx) : kxOf (keyK k) = k := rfl
theorem keyK_of {l : List Int} (h : l.length = kK.length) : ∃ k : Kx, keyV kK l = keyK k := by
  match l, h with
  | [a, b, c], _ => exact ⟨(a, b, c), rfl⟩
theorem perm_keys {L : List Kx} {xs : List MapEntry} (hp : (L.map keyK).Perm (xs.map (·.key))) : L.Perm (keysR xs) := by
  have := hp.map kxOf
  rw [List.map_map, List.map_map] at this
  have e : (kxOf ∘ keyK : Kx → Kx) = id := rfl
  rw [e, List.map_id] at this
  exact this
theorem MvOk.nil {α : Al} {kk : List IntKind} {rs xs ps : List MapEntry} {cl : Nat} (m : MvOk α kk [] rs xs ps cl) : xs.Perm rs := by
  have : ps = [] := m.rep
  subst this
  exact m.perm
theorem good_pr {α : Al} {w : World} {d : Den} {L ks : List Kx} {so : SO} (hso : rowX L = some so) (hp : L.Perm ks) (h : Good α w d so) : Good α w d (.abs true 1 (prD ks)) := by
  unfold rowX at hso; cases hso
  obtain ⟨h1, h2, h3⟩ := h
  have hk : ksT (prD ks) = ks := by simp [ksT, prD, List.map_map, Function.comp_def]
  refine ⟨h1, L, by rw [hk]; exact hp, ?_⟩
  rcases h3 with ⟨g1, g2, a, c, g3, g4⟩ | ⟨g1, g2, g3, cs, fz, g4, g5, g6, g7⟩
  · refine .inl ⟨g1, List.eq_nil_of_length_eq_zero g2, a, ?_⟩
    rw [g3, g4 rfl]
  · refine .inr ⟨g1, g2, g3, cs, fz, g4, ⟨g5.1, g5.2.imp id (·.2)⟩, g6, fun i k hk => ?_⟩
    have hi : i < L.length := (List.getElem?_eq_some_iff.1 hk).1
    obtain ⟨_, q⟩ := g7 i hi
    obtain ⟨e0, e1, e2⟩ := getD_colP hk
    simp only [Ct.get, colsAt, Col.at, e0, e1, e2] at q
    obtain ⟨v0, a0, b0, _⟩ := q 0 _ rfl
    obtain ⟨v1, a1, b1, _⟩ := q 1 _ rfl
    obtain ⟨v2, a2, b2, _⟩ := q 2 _ rfl
    simp only [CellOk, SC.val?, Option.some.injEq] at a0 a1 a2
    subst a0; subst a1; subst a2
    exact ⟨b0, b1, b2⟩
theorem t_tidyK (cl : Nat) (rs : List MapEntry) (ob : Obj) (K : St → Prop) : tidyCell Try.prog 57 (st0K rs cl ++ [some (.box true ob)]) 4 0 0 K = K (stK [] ob rs cl) := by kernel_rfl
theorem t_f78 (cl : Nat) (rs : List MapEntry) (ob : Obj) (L : List Kx) (c : Code) (K : Fr → St → Prop) : atKey cxR2 30 78 c 5 (frm 14 [(0, .sa (.one (.ref 0))), (1, .sa (.one (.ptr 2 0 0))), (5, .sa (.one (.ref 5)))]) (stK L ob rs cl) K =
    Again (K (frm 14 [(0, .sa (.one (.ref 0))), (1, .sa (.one (.ptr 2 0 0)))]) [lpK, cloK 2, boxM 3, some (.mv false [.u32, .u16, .u16] [] rs cl 0), boxS 5, rowX L]) := by kernel_rfl
theorem t_f77 (cl : Nat) (rs : List MapEntry) (ob : Obj) (L : List Kx) (x y : Option SO) (z1 z2 z3 z4 z5 : SV) (c : Code) (K : Fr → St → Prop) : atKey cxR2 30 77 c 5 (frm 14 [(0, .sa (.one (.ref 0))), (1, .sa (.one (.ptr 2 0 0))), (3, z1), (5, .sa (.one (.ref 5))), (10, z2), (11, z3), (12, z4), (13, z5)]) [lpK, cloK 2, boxM 3, some (.mv false [.u32, .u16, .u16] [] rs cl 0), boxS 8, some (.box true ob), x, y, rowX L] K =
    Again (K (frm 14 [(0, .sa (.one (.ref 0))), (1, .sa (.one (.ptr 2 0 0))), (5, .sa (.one (.ref 5)))]) (stK L ob rs cl)) := by kernel_rfl
attribute [local irreducible] tidyCell atKey
theorem FrOk.agree {α : Al} {n : Nat} {l l' : List (Nat × SV)} {tmps tmps' : Array Value} (hf : FrOk α (frm n l) tmps) (hs : tmps'.size = tmps.size) (h : ∀ p ∈ l', frmAt p.1 l = some p.2 ∧ p.1 < n ∧ tmps'[p.1]? = tmps[p.1]?) : FrOk α (frm n l') tmps' :=
  FrOk.ofL (by rw [hs]; exact hf.sizeL) fun p hp => by
    obtain ⟨h1, h2, h3⟩ := h p hp
    obtain ⟨v, v1, v2⟩ := hf.atL h1 h2
    exact ⟨v, by rw [h3]; exact v1, v2⟩
theorem put_other {a : Act} {t t' : Nat} {v : Value} (h : t ≠ t') : (a.put (some t') v).tmps[t]? = a.tmps[t]? := by
  simp [Act.put, Array.getElem?_setIfInBounds, Ne.symm h]
theorem filter_push {xs : List MapEntry} {seen : Array Nat} {e : MapEntry} (he : e ∈ xs) (hn : seen.contains e.born = false) (hb : (xs.map (·.born)).Nodup) :
    (xs.filter fun x => (seen.push e.born).contains x.born).Perm (xs.filter (fun x => seen.contains x.born) ++ [e]) := by
  induction xs with
  | nil => cases he
  | cons x r ih =>
    simp only [List.map_cons, List.nodup_cons] at hb
    simp only [List.filter_cons]
    by_cases hxe : x = e
    · subst hxe
      have hr : ∀ y ∈ r, (seen.push x.born).contains y.born = seen.contains y.born := fun y hy => by
        have : ¬ (x.born = y.born) := fun h => hb.1 (by rw [h]; exact List.mem_map_of_mem hy)
        rw [Array.contains_push]
        have e1 : (x.born == y.born) = false := by simpa using this
        have e2 : (y.born == x.born) = false := by simpa using fun h => this h.symm
        simp [e1, e2]
      rw [if_pos (by simp), if_neg (by rw [hn]; simp), List.filter_congr hr]
      exact (List.perm_append_singleton x _).symm
    · have her : e ∈ r := (List.mem_cons.1 he).resolve_left fun h => hxe h.symm
      have hx : (seen.push e.born).contains x.born = seen.contains x.born := by
        have : ¬ (e.born = x.born) := fun h => hb.1 (by rw [← h]; exact List.mem_map_of_mem her)
        rw [Array.contains_push]
        have e1 : (e.born == x.born) = false := by simpa using this
        have e2 : (x.born == e.born) = false := by simpa using fun h => this h.symm
        simp [e1, e2]
      rw [hx]
      split
      · exact (ih her hb.2).cons x
      · exact ih her hb.2
theorem filter_lt {xs : List MapEntry} {seen : Array Nat} {e : MapEntry} (he : e ∈ xs) (hn : seen.contains e.born = false) : (xs.filter fun x => seen.contains x.born).length + 1 ≤ xs.length := by
  induction xs with
  | nil => cases he
  | cons x r ih =>
    simp only [List.filter_cons, List.length_cons]
    by_cases hxe : x = e
    · subst hxe
      rw [if_neg (by rw [hn]; simp)]
      have := List.length_filter_le (fun x : MapEntry => seen.contains x.born) r
      omega
    · have := ih ((List.mem_cons.1 he).resolve_left fun h => hxe h.symm)
      split
      · simp only [List.length_cons]; omega
      · omega
theorem rowX_snoc {L : List Kx} {p f g : Int} : (some (SO.own true MK.row 36 3 (Ct.tab ((Spec.lenK L) + 1) [(Col.ints .u32 ((fitL (0) (Spec.lenK L) (Spec.colP L)) ++ [p])), (Col.ints .u16 ((fitL (0) (Spec.lenK L) (Spec.colF L)) ++ [f])), (Col.ints .u16 ((fitL (0) (Spec.lenK L) (Spec.colG L)) ++ [g]))]))) = rowX (L ++ [(p, f, g)]) := by
  simp only [rowX, lenK, colP, colF, colG, List.map_append, List.map_cons, List.map_nil, List.length_append, List.length_cons, List.length_nil]
  rw [fitL_same _ _ _ (by simp), fitL_same _ _ _ (by simp), fitL_same _ _ _ (by simp)]
theorem keys1_call {α : Al} {w0 : World} {vals : List Value} {rs : List MapEntry} {cl : Nat} {k : SV → St → Prop} (hR : R α (st0K rs cl) w0) (hv : RepsA α [.one (.ref 0), .one (.ptr 2 0 0)] vals) (hn : lenK (keysR rs) * 8 ≤ 140737488355328)
    (hk : k (.tup []) [lpK, cloK 2, boxM 3, some (.mv false [.u32, .u16, .u16] [] rs cl 0), boxS 5, some (.abs true 1 (prD (keysR rs)))]) :
    CallsIn Fence.wide 0 Try.prog 30 vals.toArray w0 (CallPost α (st0K rs cl) w0 k) := by
  obtain ⟨d3, hd3, hv3, xs, ps, hbm, mv⟩ := hR.good 3 _ rfl
  have hperm := mv.nil
  have hlt : d3.blk < w0.heap.size := (Array.getElem?_eq_some_iff.1 hbm).1
  have hnw : ¬ Wr α (st0K rs cl) w0 d3.blk := by
    rintro ⟨o, so, d, h1, h2, h3, h4⟩
    by_cases e : o = 3
    · subst e
      have : so = .mv false [.u32, .u16, .u16] [] rs cl 0 := by simpa [St.get_eq, st0K] using h1.symm
      subst this; cases h3
    · exact hR.sep o 3 so _ d d3 d3.blk e h1 rfl h2 hd3 h3 h4 (.inl rfl)
  have hlen : rs.length = xs.length := hperm.length_eq.symm
  match vals, hv with
  | [v0, v1], ⟨e0, e1, _⟩ =>
  refine callsIn_of_wp_marks k1Fn k1Body trivial ?_
  rw [k1Code, k1Tmps]
  have hrun : ∀ {cx : Cx} (hx : CxOk Try.prog cx) (n : Nat), RunOk Try.prog (ev cx n) := fun hx n => (ev_sound hx n).1
  have hC : CallOk Try.prog (evCall cxT0 (ev cxT0 50)) := evCall_ok (run := ev cxT0 50) cxT0_ok (ev_sound cxT0_ok 50).1
  have hf0 : FrOk α (frm 14 [(0, .sa (.one (.ref 0))), (1, .sa (.one (.ptr 2 0 0)))]) (#[v0, v1] ++ Array.replicate 12 undef) :=
    FrOk.ofL (by simp) fun p hp => by
      simp only [List.mem_cons, List.not_mem_nil, or_false] at hp
      rcases hp with rfl | rfl
      · exact ⟨v0, rfl, e0⟩
      · exact ⟨v1, rfl, e1⟩
  refine wpIn_seq (wpIn_region ?_)
  rw [k1Size0, show List.range 2 = List.range' 0 1 ++ [1] from rfl]
  refine evOps_pre (r := none) rfl cxT0_ok.ops hC (takeL 1 (opsAt Try.prog 30 [0])) 0 (fun j o hj => ?_) hR hf0 (k := fun fr st => (∃ l, fr = frm 14 l ∧ frmAt 0 l = some (.sa (.one (.ref 0))) ∧ frmAt 1 l = some (.sa (.one (.ptr 2 0 0))) ∧ frmAt 4 l = some (.sa (.one (.ref 3)))) ∧ st = st0K rs cl) (Eq.mpr (t_k0 ..) ⟨⟨_, rfl, rfl, rfl, rfl⟩, rfl⟩) ?_
  · rw [takeL_eq, List.getElem?_take] at hj
    split at hj
    · rw [Nat.zero_add]; show (opsAt Try.prog 30 [0]).toArray[j]? = some o; rw [List.getElem?_toArray]; exact hj
    · cases hj
  rintro fr1 st1 α1 a1 w1 ⟨⟨l1, rfl, hl10, hl11, hl14⟩, rfl⟩ hf1 hto1 hde1
  have h14 : a1.eval (.tmp 4) = .map (some d3.blk) := by
    obtain ⟨v, u1, u2⟩ := hf1.atL hl14 (by omega)
    have : α1 3 = some d3 := by rw [hto1.ext 3 (by simp [st0K])]; exact hd3
    simp only [SV.rep, SA.rep, SC.val?, this, Option.some.injEq] at u2
    simp only [Act.eval, Array.getD_eq_getD_getElem?, u1, Option.getD_some, ← u2]
    exact hv3
  have hb1 : w1.heap[d3.blk]? = some (.map xs.toArray cl) := (hto1.kept _ hlt hnw).trans hbm
  obtain ⟨q, q1, q2, q3, q4⟩ := k1Range
  obtain ⟨mk, me, hmt⟩ := k1MapT
  refine op_value q1 q4 (semAt_range q2 (by rw [h14]; exact run_range_map w1 _ mk me d3.blk xs.toArray cl hmt hb1)) ?_
  rw [q3]
  have hto2 : To α (st0K rs cl) w0 (α1.add 5 (itDen w1.heap.size)) (st0K rs cl ++ [some (.box true (.mapIter (some d3.blk) cl #[] cl))]) (w1.alloc (.mapIter (some d3.blk) cl #[] cl)) :=
    hto1.trans (To.new hto1.rep (fun b h => h) (fun b h => h.elim) rfl ⟨rfl, heap_alloc_eq _ _⟩)
  obtain ⟨α3, st3, hst3, hto3⟩ := tidyCell_sound (k := fun s => s = stK [] (.mapIter (some d3.blk) cl #[] cl) rs cl) hto2.rep (by rw [t_tidyK])
  subst hst3
  have hto3' := hto2.trans hto3
  let Inv : Array Nat → Act → World → Prop := fun seen a w => ∃ α' L, To α (st0K rs cl) w0 α' (stK L (.mapIter (some d3.blk) cl seen cl) rs cl) w ∧ FrOk α' (frm 14 [(0, .sa (.one (.ref 0))), (1, .sa (.one (.ptr 2 0 0))), (5, .sa (.one (.ref 5)))]) a.tmps ∧
    MarksOk w0 α' (stK L (.mapIter (some d3.blk) cl seen cl) rs cl) w a.defers ∧ (L.map keyK).Perm ((xs.filter fun e => seen.contains e.born).map (·.key))
  have boxAt : ∀ {α' : Al} {L : List Kx} {ob : Obj} {w : World} {tmps : Array Value}, R α' (stK L ob rs cl) w → FrOk α' (frm 14 [(0, .sa (.one (.ref 0))), (1, .sa (.one (.ptr 2 0 0))), (5, .sa (.one (.ref 5)))]) tmps →
      ∃ d5, α' 5 = some d5 ∧ d5.val = .pointer (some ⟨d5.blk, 0, none⟩) ∧ w.heap[d5.blk]? = some ob ∧ tmps[5]? = some (.pointer (some ⟨d5.blk, 0, none⟩)) := fun hR' hf' => by
    obtain ⟨d5, g1, g2, g3⟩ := hR'.good 5 _ rfl
    obtain ⟨v, u1, u2⟩ := hf'.atL (t := 5) rfl (by omega)
    simp only [SV.rep, SA.rep, SC.val?, g1, Option.some.injEq] at u2
    exact ⟨d5, g1, g2, g3, by rw [u1, ← u2, g2]⟩
  obtain ⟨n1, n2, n3, n4, n5⟩ := k1Next
  obtain ⟨x1', x2', x3', x4', x5'⟩ := k1Ext
  refine range_loop (itT := 5) (d1 := 6) (d2 := 7) (bm := d3.blk) (cl := cl) (es := xs) k1Size1 n2 x2' n5 x5' n3 x3' n4 x4' (by omega) mv.young Inv (fun seen a w hi => ?_) ⟨#[], ?_⟩ (fun seen a w hi hall => ?_) (fun seen a w it e w2 hi hit he hse hw2 => ?_)
  · obtain ⟨α', L, hto, hf, hm, hL⟩ := hi
    obtain ⟨d5, g1, g2, g3, g4⟩ := boxAt hto.rep hf
    have hs : a.tmps.size = 14 := hf.sizeL
    exact ⟨d5.blk, by simp only [Act.eval, Array.getD_eq_getD_getElem?, g4, Option.getD_some], g3, (hto.kept _ hlt hnw).trans hbm, by omega, by omega⟩
  · refine ⟨α3, [], hto3', ?_, ?_, by simp⟩
    · refine FrOk.ofL (by rw [put_size]; exact hf1.sizeL) fun p hp => ?_
      simp only [List.mem_cons, List.not_mem_nil, or_false] at hp
      rcases hp with rfl | rfl | rfl
      · obtain ⟨v, u1, u2⟩ := hf1.atL hl10 (by omega)
        exact ⟨v, by rw [put_other (by omega)]; exact u1, SV.rep_mono (fun _ _ h => hto3.le hto2.rep _ _ (Al.le_add (hto1.rep.none 5 (by simp [st0K])) _ _ h)) u2⟩
      · obtain ⟨v, u1, u2⟩ := hf1.atL hl11 (by omega)
        exact ⟨v, by rw [put_other (by omega)]; exact u1, SV.rep_mono (fun _ _ h => hto3.le hto2.rep _ _ (Al.le_add (hto1.rep.none 5 (by simp [st0K])) _ _ h)) u2⟩
      · refine ⟨.pointer (some ⟨w1.heap.size, 0, none⟩), tmp_at (by rw [put_size, hf1.sizeL]; omega) (eval_put_same (by rw [hf1.sizeL]; omega)), ?_⟩
        have : α3 5 = some (itDen w1.heap.size) := by rw [hto3.ext 5 (by simp [st0K])]; exact Al.add_same
        simp only [SV.rep, SA.rep, SC.val?, this]; rfl
    · have : (a1.put (some 5) (.pointer (some ⟨w1.heap.size, 0, none⟩))).defers = [] := hde1
      rw [this]; exact MarksOk.nil _ _ _ _
  · -- none is left
    obtain ⟨α', L, hto, hf, hm, hL⟩ := hi
    have hfil : xs.filter (fun e => seen.contains e.born) = xs := List.filter_eq_self.2 fun e he => hall e he
    rw [hfil] at hL
    have hp : L.Perm (keysR rs) := (perm_keys hL).trans (hperm.map _)
    obtain ⟨α4, fr4, st4, ⟨rfl, rfl⟩, hf4, hto4, hsrc⟩ := atKey_sound (cx := cxR2) (f := 30) (i := 78) (c := .skip) (K := fun fr st => fr = frm 14 [(0, .sa (.one (.ref 0))), (1, .sa (.one (.ptr 2 0 0)))] ∧ st = [lpK, cloK 2, boxM 3, some (.mv false [.u32, .u16, .u16] [] rs cl 0), boxS 5, rowX L]) hto hf (by
      rw [show (st0K rs cl).length = 5 from rfl, t_f78]; exact ⟨⟨rfl, rfl⟩⟩)
    have hm4 := hm.src hsrc
    have hret := To.retell (o := 5) (so' := .abs true 1 (prD (keysR rs))) (To.refl hto4.rep) rfl (fun _ _ _ h => h) (fun _ => rfl) (fun d b h => h) (fun d hd hg => good_pr rfl hp hg)
    have hto5 := hto4.trans hret
    have hm5 := hm4.to hret
    obtain ⟨ms, m1, m2, m3⟩ := hm5
    show LeavesInM Fence.wide 0 Try.prog Try.f30 _ _ a.defers .returning w
    rw [m2]
    refine leaves_marks ms w m1 hto5 m3 fun w' hto' => ?_
    refine ⟨.tuple #[], ?_, .tup [], _, α4, _, rfl, ⟨[], trivial, rfl⟩, hk, hto'⟩
    simpa using results_run (P := Try.prog) (fn := Try.f30) (tmps := ((a.put (some 6) (.tuple #[.bool false])).put (some 7) (.bool false)).tmps) (vs := []) (w := w') (by rw [k1Res]; simp)
  · -- a round
    obtain ⟨α', L, hto, hf, hm, hL⟩ := hi
    obtain ⟨d5, g1, g2, g3, g4⟩ := boxAt hto.rep hf
    have hsz : a.tmps.size = 14 := hf.sizeL
    have hit5 : d5.blk = it := by
      simp only [Act.eval, Array.getD_eq_getD_getElem?, g4, Option.getD_some, Value.pointer.injEq, Option.some.injEq, Addr.mk.injEq, and_true] at hit
      exact hit
    subst hit5
    obtain ⟨kl, hkl, hkey⟩ := mv.ints e (hperm.mem_iff.1 he)
    obtain ⟨kx, hkx⟩ := keyK_of hkl
    have hA : To α' (stK L (.mapIter (some d3.blk) cl seen cl) rs cl) w α' (stK L (.mapIter (some d3.blk) cl seen cl) rs cl) w2 := by
      rcases hw2 with rfl | rfl
      · exact To.refl hto.rep
      · exact To.drew hto.rep
    have hlt5 : d5.blk < w2.heap.size := by
      have h2 : w2.heap = w.heap := by rcases hw2 with rfl | rfl <;> rfl
      rw [h2]; exact (Array.getElem?_eq_some_iff.1 g3).1
    generalize hob : Obj.mapIter (some d3.blk) cl (seen.push e.born) cl = ob
    have hB : To α' (stK L (.mapIter (some d3.blk) cl seen cl) rs cl) w α' (stK L ob rs cl) (setBlock w2 d5.blk ob) := by
      refine hA.trans (To.upd (o := 5) (so := .box true (.mapIter (some d3.blk) cl seen cl)) (so' := .box true ob) hA.rep rfl g1 rfl (by simp [setBlock]) (fun b hb => ?_) (.of rfl rfl) rfl rfl ⟨g2, ?_⟩ (fun b h => h) (fun b h => h.elim) fun _ b _ h => h.elim)
      · have hb : b ≠ d5.blk := hb
        simp only [setBlock, Array.getElem?_setIfInBounds]
        rw [if_neg (fun e => hb e.symm)]
      · simp [setBlock, Array.getElem?_setIfInBounds, hlt5]
    have htoB := hto.trans hB
    have hmB := hm.to hB
    generalize hw' : setBlock w2 d5.blk ob = w' at hB htoB hmB
    generalize ha' : (a.put (some 6) (.tuple #[.bool true, e.key, e.val])).put (some 7) (.bool true) = a'
    have hde : a'.defers = a.defers := by rw [← ha']; rfl
    have hsz' : a'.tmps.size = 14 := by rw [← ha', put_size, put_size]; exact hsz
    have hfB : FrOk α' (frm 14 [(0, .sa (.one (.ref 0))), (1, .sa (.one (.ptr 2 0 0))), (5, .sa (.one (.ref 5)))]) a'.tmps := by
      refine hf.agree (by rw [hsz', hsz]) fun p hp => ?_
      simp only [List.mem_cons, List.not_mem_nil, or_false] at hp
      rcases hp with rfl | rfl | rfl
      · exact ⟨rfl, by omega, by rw [← ha', put_other (by omega), put_other (by omega)]⟩
      · exact ⟨rfl, by omega, by rw [← ha', put_other (by omega), put_other (by omega)]⟩
      · exact ⟨rfl, by omega, by rw [← ha', put_other (by omega), put_other (by omega)]⟩
    obtain ⟨d5', q1', q2', q3', q4'⟩ := boxAt htoB.rep hfB
    have hd5 : d5' = d5 := by rw [g1] at q1'; cases q1'; rfl
    subst hd5
    have j5 : a'.eval (.tmp 5) = .pointer (some ⟨d5'.blk, 0, none⟩) := by simp only [Act.eval, Array.getD_eq_getD_getElem?, q4', Option.getD_some]
    have hbm' : w'.heap[d3.blk]? = some (.map xs.toArray cl) := (htoB.kept _ hlt hnw).trans hbm
    refine wpIn_block (wpIn_seq (wpIn_region ?_))
    rw [k1Size2, show List.range 4 = 0 :: List.range' 1 3 from rfl]
    obtain ⟨y, y1, y2, y3, y4⟩ := k1Entry
    refine op_value y1 y4 (semAt_entry (v := .tuple #[e.key, e.val]) y2 (by rw [j5]; exact run_entry_at w' d5'.blk d3.blk cl seen xs.toArray cl e (by rw [q3', hob]) hbm' (by simpa using he) (by simpa using mv.born))) ?_
    rw [y3]
    have hf8 : FrOk α' (frm 14 [(0, .sa (.one (.ref 0))), (1, .sa (.one (.ptr 2 0 0))), (5, .sa (.one (.ref 5))), (8, .tup [kA kx.1 kx.2.1 kx.2.2, .one (.raw e.val)])]) (a'.put (some 8) (.tuple #[e.key, e.val])).tmps := by
      refine FrOk.ofL (by rw [put_size]; exact hsz') fun p hp => ?_
      simp only [List.mem_cons, List.not_mem_nil, or_false] at hp
      rcases hp with rfl | rfl | rfl | rfl
      · obtain ⟨v, u1, u2⟩ := hfB.atL (t := 0) rfl (by omega); exact ⟨v, by rw [put_other (by omega)]; exact u1, u2⟩
      · obtain ⟨v, u1, u2⟩ := hfB.atL (t := 1) rfl (by omega); exact ⟨v, by rw [put_other (by omega)]; exact u1, u2⟩
      · obtain ⟨v, u1, u2⟩ := hfB.atL (t := 5) rfl (by omega); exact ⟨v, by rw [put_other (by omega)]; exact u1, u2⟩
      · refine ⟨.tuple #[e.key, e.val], by simp [Act.put, hsz'], [e.key, e.val], ⟨?_, rfl, trivial⟩, rfl⟩
        rw [hkey, hkx]
        exact ⟨encK kx, ⟨rfl, rfl, rfl, trivial⟩, rfl⟩
    have hdrop : (k1O [1, 0, 0, 1, 1, 0, 0]).toList.drop 1 = dropL 1 (opsAt Try.prog 30 [1, 0, 0, 1, 1, 0, 0]) := by rw [dropL_eq]; rfl
    have hlen2 : (dropL 1 (opsAt Try.prog 30 [1, 0, 0, 1, 1, 0, 0])).length = 3 := by kernel_rfl
    rw [← hlen2]
    refine evOps_sound (r := none) (cx := cxT0) (call := evCall cxT0 (ev cxT0 50)) rfl cxT0_ok.ops hC _ 1 hdrop htoB.rep hf8 (k := fun fr st => (∃ l, fr = frm 14 l ∧ frmAt 0 l = some (.sa (.one (.ref 0))) ∧ frmAt 1 l = some (.sa (.one (.ptr 2 0 0))) ∧ frmAt 3 l = some (.sa (.one (.ptr 7 0 0))) ∧ frmAt 5 l = some (.sa (.one (.ref 5)))) ∧
        st = [lpK, cloK 2, boxM 3, mvK false [] rs cl, boxS 6, some (.box true ob), rowX L, some (.mem true .whole 36 3 (.lst [[iv .u32 kx.1, iv .u16 kx.2.1, iv .u16 kx.2.2]]))])
      (Eq.mpr (t_k2 ..) ⟨⟨_, rfl, rfl, rfl, rfl, rfl⟩, rfl⟩) ?_
    rintro fr5 st5 α5 a5 w5 ⟨⟨l5, rfl, f50, f51, f53, f55⟩, rfl⟩ hf5 hto5 hde5
    have hto5' := htoB.trans hto5
    have hm5 := hmB.to hto5
    have hde5' : a5.defers = a.defers := hde5.trans hde
    rw [← hde5'] at hm5
    have hLl : L.length + 1 ≤ xs.length := by
      have h1 := hL.length_eq
      simp only [List.length_map] at h1
      have := filter_lt he hse
      omega
    have hnb : (lenK L + 1) * 8 ≤ 140737488355328 := by
      have : lenK (keysR rs) = xs.length := by simp [lenK, keysR, hlen]
      have h2 : lenK L = L.length := rfl
      omega
    have hf5' : FrOk α5 (frm 14 [(0, .sa (.one (.ref 0))), (1, .sa (.one (.ptr 2 0 0))), (3, .sa (.one (.ptr 7 0 0))), (5, .sa (.one (.ref 5)))]) a5.tmps := hf5.agree rfl fun p hp => by
      simp only [List.mem_cons, List.not_mem_nil, or_false] at hp
      rcases hp with rfl | rfl | rfl | rfl
      · exact ⟨f50, by omega, rfl⟩
      · exact ⟨f51, by omega, rfl⟩
      · exact ⟨f53, by omega, rfl⟩
      · exact ⟨f55, by omega, rfl⟩
    refine hrun cxT0_ok 50 (f := 30) (fun _ => rfl) hto5' hf5' hm5 (k := fun ex fr st => ex = .normal ∧ (∃ z1 z2 z3 z4 z5, fr = frm 14 [(0, .sa (.one (.ref 0))), (1, .sa (.one (.ptr 2 0 0))), (3, z1), (5, .sa (.one (.ref 5))), (10, z2), (11, z3), (12, z4), (13, z5)]) ∧
        ∃ x y, st = [lpK, cloK 2, boxM 3, some (.mv false [.u32, .u16, .u16] [] rs cl 0), boxS 8, some (.box true ob), x, y, rowX (L ++ [kx])]) ?_ ?_
    · rw [show (st0K rs cl).length = 5 from rfl]
      refine Eq.mpr (t_k3 (v := 0) ..) (ndd hnb ⟨rfl, ⟨_, _, _, _, _, rfl⟩, ?_⟩)
      rw [rowX_snoc]
      exact ⟨_, _, rfl⟩
    · rintro ex fr6 st6 α6 a6 w6 ⟨rfl, ⟨z1, z2, z3, z4, z5, rfl⟩, x, y, rfl⟩ hf6 hto6 hm6
      obtain ⟨α7, fr7, st7, ⟨rfl, rfl⟩, hf7, hto7, hsrc⟩ := atKey_sound (cx := cxR2) (f := 30) (i := 77) (c := .skip) (K := fun fr st => fr = frm 14 [(0, .sa (.one (.ref 0))), (1, .sa (.one (.ptr 2 0 0))), (5, .sa (.one (.ref 5)))] ∧ st = stK (L ++ [kx]) ob rs cl) hto6 hf6 (by
        rw [show (st0K rs cl).length = 5 from rfl, t_f77]; exact ⟨⟨rfl, rfl⟩⟩)
      show Inv (seen.push e.born) a6 w6
      refine ⟨α7, L ++ [kx], by rw [hob]; exact hto7, hf7, by rw [hob]; exact hm6.src hsrc, ?_⟩
      have h1 := (filter_push he hse mv.born).map (·.key)
      rw [List.map_append] at h1
      refine List.Perm.trans ?_ h1.symm
      rw [List.map_append]
      refine hL.append ?_
      simp only [List.map_cons, List.map_nil]
      rw [hkey, hkx]
theorem keys1_sum : SumOk Try.prog 30 sKeys1 := by
  refine fun args st => ⟨?_, fun k h α w vals hR hv => ?_⟩
  · intro k h
    unfold sKeys1 at h ⊢
    split at h
    · split at h
      · obtain ⟨h1, h2, h3, h4, h⟩ := h
        obtain ⟨h5, h⟩ := need_iff.1 h
        obtain ⟨h6, h⟩ := need_iff.1 h
        exact ⟨_, _, h, fun k2 hk => ⟨h1, h2, h3, h4, need_iff.2 ⟨h5, need_iff.2 ⟨h6, hk⟩⟩⟩⟩
      · exact h.elim
    · exact h.elim
  · unfold sKeys1 at h
    split at h
    · split at h
      · obtain ⟨h1, h2, h3, h4, h⟩ := h
        have hh := need_iff.1 (need_iff.1 h).2
        obtain ⟨c1, c2, c3, c4, c5⟩ := of_decide_eq_true (need_iff.1 h).1
        subst h1; subst h2; subst h3; subst h4; subst c1; subst c2; subst c3; subst c4; subst c5
        exact keys1_call hR hv (of_decide_eq_true hh.1) hh.2
      · exact h.elim
    · exact h.elim
theorem cxR1_ok : CxOk Try.prog cxR1 := mkCx_ok namesT mixedT (by
  intro y h
  simp only [List.mem_cons, List.not_mem_nil, or_false] at h
  rcases h with rfl
  exact keys1_sum)
end Go.Ev
end
section
namespace Go.Ev
open Go Go.Proofs Go.Spec
attribute [local irreducible] ev evCall branch need again
def vwT (L : Nat) : SO := .mem false .whole 62 1 (.lst [[.ref L]])
def vwR (L n : Nat) (vs : List Value) (i : Nat) : SO := .own false .row 58 1 (.at1 n vs i [.ref (L + 1)])
def vwM (es : List VE) (rs : List MapEntry) (cl : Nat) : SO := .mv false kK es rs cl 0
def opSt (st : St) (a n : Nat) (vs : List Value) (i : Nat) (es : List VE) (rs : List MapEntry) (cl : Nat) : St := st.put a (some (vwT st.length)) ++ [some (vwR st.length n vs i), some (vwM es rs cl)]
def clSt (st3 : St) (a L : Nat) (so : SO) : St := ((st3.put a (some so)).put L none).put (L + 1) none
theorem flat_vwT {L : Nat} : FlatO (vwT L) := fun w d b => ⟨fun h => h, fun h => by
  obtain ⟨i, j, k, xs, v, h1, h2, _⟩ := h
  simp only [Ct.get, getL_eq] at h2
  match i with
  | 0 => simp at h2; match j, h2 with
    | 0, h2 => simp at h2
    | n + 1, h2 => simp at h2
  | i + 1 => simp at h2⟩
theorem flat_vwR {L n : Nat} {vs : List Value} {i : Nat} : FlatO (vwR L n vs i) := flat_own fun i' j k' ys h => by
  rw [Ct.at1_get] at h
  split at h
  · match j, h with
    | 0, h => simp at h
    | n + 1, h => simp at h
  · match j, h with
    | 0, h => simp at h
    | n + 1, h => simp at h
theorem flat_vwM {es : List VE} {rs : List MapEntry} {cl : Nat} : FlatO (vwM es rs cl) := fun _ _ _ => ⟨fun h => h, fun h => h⟩
section
variable {α : Al} {st : St} {w : World} {a i n cl : Nat} {wr : Bool} {D : AD} {d : Den} {b0 : Nat × Nat} {rb ro rc bi : Nat} {bs : List Nat} {ms : List (List MapEntry × Nat)} {m : List MapEntry × Nat} {es : List VE} {rs ps : List MapEntry}
def opAl (α : Al) (L rb ro rc n bi : Nat) : Al := (α.add L ⟨rb, ro, 1, rc, .slice (some ⟨rb, ro, none⟩) n rc, true⟩).add (L + 1) (mapDen bi)
theorem opAl_old {L n p : Nat} (h : p < L) : opAl α L rb ro rc n bi p = α p := by
  unfold opAl; rw [Al.add_other (by omega), Al.add_other (by omega)]
theorem opAl_row {L n : Nat} : opAl α L rb ro rc n bi L = some ⟨rb, ro, 1, rc, .slice (some ⟨rb, ro, none⟩) n rc, true⟩ := by
  unfold opAl; rw [Al.add_other (by omega), Al.add_same]
theorem opAl_map {L n : Nat} : opAl α L rb ro rc n bi (L + 1) = some (mapDen bi) := by
  unfold opAl; rw [Al.add_same]
theorem opSt_get {n : Nat} {vs : List Value} (hlt : a < st.length) {p : Nat} {s : SO} (h : (opSt st a n vs i es rs cl).get p = some s) :
    (p = a ∧ s = vwT st.length) ∨ (p = st.length ∧ s = vwR st.length n vs i) ∨ (p = st.length + 1 ∧ s = vwM es rs cl) ∨ (p < st.length ∧ p ≠ a ∧ st.get p = some s) := by
  unfold opSt at h
  by_cases h1 : p < st.length
  · have e : (st.put a (some (vwT st.length)) ++ [some (vwR st.length n vs i), some (vwM es rs cl)]).get p = (st.put a (some (vwT st.length))).get p := by
      simp only [St.get_eq]
      rw [List.getElem?_append_left (by rw [St.length_put]; exact h1)]
    rw [e] at h
    by_cases h2 : p = a
    · subst h2; rw [St.get_put_eq h1] at h; cases h; exact .inl ⟨rfl, rfl⟩
    · rw [St.get_put_ne (Ne.symm h2)] at h; exact .inr (.inr (.inr ⟨h1, h2, h⟩))
  · simp only [St.get_eq] at h
    rw [List.getElem?_append_right (by rw [St.length_put]; omega), St.length_put] at h
    obtain ⟨q, rfl⟩ : ∃ q, p = st.length + q := ⟨p - st.length, by omega⟩
    rw [Nat.add_sub_cancel_left] at h
    match q, h with
    | 0, h => simp at h; exact .inr (.inl ⟨rfl, h.symm⟩)
    | 1, h => simp at h; exact .inr (.inr (.inl ⟨rfl, h.symm⟩))
    | q + 2, h => simp at h
theorem opSt_len {n : Nat} {vs : List Value} : (opSt st a n vs i es rs cl).length = st.length + 2 := by simp [opSt, St.length_put]
theorem tb_open (hR : R α st w) (ha : st.get a = some (.abs wr 0 D)) (hd : α a = some d) (hdb : d = tbDen b0) (hk : TbOk D w b0 rb ro rc bs ms) (hb : bs[i]? = some bi) (hm : ms[i]? = some m)
    (mv : MvOk (opAl α st.length rb ro rc bs.length bi) kK es rs m.1 ps m.2) : R (opAl α st.length rb ro rc bs.length bi) (opSt st a bs.length (mapVs bs) i es rs m.2) w := by
  have hlt := St.get_lt ha
  have hp := hk.hp
  have hbm : bi ∈ bs := List.mem_of_getElem? hb
  have hL1 := hR.none st.length (Nat.le_refl _)
  have hle : α.le (opAl α st.length rb ro rc bs.length bi) := fun o e he => by
    by_cases h : o < st.length
    · rw [opAl_old h]; exact he
    · rw [hR.none o (by omega)] at he; cases he
  have hlies : ∀ b, b ∈ tbBlks b0 rb bs → (SO.abs wr 0 D).lies w d b := fun b hb => (absLies_iff (D := D) hdb hp).2 hb
  have hview : ∀ p s e b, (opSt st a bs.length (mapVs bs) i es rs m.2).get p = some s → opAl α st.length rb ro rc bs.length bi p = some e → ¬ (p < st.length ∧ p ≠ a) → Foot w e s b → b ∈ tbBlks b0 rb bs := fun p s e b hp1 he hn hf => by
    rcases opSt_get hlt hp1 with ⟨rfl, rfl⟩ | ⟨rfl, rfl⟩ | ⟨rfl, rfl⟩ | ⟨h1, h2, _⟩
    · rw [opAl_old hlt, hd] at he; cases he
      have := hf.resolve_right (flat_vwT w _ b).2
      rw [(flat_vwT w _ b).1 this, hdb]; simp [tbBlks, tbDen]
    · rw [opAl_row] at he; cases he
      have := hf.resolve_right (flat_vwR w _ b).2
      rw [(flat_vwR w _ b).1 this]; simp [tbBlks]
    · rw [opAl_map] at he; cases he
      have := hf.resolve_right (flat_vwM w _ b).2
      rw [(flat_vwM w _ b).1 this]; simp [tbBlks, mapDen, hbm]
    · exact absurd ⟨h1, h2⟩ hn
  have hold : ∀ p s, (opSt st a bs.length (mapVs bs) i es rs m.2).get p = some s → s.wr = true → p < st.length ∧ p ≠ a ∧ st.get p = some s := fun p s h1 h2 => by
    rcases opSt_get hlt h1 with ⟨rfl, rfl⟩ | ⟨rfl, rfl⟩ | ⟨rfl, rfl⟩ | h
    · cases h2
    · cases h2
    · cases h2
    · exact h
  refine ⟨fun p s h => ?_, fun p p' s s' e e' b hne h h' he he' hw hl hf => ?_, fun p s e b h he hw hl hi => ?_, fun p h => ?_, fun p e h => ?_⟩
  · rcases opSt_get hlt h with ⟨rfl, rfl⟩ | ⟨rfl, rfl⟩ | ⟨rfl, rfl⟩ | ⟨h1, h2, h3⟩
    · obtain ⟨cs, q1, q2, q3, q4⟩ := hp.h0
      refine ⟨d, by rw [opAl_old hlt]; exact hd, ?_⟩
      subst hdb
      refine ⟨rfl, by omega, cs, (0, 0), q1, ⟨q3, .inl rfl⟩, by simp [q2, tbDen], by simp [Ct.len, tbDen], fun _ => by simp [Ct.len, tbDen], fun j hj => ?_⟩
      simp only [Ct.len, List.length_cons, List.length_nil] at hj
      obtain rfl : j = 0 := by omega
      refine ⟨rfl, fun j c hj => ?_⟩
      simp only [Ct.get, getL_eq, List.getElem?_cons_zero, Option.getD_some] at hj
      match j with
      | 0 => simp at hj; subst hj; exact ⟨_, by show SC.val? _ _ = _; simp only [SC.val?, opAl_row]; rfl, by simpa [tbDen] using q4, rfl⟩
      | n + 1 => simp at hj
    · obtain ⟨cs, fz, q1, q2, q3, q4, q5⟩ := hp.h1
      refine ⟨_, opAl_row, ⟨rfl, by omega, .inr ⟨rfl, rfl, q4, cs, fz, q1, ⟨q2.1, q2.2.imp id fun x => ⟨rfl, x⟩⟩, by simpa using q3, fun j hj => ?_⟩⟩⟩
      have hj : j < bs.length := hj
      rw [Ct.at1_get]
      by_cases hji : j = i
      · rw [if_pos hji]
        subst hji
        have hcell := q5 j bi hb
        refine ⟨rfl, fun j' c hj' => ?_⟩
        match j' with
        | 0 => simp at hj'; subst hj'; exact ⟨.map (some bi), by show SC.val? _ _ = _; simp only [SC.val?, opAl_map]; rfl, by simpa using hcell, rfl⟩
        | n + 1 => simp at hj'
      · rw [if_neg hji]
        have hcell := q5 j bs[j] (List.getElem?_eq_getElem hj)
        refine ⟨rfl, fun j' c hj' => ?_⟩
        match j' with
        | 0 =>
          simp at hj'; subst hj'
          have hv : (mapVs bs)[j]?.getD (Value.bool false) = .map (some bs[j]) := by rw [mapVs, List.getElem?_map, List.getElem?_eq_getElem hj]; rfl
          exact ⟨.map (some bs[j]), by rw [hv]; rfl, by simpa using hcell, rfl⟩
        | n + 1 => simp at hj'
    · exact ⟨_, opAl_map, ⟨rfl, _, _, hp.h3 i bi m hb hm, mv⟩⟩
    · obtain ⟨e, g1, g2⟩ := hR.good p s h3
      exact ⟨e, by rw [opAl_old h1]; exact g1, g2.congr hle (fun _ _ => rfl) (Nat.le_refl _)⟩
  · obtain ⟨g1, g2, g3⟩ := hold p s h hw
    rw [opAl_old g1] at he
    by_cases hc : p' < st.length ∧ p' ≠ a
    · rcases opSt_get hlt h' with ⟨rfl, rfl⟩ | ⟨rfl, rfl⟩ | ⟨rfl, rfl⟩ | ⟨q1, q2, q3⟩
      · exact absurd rfl hc.2
      · omega
      · omega
      · rw [opAl_old q1] at he'
        exact hR.sep p p' s s' e e' b hne g3 q3 he he' hw hl hf
    · exact hR.sep p a s _ e d b g2 g3 ha he hd hw hl (.inl (hlies b (hview p' s' e' b h' he' hc hf)))
  · obtain ⟨g1, g2, g3⟩ := hold p s h hw
    rw [opAl_old g1] at he
    exact hR.self p s e b g3 he hw hl hi
  · rw [opSt_len] at h
    unfold opAl; rw [Al.add_other (by omega), Al.add_other (by omega)]
    exact hR.none p (by omega)
  · by_cases h1 : p = st.length + 1
    · subst h1; rw [opAl_map] at h; cases h; rfl
    · by_cases h2 : p = st.length
      · subst h2; rw [opAl_row] at h; cases h; rfl
      · unfold opAl at h; rw [Al.add_other h1, Al.add_other h2] at h; exact hR.cell p e h
theorem clSt_get {st3 : St} {L : Nat} {so : SO} (hlt : a < L) (hL : L + 1 < st3.length) {p : Nat} {s : SO} (h : (clSt st3 a L so).get p = some s) : (p = a ∧ s = so) ∨ (p ≠ a ∧ p ≠ L ∧ p ≠ L + 1 ∧ st3.get p = some s) := by
  unfold clSt at h
  by_cases h1 : p = L + 1
  · subst h1
    rw [St.get_put_eq (by simp [St.length_put]; omega)] at h; cases h
  · rw [St.get_put_ne (Ne.symm h1)] at h
    by_cases h2 : p = L
    · subst h2
      rw [St.get_put_eq (by simp [St.length_put]; omega)] at h; cases h
    · rw [St.get_put_ne (Ne.symm h2)] at h
      by_cases h3 : p = a
      · subst h3
        rw [St.get_put_eq (by omega)] at h; cases h; exact .inl ⟨rfl, rfl⟩
      · rw [St.get_put_ne (Ne.symm h3)] at h
        exact .inr ⟨h3, h2, h1, h⟩
theorem tb_close {α3 : Al} {st3 : St} {w' : World} {vs : List Value} {n : Nat} (hR : R α st w) (ha : st.get a = some (.abs wr 0 D)) (hd : α a = some d) (hdb : d = tbDen b0) (hk : TbOk D w b0 rb ro rc bs ms) (hb : bs[i]? = some bi)
    (hto : To (opAl α st.length rb ro rc bs.length bi) (opSt st a n vs i es rs cl) w α3 st3 w') : To α st w α3 (clSt st3 a st.length (.abs wr 0 D)) w' := by
  have hlt := St.get_lt ha
  have hp := hk.hp
  have hlen3 : st.length + 2 ≤ st3.length := by have := hto.len; rw [opSt_len] at this; exact this
  have hbm : bi ∈ bs := List.mem_of_getElem? hb
  have hd3 : α3 a = some d := by rw [hto.ext a (by rw [opSt_len]; omega), opAl_old hlt]; exact hd
  have hlies : ∀ b, b ∈ tbBlks b0 rb bs ↔ (SO.abs wr 0 D).lies w d b := fun b => (absLies_iff (D := D) hdb hp).symm
  -- who may write in the state laid open
  have hwr : ∀ b, Wr (opAl α st.length rb ro rc bs.length bi) (opSt st a n vs i es rs cl) w b → b ∉ tbBlks b0 rb bs ∧ Wr α st w b := by
    rintro b ⟨p, s, e, h1, h2, h3, h4⟩
    rcases opSt_get hlt h1 with ⟨rfl, rfl⟩ | ⟨rfl, rfl⟩ | ⟨rfl, rfl⟩ | ⟨q1, q2, q3⟩
    · cases h3
    · cases h3
    · cases h3
    · rw [opAl_old q1] at h2
      exact ⟨fun hbb => hR.sep p a s _ e d b q2 q3 ha h2 hd h3 h4 (.inl ((hlies b).1 hbb)), p, s, e, q3, h2, h3, h4⟩
  have hkeep : ∀ b, b ∈ tbBlks b0 rb bs → w'.heap[b]? = w.heap[b]? := fun b hbb => hto.kept b (hk.lt hbb) fun h => (hwr b h).1 hbb
  have hg : absGood 0 D w d := ⟨b0, rb, ro, rc, bs, ms, hdb, hk⟩
  have hg' : absGood 0 D w' d := absGood_congr (t := 0) hg (fun b hb => hkeep b ((hlies b).2 hb)) hto.size
  have hll : ∀ b, absLies 0 D w' d b → b ∈ tbBlks b0 rb bs := fun b hb => (hlies b).2 (absLies_congr (t := 0) hg (fun b hb => hkeep b ((hlies b).2 hb)) hb)
  have hltb : ∀ b, b ∈ tbBlks b0 rb bs → b < w.heap.size := fun b hb => hk.lt hb
  have hcl := fun p s (h : (clSt st3 a st.length (SO.abs wr 0 D)).get p = some s) => clSt_get hlt (by omega) h
  -- what an object of the new state lies in, where it is old
  have hold : ∀ p s e b, p ≠ a → p ≠ st.length → p ≠ st.length + 1 → st3.get p = some s → α3 p = some e → b < w.heap.size → s.lies w' e b → Wr α st w b ∨ (p < st.length ∧ ∃ so, st.get p = some so ∧ so.lies w e b) := fun p s e b h1 h2 h3 h4 h5 h6 h7 => by
    rcases hto.lies p s e b h4 h5 h6 h7 with h | ⟨g1, so, g2, g3⟩
    · exact .inl (hwr b h).2
    · rcases opSt_get hlt g2 with ⟨rfl, rfl⟩ | ⟨rfl, rfl⟩ | ⟨rfl, rfl⟩ | ⟨q1, q2, q3⟩
      · exact absurd rfl h1
      · exact absurd rfl h2
      · exact absurd rfl h3
      · exact .inr ⟨q1, so, q3, g3⟩
  have hice : ∀ p s e b, st3.get p = some s → α3 p = some e → b < w.heap.size → Ice w' e s b → Wr α st w b ∨ ∃ q so f, q ≠ a ∧ st.get q = some so ∧ α q = some f ∧ Ice w f so b := fun p s e b h4 h5 h6 h7 => by
    rcases hto.ice p s e b h4 h5 h6 h7 with h | ⟨q, so, f, g1, g2, g3⟩
    · exact .inl (hwr b h).2
    · rcases opSt_get hlt g1 with ⟨rfl, rfl⟩ | ⟨rfl, rfl⟩ | ⟨rfl, rfl⟩ | ⟨q1, q2, q3⟩
      · exact absurd g3 (flat_vwT w _ b).2
      · exact absurd g3 (flat_vwR w _ b).2
      · exact absurd g3 (flat_vwM w _ b).2
      · rw [opAl_old q1] at g2
        exact .inr ⟨q, so, f, q2, q3, g2, g3⟩
  have hwr3 : ∀ b, b < w.heap.size → Wr α3 (clSt st3 a st.length (.abs wr 0 D)) w' b → Wr α st w b := by
    rintro b hbl ⟨p, s, e, h1, h2, h3, h4⟩
    rcases hcl p s h1 with ⟨rfl, rfl⟩ | ⟨q1, q2, q3, q4⟩
    · rw [hd3] at h2; cases h2
      exact ⟨p, _, d, ha, hd, h3, (hlies b).1 (hll b h4)⟩
    · exact (hwr b (hto.wrs b hbl ⟨p, s, e, q4, h2, h3, h4⟩)).2
  refine ⟨⟨fun p s h => ?_, fun p p' s s' e e' b hne h h' he he' hw hl hf => ?_, fun p s e b h he hw hl hi => ?_, fun p h => hto.rep.none p (by simpa [clSt, St.length_put] using h), hto.rep.cell⟩, fun o ho => by rw [hto.ext o (by rw [opSt_len]; omega), opAl_old ho], by simp only [clSt, St.length_put]; omega, fun p s e b h he hb hl => ?_, fun p s e b h he hb hi => ?_, hwr3, fun b hb hn => hto.kept b hb fun h => hn (hwr b h).2, hto.size, hto.tape, hto.os, hto.output⟩
  · rcases hcl p s h with ⟨rfl, rfl⟩ | ⟨_, _, _, h3⟩
    · exact ⟨d, hd3, hg'⟩
    · exact hto.rep.good p s h3
  · rcases hcl p s h with ⟨rfl, rfl⟩ | ⟨h1, h2, h3, h4⟩
    · -- the table may be written
      rw [hd3] at he; cases he
      have hbt := hll b hl
      rcases hcl p' s' h' with ⟨rfl, rfl⟩ | ⟨h1, h2, h3, h4⟩
      · exact hne rfl
      · rcases hf with hf | hf
        · rcases hto.lies p' s' e' b h4 he' (hltb b hbt) hf with hx | ⟨g1, so, g2, g3⟩
          · exact (hwr b hx).1 hbt
          · rcases opSt_get hlt g2 with ⟨rfl, rfl⟩ | ⟨rfl, rfl⟩ | ⟨rfl, rfl⟩ | ⟨q1, q2, q3⟩
            · exact h1 rfl
            · exact h2 rfl
            · exact h3 rfl
            · have he2 : α p' = some e' := by rw [← he', hto.ext p' (by rw [opSt_len]; omega), opAl_old q1]
              exact hR.sep p p' _ so d e' b hne ha q3 hd he2 hw ((hlies b).1 hbt) (.inl g3)
        · rcases hto.ice p' s' e' b h4 he' (hltb b hbt) hf with hx | ⟨q, so, f, g1, g2, g3⟩
          · exact (hwr b hx).1 hbt
          · rcases opSt_get hlt g1 with ⟨rfl, rfl⟩ | ⟨rfl, rfl⟩ | ⟨rfl, rfl⟩ | ⟨q1, q2, q3⟩
            · exact (flat_vwT w _ b).2 g3
            · exact (flat_vwR w _ b).2 g3
            · exact (flat_vwM w _ b).2 g3
            · rw [opAl_old q1] at g2
              exact hR.sep p q _ so d f b (Ne.symm q2) ha q3 hd g2 hw ((hlies b).1 hbt) (.inr g3)
    · rcases hcl p' s' h' with ⟨rfl, rfl⟩ | ⟨g1, g2, g3, g4⟩
      · rw [hd3] at he'; cases he'
        have hbt : b ∈ tbBlks b0 rb bs := hf.elim (fun hf => hll b hf) (fun hf => hf.elim)
        exact (hwr b (hto.wrs b (hltb b hbt) ⟨p, s, e, h4, he, hw, hl⟩)).1 hbt
      · exact hto.rep.sep p p' s s' e e' b hne h4 g4 he he' hw hl hf
  · rcases hcl p s h with ⟨rfl, rfl⟩ | ⟨h1, h2, h3, h4⟩
    · exact hi
    · exact hto.rep.self p s e b h4 he hw hl hi
  · rcases hcl p s h with ⟨rfl, rfl⟩ | ⟨h1, h2, h3, h4⟩
    · rw [hd3] at he; cases he
      exact .inr ⟨hlt, _, ha, (hlies b).1 (hll b hl)⟩
    · exact hold p s e b h1 h2 h3 h4 he hb hl
  · rcases hcl p s h with ⟨rfl, rfl⟩ | ⟨h1, h2, h3, h4⟩
    · exact hi.elim
    · exact (hice p s e b h4 he hb hi).imp id fun ⟨q, so, f, _, g2, g3, g4⟩ => ⟨q, so, f, g2, g3, g4⟩
theorem MvOk.any {β : Al} {k : Kx} {o : Option Int} {b : Nat} {xs : List MapEntry} (h : MvOk α kK [ke k o b] rs xs ps cl) : MvOk β kK [ke k o b] rs xs ps cl := by
  refine ⟨h.perm, ?_, h.keys, h.lens, h.ints, h.apart, h.off, h.born, h.young⟩
  have := h.rep
  cases o with
  | none => exact this
  | some v => exact this
end
end Go.Ev
end
section
namespace Go.Spec
open Go Go.Ev
def cntV (D : TbD) (i : Int) : Int := (((D.sh.getD i.toNat []).length : Nat) : Int)
def keysT (D : TbD) (i : Int) : List Kx := sortK ((D.sh.getD i.toNat []).map (·.1))
def valT (D : TbD) (i p f g : Int) : Int := (((D.sh.getD i.toNat []).find? fun e => decide (e.1 = (p, f, g))).map (·.2)).getD 0
def shT (D : TbD) : Int := (D.sh.length : Int)
end Go.Spec
namespace Go.Ev
open Go Go.Proofs Go.Spec
def kint (x : Int) : SA := .one (.raw (.int .i64 x))
def sR1 : SumT := fun args st k => match args with
  | [.one (.raw (.int .i64 n)), .one (.ref 0), .one (.raw (.int .i64 i))] => (match st with
    | [some (.abs w 0 D)] => need (decide (0 ≤ i)) (need (decide (i < shT D)) (k (.tup [kint (addK .i64 n (cntV D i))]) [some (.abs w 0 D)]))
    | _ => False)
  | _ => False
def hR1 : Hand := ⟨22, [3, 0, 4], [0, 6, 7], [3], [1, 1, 0, 1, 0, 0, 1, 1, 0, 0, 1], sR1⟩
def tbox (o : Nat) : Option SO := some (.mem true .whole 24 1 (.lst [[.ref o]]))
def sR2 : SumT := fun args st k => match args with
  | [.one (.ptr 0 0 0), .one (.raw (.int .i64 i))] => (match st with
    | [some (.mem true .whole T 1 (.lst [[.ref 1]])), some (.abs w 0 D)] => need (decide (T = 24)) (need (decide (0 ≤ i)) (need (decide (i < shT D)) (need (decide (lenK (keysT D i) * 8 ≤ 140737488355328))
        (k (.tup [.one (.ref 2), kint ((lenK (keysT D i) : Nat) : Int), kint 0]) [tbox 1, some (.abs w 0 D), rowX (keysT D i)]))))
    | _ => False)
  | _ => False
def hR2 : Hand := ⟨59, [1, 5], [1, 2, 3, 4, 5, 11, 12], [23, 24, 25], [1, 1, 1, 0, 1, 0, 0, 1, 1, 0, 0, 1, 0], sR2⟩
def sR3 : SumT := fun args st k => match args with
  | [.one (.ref 0), .one (.ptr 1 0 0), .one (.ptr 2 0 0), .one (.ptr 4 0 0), .one (.raw (.int .i64 i))] => (match st with
    | [some (.own true .row T1 3 (.tab m [.ints .u32 c0, .ints .u16 c1, .ints .u16 c2])), some (.mem true .whole T2 3 (.lst [[.raw (.int .u32 p), .raw (.int .u16 f), .raw (.int .u16 g)]])), some (.mem true .whole T3 1 (.lst [[.ref 3]])), some (.own true .row T4 1 (.ints .i64 vs)), some (.mem true .whole T5 1 (.lst [[.ref 5]])), some (.abs w 0 D)] =>
      need (decide (T1 = 36 ∧ T2 = 36 ∧ T3 = 65 ∧ T4 = 3 ∧ T5 = 24)) (need (decide (0 ≤ i)) (need (decide (i < shT D)) (need (decide ((m + 1) * 8 ≤ 140737488355328)) (need (decide ((List.length vs + 1) * 8 ≤ 140737488355328))
        (k (.tup [.one (.ref 6)]) [none, some (.mem true .whole 36 3 (.lst [[iv .u32 p, iv .u16 f, iv .u16 g]])), some (.mem true .whole 65 1 (.lst [[.ref 7]])), none, tbox 5, some (.abs w 0 D),
          some (.own true .row 36 3 (.tab (m + 1) [.ints .u32 (fitL 0 m c0 ++ [p]), .ints .u16 (fitL 0 m c1 ++ [f]), .ints .u16 (fitL 0 m c2 ++ [g])])), some (.own true .row 3 1 (.ints .i64 (vs ++ [valT D i p f g])))])))))
    | _ => False)
  | _ => False
def hR3 : Hand := ⟨59, [3, 7, 4, 1, 5], [1, 2, 4, 5, 11, 12, 23, 24, 25], [3], [1, 1, 1, 0, 1, 0, 0, 1, 1, 0, 0, 1, 1, 0, 0, 1, 1, 0, 0, 1], sR3⟩
noncomputable def cxR3 : Cx := mkCx Try.prog [(30, sKeys1), (29, sSortF)] [(23, 91, [23, 24, 25], []), (23, 92, [3], [])] []
def vT (L : Nat) : Option SO := some (.mem false .whole 62 1 (.lst [[.ref L]]))
def vR (L n : Nat) (vs : List Value) (i : Nat) : Option SO := some (.own false .row 58 1 (.at1 n vs i [.ref (L + 1)]))
def tboxO (o : Nat) : Option SO := some (.mem true .whole 24 1 (.lst [[.ptr o 0 0]]))
end Go.Ev
end
