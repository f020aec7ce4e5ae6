/- 'x = append(x, v)' in one of two ways. -/
import Derived.Test.YtapfloegpaadgaaGreatSyDr6
set_option linter.unusedVariables false
set_option linter.unusedSimpArgs false
namespace Go.Sy

mutual
theorem AV.eqb_eq : (a b : AV) → AV.eqb a b = true → a = b
  | .bool a, b, h => by cases b <;> simp_all [AV.eqb]
  | .int j a, b, h => by cases b <;> simp_all [AV.eqb]
  | .str s, b, h => by cases b <;> simp_all [AV.eqb]
  | .nilp, b, h => by cases b <;> simp_all [AV.eqb]
  | .ptr x y, b, h => by cases b <;> simp_all [AV.eqb, beq_dec]
  | .iptr x y, b, h => by cases b <;> simp_all [AV.eqb]
  | .nils, b, h => by cases b <;> simp_all [AV.eqb]
  | .sl x y z w, b, h => by cases b <;> simp_all [AV.eqb, beq_dec]
  | .imm x y z, b, h => by cases b <;> simp_all [AV.eqb]
  | .nilm, b, h => by cases b <;> simp_all [AV.eqb]
  | .map x, b, h => by cases b <;> simp_all [AV.eqb, beq_dec]
  | .nilf, b, h => by cases b <;> simp_all [AV.eqb]
  | .fn f x y, b, h => by
    cases b with
    | fn g z w =>
      simp only [AV.eqb, Bool.and_eq_true, decide_eq_true_eq] at h
      rw [h.1.1, AV.eqbs_eq _ _ h.1.2, AV.eqbs_eq _ _ h.2]
    | _ => simp [AV.eqb] at h
  | .nili, b, h => by cases b <;> simp_all [AV.eqb]
  | .iface t a, b, h => by
    cases b with
    | iface u c =>
      simp only [AV.eqb, Bool.and_eq_true, beq_dec, decide_eq_true_eq] at h
      rw [h.1, AV.eqb_eq _ _ h.2]
    | _ => simp [AV.eqb] at h
  | .agg x, b, h => by
    cases b with
    | agg y => simp only [AV.eqb] at h; rw [AV.eqbs_eq _ _ h]
    | _ => simp [AV.eqb] at h
  | .tup x, b, h => by
    cases b with
    | tup y => simp only [AV.eqb] at h; rw [AV.eqbs_eq _ _ h]
    | _ => simp [AV.eqb] at h
  | .junk, b, h => by cases b <;> simp_all [AV.eqb]
theorem AV.eqbs_eq : (a b : List AV) → AV.eqbs a b = true → a = b
  | [], b, h => by cases b <;> simp_all [AV.eqbs]
  | a :: x, b, h => by
    cases b with
    | nil => simp [AV.eqbs] at h
    | cons b y =>
      simp only [AV.eqbs, Bool.and_eq_true] at h
      rw [AV.eqb_eq _ _ h.1, AV.eqbs_eq _ _ h.2]
end
theorem pairs_eq : ∀ (a b : List (Int × AV)), a.map (·.1) = b.map (·.1) → a.map (·.2) = b.map (·.2) → a = b
  | [], [], _, _ => rfl
  | [], _ :: _, h, _ => by simp at h
  | _ :: _, [], h, _ => by simp at h
  | x :: a, y :: b, h, k => by
    simp only [List.map_cons, List.cons.injEq] at h k
    rw [pairs_eq a b h.2 k.2]
    congr 1
    exact Prod.ext h.1 k.1
theorem Blk.eqb_eq (a b : Blk) (h : Blk.eqb a b = true) : a = b := by
  cases a <;> cases b <;> simp only [Blk.eqb] at h <;> first | (cases h; done) | skip
  · rw [AV.eqbs_eq _ _ h]
  · simp only [Bool.and_eq_true, decide_eq_true_eq] at h
    rw [pairs_eq _ _ h.1 (AV.eqbs_eq _ _ h.2)]
  · simp at h; rw [h]
  · rfl
theorem meet_get : ∀ (a b : T AV) (i : Nat) (v : AV), (T.meet a b).get? i = some v → a.get? i = some v ∧ b.get? i = some v := by
  intro a
  induction a with
  | nil => intro b i v h; simp [T.meet, T.get?_nil] at h
  | node l x r ihl ihr =>
    intro b i v h
    cases b with
    | nil => simp [T.meet, T.get?_nil] at h
    | node l' x' r' =>
      simp only [T.meet, T.get?_node] at h ⊢
      split at h
      · rename_i h0
        rw [if_pos h0, if_pos h0]
        cases x with
        | none => cases h
        | some a =>
          cases x' with
          | none => cases h
          | some b =>
            simp only [Bool.cond_eq_ite] at h
            split at h
            · rename_i he
              cases h
              exact ⟨rfl, by rw [AV.eqb_eq _ _ he]⟩
            · cases h
      · rename_i h0
        rw [if_neg h0, if_neg h0]
        split at h
        · rename_i h1; rw [if_pos h1, if_pos h1]; exact ihl _ _ _ h
        · rename_i h1; rw [if_neg h1, if_neg h1]; exact ihr _ _ _ h
theorem meetHeap_in (a b : T Blk) (i : Nat) : ∀ (l : List Nat), i ∈ l → ((meetHeap a b l).get? i = a.get? i ∧ Blk.eqb ((a.get? i).getD .dead) ((b.get? i).getD .dead) = true) ∨ (meetHeap a b l).get? i = none
  | j :: l, h => by
    unfold meetHeap
    by_cases hi : i ∈ l
    · have ih := meetHeap_in a b i l hi
      cases he : Blk.eqb ((a.get? j).getD .dead) ((b.get? j).getD .dead)
      · simp only [cond_false, T.get?_set]
        split
        · exact .inr rfl
        · exact ih
      · exact ih
    · have hij : i = j := by
        rcases List.mem_cons.1 h with h | h
        · exact h
        · exact absurd h hi
      subst hij
      cases he : Blk.eqb ((a.get? i).getD .dead) ((b.get? i).getD .dead)
      · simp only [cond_false, T.get?_set, if_true]; exact .inr trivial
      · refine .inl ⟨?_, rfl⟩
        simp only [cond_true]
        exact meetHeap_get a b i l hi

section
variable {tb : Tab} {rec : Cmd → St → Ex} {ops : List Oper} {i : Nat} {l : List Nat} {o : Oper} {fr : Fr} {bel : Below} {st : St}
theorem ops_new (ho : ops[i]? = some o) (hg : o.guard = none) (hk : opKd o.op = .new) {blk : Blk} {mk : Nat → AV} (hn : aNew tb fr.eval o.op = some (blk, mk)) :
    evOps tb rec ops (i :: l) fr bel st = evOps tb rec ops l (fr.put o.dst (mk st.next)) bel (st.new blk).tick := by
  simp only [evOps, opOne, ho, wantedA, hg, hk, opN, hn]
theorem ops_eff (ho : ops[i]? = some o) (hg : o.guard = none) (hk : opKd o.op = .eff) {v : AV} {st1 : St} (he : aEff tb st fr.eval o.op = .val v st1) :
    evOps tb rec ops (i :: l) fr bel st = evOps tb rec ops l (fr.put o.dst v) bel st1.tick := by
  simp only [evOps, opOne, ho, wantedA, hg, hk, opE, evEff, he]
theorem ops_val (ho : ops[i]? = some o) (hg : o.guard = none) (hk : opKd o.op = .val) {v : AV} (hv : aValS tb st fr.eval o.op = some v) (ht : st.tape = []) :
    evOps tb rec ops (i :: l) fr bel st = evOps tb rec ops l (fr.put o.dst v) bel st.tick := by
  simp only [evOps, opOne, ho, wantedA, hg, hk, opV, hv, St.askV, ht, Option.map_some]
end

theorem tick_tape (st : St) : st.tick.tape = st.tape := by rw [St.tick_eq]
theorem tick_next (st : St) : st.tick.next = st.next := by rw [St.tick_eq]

/-- the four operations of the choice, in one of their two orders -/
theorem choice_ops {tb : Tab} {rec : Cmd → St → Ex} {o0 o1 o2 o3 : Oper} {e x d : Nat} (hb : tb.under e = some .bool) (hs : tb.size e = some 1) (hz : tb.zero e = some (.bool false)) (h0 : o0.op = .alloc e) (d0 : o0.dst = some x) (g0 : o0.guard = none)
    (h1 : o1.op = .store e (.tmp x) (.const (.bool true))) (d1 : o1.dst = none) (g1 : o1.guard = none) (h2 : o2.op = .store e (.tmp x) (.const (.bool false))) (d2 : o2.dst = none) (g2 : o2.guard = none) (h3 : o3.op = .load e (.tmp x)) (d3 : o3.dst = some d) (g3 : o3.guard = none)
    (fr : Fr) (bel : Below) (st : St) (ht : st.tape = []) (i j : Nat) (hij : (i = 1 ∧ j = 2) ∨ (i = 2 ∧ j = 1)) :
    ∃ b st', evOps tb rec [o0, o1, o2, o3] [0, i, j, 3] fr bel st = .ok ⟨.norm, (fr.put (some x) (.ptr st.next 0)).put (some d) (.bool b), bel, st'⟩ ∧ st'.hp = Hp.set st.hp st.next (.cells [.bool b]) ∧ st'.obl = st.obl := by
  have sl : (fr.put (some x) (.ptr st.next 0)).eval (.tmp x) = .ptr st.next 0 := by simp [Fr.eval, Fr.slot, Fr.put, T.get?_set]
  have hag : tb.aggSize e = some (false, 1) := by
    have : tb.isAgg e = false := by unfold Tab.isAgg; rw [hb]
    unfold Tab.aggSize
    rw [hb, hs, this]
  have store : ∀ (s : St) (v : Bool) (w : Bool), s.tape = [] → s.get st.next = .cells [.bool w] → aEff tb s (fr.put (some x) (.ptr st.next 0)).eval (.store e (.tmp x) (.const (.bool v))) = .val undefA (s.put st.next (.cells [.bool v]) 0 1) := by
    intro s v w hts hg
    have hc : (fr.put (some x) (.ptr st.next 0)).eval (.const (.bool v)) = .bool v := rfl
    have hst : storeC [.bool w] 0 [.bool v] = some [.bool v] := by simp [storeC, AV.leaf, setL]
    simp only [aEff, eStore, sl, hs, hg, hc, AV.solid, AV.cells, List.length_singleton, and_self, if_true, hst, St.askC, hts, Option.map_some]
  have key : ∀ (a b : Nat) (oa ob : Oper) (va vb : Bool), [o0, o1, o2, o3][a]? = some oa → [o0, o1, o2, o3][b]? = some ob → oa.op = .store e (.tmp x) (.const (.bool va)) → ob.op = .store e (.tmp x) (.const (.bool vb)) → oa.dst = none → ob.dst = none → oa.guard = none → ob.guard = none →
      ∃ b' st', evOps tb rec [o0, o1, o2, o3] [0, a, b, 3] fr bel st = .ok ⟨.norm, (fr.put (some x) (.ptr st.next 0)).put (some d) (.bool b'), bel, st'⟩ ∧ st'.hp = Hp.set st.hp st.next (.cells [.bool b']) ∧ st'.obl = st.obl := by
    intro a b oa ob va vb hoa hob hpa hpb hda hdb hga hgb
    have n0 : aNew tb fr.eval o0.op = some (.cells [.bool false], fun b => .ptr b 0) := by rw [h0]; simp [aNew, nAlloc, hz, AV.cells]
    rw [ops_new (o := o0) rfl g0 (by rw [h0]; rfl) n0, d0]
    generalize hS1 : (st.new (.cells [.bool false])).tick = S1
    have t1 : S1.tape = [] := by rw [← hS1, tick_tape]; exact ht
    have x1 : S1.next = st.next + 1 := by rw [← hS1, tick_next]; rfl
    have p1 : S1.hp = Hp.set st.hp st.next (.cells [.bool false]) := by rw [← hS1, (Like.tick _).hp]; exact St.new_hp _ _
    have c1 : S1.get st.next = .cells [.bool false] := by rw [← hS1, get_tick]; exact get_new_self _ _
    have q1 : S1.obl = st.obl := by rw [← hS1, St.tick_eq]; rfl
    rw [ops_eff hoa hga (by rw [hpa]; rfl) (by rw [hpa]; exact store S1 va false t1 c1), hda]
    generalize hS2 : (S1.put st.next (.cells [.bool va]) 0 1).tick = S2
    have t2 : S2.tape = [] := by rw [← hS2, tick_tape]; exact t1
    have x2 : S2.next = st.next + 1 := by rw [← hS2, tick_next]; exact x1
    have p2 : S2.hp = Hp.set S1.hp st.next (.cells [.bool va]) := by rw [← hS2, (Like.tick _).hp]; exact St.put_hp _ _ _ _ _ (by omega)
    have c2 : S2.get st.next = .cells [.bool va] := by rw [← hS2, get_tick, St.get_put, if_pos (by omega), if_pos rfl]
    have q2 : S2.obl = st.obl := by rw [← hS2, St.tick_eq]; exact q1
    have e0 : (fr.put (some x) (.ptr st.next 0)).put none undefA = fr.put (some x) (.ptr st.next 0) := rfl
    rw [e0, ops_eff hob hgb (by rw [hpb]; rfl) (by rw [hpb]; exact store S2 vb va t2 c2), hdb, e0]
    generalize hS3 : (S2.put st.next (.cells [.bool vb]) 0 1).tick = S3
    have t3 : S3.tape = [] := by rw [← hS3, tick_tape]; exact t2
    have p3 : S3.hp = Hp.set S2.hp st.next (.cells [.bool vb]) := by rw [← hS3, (Like.tick _).hp]; exact St.put_hp _ _ _ _ _ (by omega)
    have c3 : S3.get st.next = .cells [.bool vb] := by rw [← hS3, get_tick, St.get_put, if_pos (by omega), if_pos rfl]
    have q3 : S3.obl = st.obl := by rw [← hS3, St.tick_eq]; exact q2
    have hv : aValS tb S3 (fr.put (some x) (.ptr st.next 0)).eval o3.op = some (.bool vb) := by
      rw [h3]
      have htt : touches tb (fr.put (some x) (.ptr st.next 0)).eval (.load e (.tmp x)) = [(st.next, live0, 1), (st.next, 0, 1)] := by simp [touches, tLoad, sl, hs]
      have hvv : aVal tb S3 (fr.put (some x) (.ptr st.next 0)).eval (.load e (.tmp x)) = some (.bool vb) := by simp [aVal, vLoad, hag, sl, c3, loadC]
      unfold aValS
      rw [htt, hvv]
      simp [c3, Blk.alive]
    rw [ops_val (o := o3) rfl g3 (by rw [h3]; rfl) hv t3, d3]
    refine ⟨vb, S3.tick, rfl, ?_, ?_⟩
    · rw [(Like.tick _).hp, p3, p2, p1]
      funext i
      simp only [Hp.set]
      split <;> simp_all
    · rw [St.tick_eq]; exact q3
  rcases hij with ⟨rfl, rfl⟩ | ⟨rfl, rfl⟩
  · exact key 1 2 o1 o2 true false rfl rfl h1 h2 d1 d2 g1 g2
  · exact key 2 1 o2 o1 false true rfl rfl h2 h1 d2 d1 g2 g1

theorem four (l : List Nat) (h1 : l.Nodup) (h2 : l.Pairwise (fun a b => bit [0, 1, 1, 7] a b = false)) (h3 : ∀ j, j ∈ l ↔ j < 4) : l = [0, 1, 2, 3] ∨ l = [0, 2, 1, 3] := by
  have m0 := (h3 0).2 (by omega)
  have m1 := (h3 1).2 (by omega)
  have m2 := (h3 2).2 (by omega)
  have m3 := (h3 3).2 (by omega)
  match l, h1, h2, h3, m0, m1, m2, m3 with
  | [], _, _, _, m0, _, _, _ => cases m0
  | [a], _, _, _, m0, m1, _, _ => simp at m0 m1; omega
  | [a, b], _, _, _, m0, m1, m2, _ => simp at m0 m1 m2; omega
  | [a, b, c], _, _, _, m0, m1, m2, m3 => simp at m0 m1 m2 m3; omega
  | [a, b, c, d], h1, h2, h3, _, _, _, _ =>
    have ha := (h3 a).1 (by simp)
    have hb := (h3 b).1 (by simp)
    have hc := (h3 c).1 (by simp)
    have hd := (h3 d).1 (by simp)
    have b10 : bit [0, 1, 1, 7] 1 0 = true := rfl
    have b20 : bit [0, 1, 1, 7] 2 0 = true := rfl
    have b30 : bit [0, 1, 1, 7] 3 0 = true := rfl
    have b31 : bit [0, 1, 1, 7] 3 1 = true := rfl
    have b32 : bit [0, 1, 1, 7] 3 2 = true := rfl
    simp only [List.nodup_cons, List.mem_cons, not_or, List.pairwise_cons, List.not_mem_nil, or_false, forall_eq_or_imp, forall_eq] at h1 h2
    obtain ⟨⟨g1, g2, g3⟩, ⟨g4, g5⟩, g6, _⟩ := h2
    have ha0 : a = 0 := by
      apply Classical.byContradiction
      intro hne
      have h0 : b = 0 ∨ c = 0 ∨ d = 0 := by omega
      have hcase : a = 1 ∨ a = 2 ∨ a = 3 := by omega
      rcases hcase with rfl | rfl | rfl <;> rcases h0 with rfl | rfl | rfl <;> simp_all
    subst ha0
    have hb3 : b ≠ 3 := by
      rintro rfl
      have h0 : c = 1 ∨ d = 1 := by omega
      rcases h0 with rfl | rfl <;> simp_all
    have hc3 : c ≠ 3 := by
      rintro rfl
      have h0 : d = 1 ∨ d = 2 := by omega
      rcases h0 with rfl | rfl <;> simp_all
    have hd3 : d = 3 := by omega
    subst hd3
    have h : (b = 1 ∧ c = 2) ∨ (b = 2 ∧ c = 1) := by omega
    rcases h with ⟨rfl, rfl⟩ | ⟨rfl, rfl⟩
    · exact .inl rfl
    · exact .inr rfl
  | a :: b :: c :: d :: e :: r, h1, _, h3, _, _, _, _ =>
    have ha := (h3 a).1 (by simp)
    have hb := (h3 b).1 (by simp)
    have hc := (h3 c).1 (by simp)
    have hd := (h3 d).1 (by simp)
    have he := (h3 e).1 (by simp)
    simp only [List.nodup_cons, List.mem_cons, not_or] at h1
    omega

theorem pat_inv {ops : List Oper} {x d e : Nat} (h : choicePat ops = some (x, d, e)) : ∃ o0 o1 o2 o3, ops = [o0, o1, o2, o3] ∧ o0.op = .alloc e ∧ o0.dst = some x ∧ o0.guard = none ∧ o1.op = .store e (.tmp x) (.const (.bool true)) ∧ o1.dst = none ∧ o1.guard = none ∧
    o2.op = .store e (.tmp x) (.const (.bool false)) ∧ o2.dst = none ∧ o2.guard = none ∧ o3.op = .load e (.tmp x) ∧ o3.dst = some d ∧ o3.guard = none ∧ x ≠ d ∧ edgesOf o0 = [] ∧ (0 ∈ edgesOf o1 ∧ ∀ j ∈ edgesOf o1, j = 0) ∧ (0 ∈ edgesOf o2 ∧ ∀ j ∈ edgesOf o2, j = 0) ∧
    (0 ∈ edgesOf o3 ∧ 1 ∈ edgesOf o3 ∧ 2 ∈ edgesOf o3 ∧ ∀ j ∈ edgesOf o3, j < 3) := by
  unfold choicePat at h
  split at h
  · rename_i o0 o1 o2 o3
    split at h
    · rename_i e' x' t1 x1 t2 x2 t3 x3 d' h0 d0 g0 h1 d1 g1 h2 d2 g2 h3 d3 g3
      simp only [Bool.cond_eq_ite] at h
      split at h
      · rename_i hc
        simp only [Bool.and_eq_true, beq_dec, decide_eq_true_eq, Bool.not_eq_true', decide_eq_false_iff_not, List.contains_iff_mem, List.all_eq_true, blt_dec, List.isEmpty_iff] at hc
        simp only [Option.some.injEq, Prod.mk.injEq] at h
        obtain ⟨rfl, rfl, rfl⟩ := h
        obtain ⟨⟨⟨⟨⟨⟨⟨⟨⟨⟨⟨⟨⟨⟨⟨a1, a2⟩, a3⟩, a4⟩, a5⟩, a6⟩, a7⟩, a8⟩, a9⟩, a10⟩, a11⟩, a12⟩, a13⟩, a14⟩, a15⟩, a16⟩ := hc
        subst a1; subst a2; subst a3; subst a4; subst a5; subst a6
        exact ⟨o0, o1, o2, o3, rfl, h0, d0, g0, h1, d1, g1, h2, d2, g2, h3, d3, g3, a7, a13, ⟨a8, a14⟩, ⟨a9, a15⟩, ⟨a10, a11, a12, a16⟩⟩
      · cases h
    · cases h
  · cases h

theorem pat_sched {ops : Array Oper} {x d e : Nat} (h : choicePat ops.toList = some (x, d, e)) (t : Nat) : Region.linearise .any ops t = [0, 1, 2, 3] ∨ Region.linearise .any ops t = [0, 2, 1, 3] := by
  obtain ⟨o0, o1, o2, o3, hl, _, _, _, _, _, _, _, _, _, _, _, _, _, k0, ⟨k1, k2⟩, ⟨k3, k4⟩, ⟨k5, k6, k7, k8⟩⟩ := pat_inv h
  have hsz : ops.size = 4 := by rw [← Array.length_toList, hl]; rfl
  have get : ∀ i o, ops[i]? = some o → (i = 0 ∧ o = o0) ∨ (i = 1 ∧ o = o1) ∨ (i = 2 ∧ o = o2) ∨ (i = 3 ∧ o = o3) := by
    intro i o ho
    rw [← Array.getElem?_toList, hl] at ho
    match i, ho with
    | 0, ho => simp at ho; exact .inl ⟨rfl, ho.symm⟩
    | 1, ho => simp at ho; exact .inr (.inl ⟨rfl, ho.symm⟩)
    | 2, ho => simp at ho; exact .inr (.inr (.inl ⟨rfl, ho.symm⟩))
    | 3, ho => simp at ho; exact .inr (.inr (.inr ⟨rfl, ho.symm⟩))
    | i + 4, ho => simp at ho
  obtain ⟨s1, s2, s3⟩ := sched_ok (ops := ops) (an := [0, 1, 1, 7]) (fun i o ho e he => by
    rcases get i o ho with ⟨rfl, rfl⟩ | ⟨rfl, rfl⟩ | ⟨rfl, rfl⟩ | ⟨rfl, rfl⟩
    · rw [k0] at he; cases he
    · rw [k2 e he]; omega
    · rw [k4 e he]; omega
    · exact k8 e he) (fun i o j ho hj hb => by
    rw [hsz] at hj
    have tab : ∀ j, j < 4 → (bit [0, 1, 1, 7] 0 j = true → False) ∧ (bit [0, 1, 1, 7] 1 j = true → j = 0) ∧ (bit [0, 1, 1, 7] 2 j = true → j = 0) ∧ (bit [0, 1, 1, 7] 3 j = true → j < 3) := by decide
    obtain ⟨b0, b1, b2, b3⟩ := tab j hj
    rcases get i o ho with ⟨rfl, rfl⟩ | ⟨rfl, rfl⟩ | ⟨rfl, rfl⟩ | ⟨rfl, rfl⟩
    · exact (b0 hb).elim
    · exact ⟨0, k1, .inl (b1 hb).symm⟩
    · exact ⟨0, k3, .inl (b2 hb).symm⟩
    · have := b3 hb
      have : j = 0 ∨ j = 1 ∨ j = 2 := by omega
      rcases this with rfl | rfl | rfl
      · exact ⟨_, k5, .inl rfl⟩
      · exact ⟨_, k6, .inl rfl⟩
      · exact ⟨_, k7, .inl rfl⟩) t
  exact four _ s1 s2 (fun j => by rw [s3, hsz])
end Go.Sy
