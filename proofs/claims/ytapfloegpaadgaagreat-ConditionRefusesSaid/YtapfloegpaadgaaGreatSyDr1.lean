/- A region that draws its order: what the evaluator did, step by step. -/
import Derived.Test.YtapfloegpaadgaaGreatSyCongr
set_option linter.unusedVariables false
set_option linter.unusedSimpArgs false
namespace Go.Sy

structure En where
  i : Nat
  v : AV
  n : Nat
  blk : Option Blk
def En.m (e : En) : Nat := match e.blk with | none => e.n | some _ => e.n + 1
theorem En.n_le (e : En) : e.n ≤ e.m := by unfold En.m; split <;> omega
def dstOf (ops : List Oper) (i : Nat) : Option Nat := (ops[i]?).bind (·.dst)
noncomputable def St.adv (st : St) (b : Option Blk) : St := match b with | none => st | some b => st.new b
structure Like (a b : St) : Prop where
  heap : a.heap = b.heap
  next : a.next = b.next
theorem Like.get {a b : St} (h : Like a b) (i : Nat) : a.get i = b.get i := get_of_eq h.heap h.next i
theorem Like.hp {a b : St} (h : Like a b) : a.hp = b.hp := hp_of_eq h.heap h.next
theorem Like.refl (a : St) : Like a a := ⟨rfl, rfl⟩
theorem Like.tick (a : St) : Like a.tick a := by rw [St.tick_eq]; exact ⟨rfl, rfl⟩
theorem Like.trans {a b c : St} (h : Like a b) (k : Like b c) : Like a c := ⟨h.heap.trans k.heap, h.next.trans k.next⟩

section
variable (tb : Tab) (rec : Cmd → St → Ex) (ops : List Oper) (an : List Nat)
inductive NS (acc : List (Nat × Log)) (i : Nat) (fr : Fr) (st : St) : AV → Option Blk → Prop where
  | skip {o : Oper} (ho : ops[i]? = some o) (hw : wantedA o ops fr = some false) : NS acc i fr st undefA none
  | val {o : Oper} {v : AV} (ho : ops[i]? = some o) (hw : wantedA o ops fr = some true) (hk : opKd o.op = .val) (ha : ∀ e ∈ acc, bit an i e.1 = true ∨ apart (touches tb fr.eval o.op) e.2 = true)
      (hv : aValS tb st fr.eval o.op = some v) : NS acc i fr st v none
  | new {o : Oper} {blk : Blk} {mk : Nat → AV} (ho : ops[i]? = some o) (hw : wantedA o ops fr = some true) (hk : opKd o.op = .new) (hn : aNew tb fr.eval o.op = some (blk, mk)) : NS acc i fr st (mk st.next) (some blk)

inductive Ch : List (Nat × Log) → Fr → St → List En → Prop where
  | nil {acc : List (Nat × Log)} {fr : Fr} {st : St} : Ch acc fr st []
  | non {acc : List (Nat × Log)} {fr fr' : Fr} {st st' : St} {i : Nat} {v : AV} {blk : Option Blk} {es : List En} (h : NS tb ops an acc i fr st v blk) (h1 : fr'.tmps = putA fr.tmps (dstOf ops i) v) (h2 : Like st' (st.adv blk)) (h3 : Ch acc fr' st' es) :
      Ch acc fr st (⟨i, v, st.next, blk⟩ :: es)
  | eff {acc : List (Nat × Log)} {fr fr' : Fr} {st st' : St} {i : Nat} {v : AV} {log : Log} {es : List En} (h1 : fr'.tmps = putA fr.tmps (dstOf ops i) v) (h2 : Keep st st' log) (hk : ∃ o, ops[i]? = some o ∧ opKd o.op = .eff) (h3 : Ch ((i, log) :: acc) fr' st' es) :
      Ch acc fr st (⟨i, v, st.next, none⟩ :: es)

inductive DR : List Nat → List (Nat × Log) → Fr → Below → St → Res → List En → Prop where
  | nil {acc : List (Nat × Log)} {fr : Fr} {bel : Below} {st : St} : DR [] acc fr bel st ⟨.norm, fr, bel, st⟩ []
  | non {acc : List (Nat × Log)} {fr : Fr} {bel : Below} {st st' : St} {i : Nat} {o : Oper} {v : AV} {blk : Option Blk} {rest : List Nat} {r : Res} {es : List En} (ho : ops[i]? = some o) (h : NS tb ops an acc i fr st v blk) (h2 : Like st' (st.adv blk))
      (h3 : DR rest acc (fr.put o.dst v) bel st' r es) : DR (i :: rest) acc fr bel st r (⟨i, v, st.next, blk⟩ :: es)
  | eff {acc : List (Nat × Log)} {fr fr1 : Fr} {bel bel1 : Below} {st st1 st' : St} {i : Nat} {o : Oper} {v : AV} {rest : List Nat} {r : Res} {es : List En} (ho : ops[i]? = some o) (hw : wantedA o ops fr = some true) (hk : opKd o.op = .eff)
      (he : evEff tb rec o fr bel { st with log := [] } = .val v fr1 bel1 st1) (hob : AllObl st1.obl) (ht : fr1.tmps = fr.tmps) (hkeep : Keep st st' st1.log) (h2 : Like st' st1)
      (h3 : DR rest ((i, st1.log) :: acc) (fr1.put o.dst v) bel1 st' r es) : DR (i :: rest) acc fr bel st r (⟨i, v, st.next, none⟩ :: es)
  | pan {acc : List (Nat × Log)} {fr : Fr} {bel bel1 : Below} {st st1 st' : St} {i : Nat} {o : Oper} {v : AV} {rest : List Nat} {es : List En} (ho : ops[i]? = some o) (hw : wantedA o ops fr = some true) (hk : opKd o.op = .eff)
      (he : evEff tb rec o fr bel { st with log := [] } = .pan v bel1 st1) (hob : AllObl st1.obl) (h2 : Like st' st1)
      (h3 : Ch tb ops an acc fr st es) (h4 : es.map (·.i) = rest.filter fun j => !bit an j i) : DR (i :: rest) acc fr bel st ⟨.pan v, { fr with tmps := dropSlots ops rest fr.tmps }, bel1, st'⟩ es
end

section
variable {tb : Tab} {rec : Cmd → St → Ex} {ops : List Oper} {an : List Nat}
theorem put_tmps {fr : Fr} {i : Nat} {o : Oper} (ho : ops[i]? = some o) (v : AV) : (fr.put o.dst v).tmps = putA fr.tmps (dstOf ops i) v := by
  rw [(put_fr fr o.dst v).1]; simp [dstOf, ho]
theorem DR.ch {l : List Nat} {acc : List (Nat × Log)} {fr : Fr} {bel : Below} {st : St} {r : Res} {es : List En} (h : DR tb rec ops an l acc fr bel st r es) : Ch tb ops an acc fr st es := by
  induction h with
  | nil => exact .nil
  | non ho h h2 h3 ih => exact .non h (put_tmps ho _) h2 ih
  | eff ho hw hk he hob ht hkeep h2 h3 ih => exact .eff (by rw [put_tmps ho, ht]) hkeep ⟨_, ho, hk⟩ ih
  | pan ho hw hk he hob h2 h3 h4 => exact h3

theorem rest_ch {m : Nat} {acc : List (Nat × Log)} : ∀ (l : List Nat) (fr : Fr) (st : St), evRest tb ops an m acc l fr st = true → ∃ es, Ch tb ops an acc fr st es ∧ es.map (·.i) = l.filter fun j => !bit an j m := by
  intro l
  induction l with
  | nil => intro fr st h; exact ⟨[], .nil, rfl⟩
  | cons i l ih =>
    intro fr st h
    simp only [evRest] at h
    rw [Bool.cond_eq_ite] at h
    split at h
    · rename_i hb
      obtain ⟨es, h1, h2⟩ := ih _ _ h
      refine ⟨es, h1, ?_⟩
      have hb' : bit an i m = true := hb
      rw [List.filter_cons_of_neg (by simp [hb']), h2]
    · rename_i hb
      have hb' : bit an i m = false := by simpa [bit] using hb
      unfold restOne at h
      have fin : ∀ {v : AV} {blk : Option Blk} {fr' : Fr} {st' : St}, NS tb ops an acc i fr st v blk → fr'.tmps = putA fr.tmps (dstOf ops i) v → Like st' (st.adv blk) → evRest tb ops an m acc l fr' st' = true →
          ∃ es, Ch tb ops an acc fr st es ∧ es.map (·.i) = (i :: l).filter fun j => !bit an j m := by
        intro v blk fr' st' hn ht hl h
        obtain ⟨es, h1, h2⟩ := ih _ _ h
        exact ⟨_, .non hn ht hl h1, by rw [List.map_cons, List.filter_cons_of_pos (by simp [hb']), h2]⟩
      split at h
      · cases h
      · rename_i o ho
        split at h
        · cases h
        · rename_i hw
          exact fin (.skip ho hw) (put_tmps ho _) (.refl _) h
        · rename_i hw
          split at h
          · rename_i hk
            rw [Bool.cond_eq_ite] at h
            split at h
            · rename_i hacc
              split at h
              · rename_i v hv
                refine fin (.val ho hw hk (fun e he => ?_) hv) (put_tmps ho _) (.refl _) h
                have := List.all_eq_true.1 hacc e he
                simpa [bit, Bool.or_eq_true] using this
              · cases h
            · cases h
          · rename_i hk
            split at h
            · rename_i blk mk hn
              exact fin (.new ho hw hk hn) (put_tmps ho _) (.refl _) h
            · cases h
          · cases h

theorem eff_tmps {o : Oper} {fr fr1 : Fr} {bel bel1 : Below} {st st1 : St} {v : AV} (h : evEff tb rec o fr bel st = .val v fr1 bel1 st1) : fr1.tmps = fr.tmps := by
  have := evEff_tmps (tb := tb) (rec := rec) (o := o) (fr := fr) (bel := bel) (st := st) (t := fr.tmps) (fun x _ => rfl)
  have e : ({ fr with tmps := fr.tmps } : Fr) = fr := rfl
  rw [e, h] at this
  simp only [Eff.withT, Eff.val.injEq] at this
  rw [this.2.1]

theorem dr_of (ih : RecAdv rec) : ∀ (l : List Nat) (acc : List (Nat × Log)) (fr : Fr) (bel : Below) (st : St) (r : Res), evDrawn tb rec ops an l acc fr bel st = .ok r → AllObl r.st.obl → ∃ es, DR tb rec ops an l acc fr bel st r es := by
  intro l
  induction l with
  | nil => intro acc fr bel st r h ho; cases h; exact ⟨[], .nil⟩
  | cons i rest ihl =>
    intro acc fr bel st r h ho
    simp only [evDrawn, dOne] at h
    split at h
    · cases h
    · rename_i o hoi
      split at h
      · cases h
      · rename_i hw
        obtain ⟨es, hd⟩ := ihl _ _ _ _ _ h ho
        exact ⟨_, .non hoi (.skip hoi hw) (.tick st) hd⟩
      · rename_i hw
        split at h
        · rename_i hk
          unfold dOpV at h
          rw [Bool.cond_eq_ite] at h
          split at h
          · rename_i hacc
            split at h
            · rename_i v st1 hask
              have hoo : AllObl st1.obl := by
                have := (evDrawn_adv (tb := tb) ih _ _ _ _ _ _ _ _ h).all ho
                rw [St.tick_eq] at this
                exact this
              obtain ⟨a1, a2, a3, a4, a5, a6⟩ := askV_ok hask
              obtain ⟨es, hd⟩ := ihl _ _ _ _ _ h ho
              refine ⟨_, .non hoi (.val hoi hw hk (fun e he => ?_) (a1 hoo)) ((Like.tick st1).trans ⟨a3, a4⟩) hd⟩
              have := List.all_eq_true.1 hacc e he
              simpa [bit, Bool.or_eq_true] using this
            · cases h
          · cases h
        · rename_i hk
          unfold dOpN at h
          split at h
          · rename_i blk mk hn
            obtain ⟨es, hd⟩ := ihl _ _ _ _ _ h ho
            exact ⟨_, .non hoi (.new hoi hw hk hn) (.tick _) hd⟩
          · cases h
        · rename_i hk
          unfold dOpE at h
          split at h
          · rename_i v fr1 bel1 st1 he
            have hoo : AllObl st1.obl := by
              have := (evDrawn_adv (tb := tb) ih _ _ _ _ _ _ _ _ h).all ho
              rw [St.tick_eq] at this
              exact this
            obtain ⟨es, hd⟩ := ihl _ _ _ _ _ h ho
            have ha := evEff_adv (tb := tb) ih (st' := st1) (by rw [he]; rfl)
            have hkp := ha.go hoo
            have hlike : Like ({ st1 with log := st1.log ++ st.log } : St).tick st1 := (Like.tick _).trans ⟨rfl, rfl⟩
            refine ⟨_, .eff hoi hw hk he hoo (eff_tmps he) ?_ hlike hd⟩
            exact ⟨by rw [hlike.next]; exact hkp.next, fun b hb hdd => by rw [hlike.get]; exact hkp.dead b hb hdd, fun b hb hn => by
              have := hkp.same b hb hn
              split
              · rename_i cs hcs
                have e : ({ st with log := [] } : St).get b = .cells cs := hcs
                rw [e] at this
                rw [hlike.get]
                exact this
              · rename_i x hx
                rw [hlike.get]
                have e : ({ st with log := [] } : St).get b = st.get b := rfl
                rw [e] at this
                split at this
                · rename_i cs hcs; exact absurd hcs (hx cs)
                · exact this⟩
          · rename_i v bel1 st1 he
            rw [Bool.cond_eq_ite] at h
            split at h
            · rename_i hr
              cases h
              obtain ⟨es, h1, h2⟩ := rest_ch _ _ _ hr
              exact ⟨es, .pan hoi hw hk he ho ⟨rfl, rfl⟩ h1 h2⟩
            · cases h
          · cases h

/-- what a block was, what it is: but for what the log names -/
def Kept (x y : Blk) (l : Log) (b : Nat) : Prop := ¬ covered l b live0 → match x with
  | .cells cs => ∃ cs', y = .cells cs' ∧ ∀ q, ¬ covered l b q → cs'[q]? = cs[q]?
  | x => y = x
theorem Kept.refl (x : Blk) (l : Log) (b : Nat) : Kept x x l b := by
  intro _
  split
  · exact ⟨_, rfl, fun _ _ => rfl⟩
  · rfl
theorem Kept.trans {x y z : Blk} {l m n : Log} {b : Nat} (h : Kept x y l b) (k : Kept y z m b) (h1 : ∀ e ∈ l, e ∈ n) (h2 : ∀ e ∈ m, e ∈ n) : Kept x z n b := by
  intro hn
  have c1 : ∀ q, ¬ covered n b q → ¬ covered l b q := fun q hq ⟨e, he, h3⟩ => hq ⟨e, h1 e he, h3⟩
  have c2 : ∀ q, ¬ covered n b q → ¬ covered m b q := fun q hq ⟨e, he, h3⟩ => hq ⟨e, h2 e he, h3⟩
  have q1 := h (c1 _ hn)
  have q2 := k (c2 _ hn)
  cases x with
  | cells cs =>
    obtain ⟨cs', rfl, q3⟩ := q1
    obtain ⟨cs'', rfl, q4⟩ := q2
    exact ⟨cs'', rfl, fun q hq => (q4 q (c2 q hq)).trans (q3 q (c1 q hq))⟩
  | map es => have e : y = .map es := q1; subst e; exact q2
  | loop s p f t ps a b d => have e : y = .loop s p f t ps a b d := q1; subst e; exact q2
  | defd t => have e : y = .defd t := q1; subst e; exact q2
  | dead => have e : y = .dead := q1; subst e; exact q2
theorem Kept.of {x y : Blk} {l : Log} {b : Nat} (h : ¬ covered l b live0 → match x with
    | .cells cs => ∃ cs', y = .cells cs' ∧ ∀ q, ¬ covered l b q → cs'[q]? = cs[q]?
    | x => y = x) : Kept x y l b := h
theorem Kept.alive {x y : Blk} {l : Log} {b : Nat} (h : Kept x y l b) (hn : ¬ covered l b live0) (ha : y.alive = true) : x.alive = true := by
  have q := h hn
  cases x with
  | dead => have e : y = .dead := q; subst e; exact ha
  | _ => rfl

theorem get_new_self (st : St) (x : Blk) : (st.new x).get st.next = x := by
  have h2 := St.new_hp st x
  have := congrFun h2 st.next
  simp only [St.hp, Hp.set, if_true] at this
  rw [if_pos (by simp [St.new])] at this
  exact Option.some.inj this

/-- where the evaluator stood at an entry -/
theorem Ch.at {e : En} {post : List En} : ∀ {pre : List En} {acc : List (Nat × Log)} {fr : Fr} {st : St}, Ch tb ops an acc fr st (pre ++ e :: post) → (∀ p ∈ pre, ∀ q ∈ pre, dstOf ops p.i ≠ none → dstOf ops p.i = dstOf ops q.i → p.i = q.i) → (pre.map (·.i)).Nodup →
    ∃ acc' fr' st' l, Ch tb ops an acc' fr' st' (e :: post) ∧ st.next ≤ st'.next ∧ (∀ a ∈ acc', a ∈ acc ∨ ∃ p ∈ pre, p.i = a.1) ∧ (∀ a ∈ acc, a ∈ acc') ∧ (∀ x ∈ l, ∃ a ∈ acc', (∃ p ∈ pre, p.i = a.1 ∧ ∃ o, ops[p.i]? = some o ∧ opKd o.op = .eff) ∧ x ∈ a.2) ∧
      (∀ b, b < st.next → Kept (st.get b) (st'.get b) l b) ∧ (∀ p ∈ pre, p.m ≤ st'.next ∧ st.next ≤ p.n ∧ ∀ blk, p.blk = some blk → Kept blk (st'.get p.n) l p.n) ∧
      (∀ t, (∀ p ∈ pre, dstOf ops p.i ≠ some t) → fr'.tmps.get? t = fr.tmps.get? t) ∧ (∀ p ∈ pre, ∀ t, dstOf ops p.i = some t → fr'.tmps.get? t = some p.v) := by
  intro pre
  induction pre with
  | nil =>
    intro acc fr st h _ _
    exact ⟨acc, fr, st, [], h, Nat.le_refl _, fun a ha => .inl ha, fun a ha => ha, (fun x hx => by cases hx), fun b _ => .refl _ _ _, (fun p hp => by cases hp), fun _ _ => rfl, (fun p hp => by cases hp)⟩
  | cons p0 pre ih =>
    intro acc fr st h hd hnd
    rw [List.map_cons, List.nodup_cons] at hnd
    have hd' : ∀ p ∈ pre, ∀ q ∈ pre, dstOf ops p.i ≠ none → dstOf ops p.i = dstOf ops q.i → p.i = q.i := fun p hp q hq => hd p (List.mem_cons_of_mem _ hp) q (List.mem_cons_of_mem _ hq)
    have ne : ∀ p ∈ pre, p.i ≠ p0.i := by
      intro p hp hh
      exact hnd.1 (List.mem_map.2 ⟨p, hp, hh⟩)
    have slot : ∀ (fr1 fr2 : Fr), fr1.tmps = putA fr.tmps (dstOf ops p0.i) p0.v → (∀ t, (∀ p ∈ pre, dstOf ops p.i ≠ some t) → fr2.tmps.get? t = fr1.tmps.get? t) → (∀ p ∈ pre, ∀ t, dstOf ops p.i = some t → fr2.tmps.get? t = some p.v) →
        (∀ t, (∀ p ∈ p0 :: pre, dstOf ops p.i ≠ some t) → fr2.tmps.get? t = fr.tmps.get? t) ∧ (∀ p ∈ p0 :: pre, ∀ t, dstOf ops p.i = some t → fr2.tmps.get? t = some p.v) := by
      intro fr1 fr2 h1 h2 h3
      refine ⟨fun t ht => ?_, fun p hp t ht => ?_⟩
      · rw [h2 t fun p hp => ht p (List.mem_cons_of_mem _ hp), h1]
        have := ht p0 (List.mem_cons_self ..)
        cases hdd : dstOf ops p0.i with
        | none => rfl
        | some d =>
          rw [hdd] at this
          simp only [putA, T.get?_set]
          rw [if_neg (fun hh => this (by rw [hh]))]
      · rcases List.mem_cons.1 hp with rfl | hp
        · have hno : ∀ q ∈ pre, dstOf ops q.i ≠ some t := by
            intro q hq hqt
            exact ne q hq (hd q (List.mem_cons_of_mem _ hq) p (List.mem_cons_self ..) (by rw [hqt]; simp) (by rw [hqt, ht]))
          rw [h2 t hno, h1, ht]
          simp [putA, T.get?_set]
        · exact h3 p hp t ht
    cases h with
    | @non _ _ fr' _ st' i v blk _ hns h1 h2 h3 =>
      obtain ⟨acc2, fr2, st2, l, c1, c2, c3, c3', c4, c5, c6, c7, c8⟩ := ih h3 hd' hnd.2
      obtain ⟨s1, s2⟩ := slot fr' fr2 h1 c7 c8
      have hnx : st'.next = match blk with | none => st.next | some _ => st.next + 1 := by rw [h2.next]; cases blk <;> rfl
      have hle : st.next ≤ st'.next := by rw [hnx]; split <;> omega
      have hget : ∀ b, b < st.next → st'.get b = st.get b := by
        intro b hb
        rw [h2.get]
        cases blk with
        | none => rfl
        | some x => exact St.get_new st x b hb
      refine ⟨acc2, fr2, st2, l, c1, Nat.le_trans hle c2, fun a ha => ?_, c3', fun x hx => ?_, fun b hb => ?_, fun p hp => ?_, s1, s2⟩
      · rcases c3 a ha with h | ⟨p, hp, hh⟩
        · exact .inl h
        · exact .inr ⟨p, List.mem_cons_of_mem _ hp, hh⟩
      · obtain ⟨a, ha, ⟨p, hp, hh⟩, hx'⟩ := c4 x hx
        exact ⟨a, ha, ⟨p, List.mem_cons_of_mem _ hp, hh⟩, hx'⟩
      · have := c5 b (by omega)
        rw [hget b hb] at this
        exact this
      · rcases List.mem_cons.1 hp with rfl | hp
        · refine ⟨?_, Nat.le_refl _, fun x hx => ?_⟩
          · have : (⟨i, v, st.next, blk⟩ : En).m = st'.next := by rw [hnx]; unfold En.m; cases blk <;> rfl
            rw [this]; exact c2
          · simp only at hx
            subst hx
            have := c5 st.next (by rw [hnx]; simp)
            rw [h2.get] at this
            have e : (st.adv (some x)).get st.next = x := get_new_self st x
            rw [e] at this
            exact this
        · obtain ⟨k1, k2, k3⟩ := c6 p hp
          exact ⟨k1, Nat.le_trans hle k2, k3⟩
    | @eff _ _ fr' _ st' i v log _ h1 h2 hk h3 =>
      obtain ⟨acc2, fr2, st2, l, c1, c2, c3, c3', c4, c5, c6, c7, c8⟩ := ih h3 hd' hnd.2
      obtain ⟨s1, s2⟩ := slot fr' fr2 h1 c7 c8
      refine ⟨acc2, fr2, st2, l ++ log, c1, Nat.le_trans h2.next c2, fun a ha => ?_, fun a ha => c3' a (List.mem_cons_of_mem _ ha), fun x hx => ?_, fun b hb => ?_, fun p hp => ?_, s1, s2⟩
      · rcases c3 a ha with h | ⟨p, hp, hh⟩
        · rcases List.mem_cons.1 h with rfl | h
          · exact .inr ⟨_, List.mem_cons_self .., rfl⟩
          · exact .inl h
        · exact .inr ⟨p, List.mem_cons_of_mem _ hp, hh⟩
      · rcases List.mem_append.1 hx with hx | hx
        · obtain ⟨a, ha, ⟨p, hp, hh⟩, hx'⟩ := c4 x hx
          exact ⟨a, ha, ⟨p, List.mem_cons_of_mem _ hp, hh⟩, hx'⟩
        · exact ⟨(i, log), c3' _ (List.mem_cons_self ..), ⟨_, List.mem_cons_self .., rfl, hk⟩, hx⟩
      · exact (Kept.of (h2.same b hb)).trans (c5 b (Nat.lt_of_lt_of_le hb h2.next)) (fun e he => List.mem_append.2 (.inr he)) (fun e he => List.mem_append.2 (.inl he))
      · rcases List.mem_cons.1 hp with rfl | hp
        · refine ⟨?_, Nat.le_refl _, fun x hx => by cases hx⟩
          show st.next ≤ st2.next
          exact Nat.le_trans h2.next c2
        · obtain ⟨k1, k2, k3⟩ := c6 p hp
          refine ⟨k1, Nat.le_trans h2.next k2, fun x hx => ?_⟩
          exact (Kept.refl x [] _).trans (k3 x hx) (fun e he => by cases he) (fun e he => List.mem_append.2 (.inl he))

theorem Ch.mono {acc : List (Nat × Log)} {fr : Fr} {st : St} {es : List En} (h : Ch tb ops an acc fr st es) : es.Pairwise (fun a b => a.m ≤ b.n) ∧ ∀ p ∈ es, st.next ≤ p.n := by
  induction h with
  | nil => exact ⟨.nil, fun p hp => by cases hp⟩
  | @non acc fr fr' st st' i v blk es h h1 h2 h3 ih =>
    have hnx : (⟨i, v, st.next, blk⟩ : En).m = st'.next := by rw [h2.next]; cases blk <;> rfl
    have hle : st.next ≤ st'.next := by rw [← hnx]; exact En.n_le ⟨i, v, st.next, blk⟩
    refine ⟨List.pairwise_cons.2 ⟨fun p hp => by rw [hnx]; exact ih.2 p hp, ih.1⟩, fun p hp => ?_⟩
    rcases List.mem_cons.1 hp with rfl | hp
    · exact Nat.le_refl _
    · exact Nat.le_trans hle (ih.2 p hp)
  | @eff acc fr fr' st st' i v log es h1 h2 hk h3 ih =>
    refine ⟨List.pairwise_cons.2 ⟨fun p hp => Nat.le_trans h2.next (ih.2 p hp), ih.1⟩, fun p hp => ?_⟩
    rcases List.mem_cons.1 hp with rfl | hp
    · exact Nat.le_refl _
    · exact Nat.le_trans h2.next (ih.2 p hp)
end
end Go.Sy
