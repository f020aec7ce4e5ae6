/- The evaluator alone: from state to state. -/
import Derived.Test.YtapfloegpaadgaaGreatSyKeep
set_option linter.unusedVariables false
set_option linter.unusedSimpArgs false
namespace Go.Sy

theorem mem_below {l : Log} {n : Nat} {e : Nat × Nat × Nat} : e ∈ Log.below l n ↔ e ∈ l ∧ e.1 < n := by
  simp [Log.below, List.mem_filter, blt_dec]
theorem Adv.below {st st' : St} (h : Adv st st') : Adv st { st' with log := Log.below st'.log st.next } := by
  refine ⟨h.obl, h.next, fun ho => ?_, fun e he hl => mem_below.2 ⟨h.log e he hl, hl⟩⟩
  have k := h.go ho
  refine ⟨k.next, k.dead, fun b hb hn => ?_⟩
  have cov : ∀ q, ¬ covered (Log.below st'.log st.next) b q → ¬ covered st'.log b q := by
    rintro q hq ⟨e, he, h1, h2⟩
    exact hq ⟨e, mem_below.2 ⟨he, by omega⟩, h1, h2⟩
  have := k.same b hb (cov _ hn)
  split
  · rename_i cs hcs
    rw [hcs] at this
    obtain ⟨cs', h1, h2⟩ := this
    exact ⟨cs', h1, fun q hq => h2 q (cov q hq)⟩
  · rename_i x hx
    split at this
    · rename_i cs h'; exact absurd h' (hx cs)
    · exact this
theorem Keep.weaken {st st' : St} {l m : Log} (h : Keep st st' l) (hlm : ∀ e ∈ l, e.1 < st.next → e ∈ m) : Keep st st' m := by
  have := (Keep.same' (st := st) (st' := st) (l := []) rfl (fun _ _ => rfl)).trans h (n := m) (by simp) hlm
  exact this
theorem Adv.join {st st' : St} (h : Adv { st with log := [] } st') : Adv st { st' with log := st'.log ++ st.log } := by
  refine ⟨h.obl, h.next, fun ho => ?_, fun e he _ => List.mem_append.2 (.inr he)⟩
  have k := h.go ho
  have k2 : Keep st { st' with log := st'.log ++ st.log } st'.log := ⟨k.next, k.dead, k.same⟩
  exact k2.weaken fun e he _ => List.mem_append.2 (.inl he)

theorem meetHeap_get (a b : T Blk) (i : Nat) : ∀ (l : List Nat), i ∉ l → (meetHeap a b l).get? i = a.get? i
  | [], _ => rfl
  | j :: l, h => by
    have h1 : i ∉ l := fun hh => h (List.mem_cons_of_mem _ hh)
    have h2 : i ≠ j := fun hh => h (hh ▸ List.mem_cons_self ..)
    unfold meetHeap
    cases Blk.eqb ((a.get? j).getD .dead) ((b.get? j).getD .dead)
    · simp only [cond_false]
      rw [T.get?_set, if_neg h2, meetHeap_get a b i l h1]
    · exact meetHeap_get a b i l h1

/-! Told runs. -/
theorem get_over {st : St} {b : Nat} (h : st.next ≤ b) : st.get b = .dead := by
  simp [St.get, blt_dec, Nat.not_lt.2 h]
theorem get_put_ne (st : St) (b : Nat) (x : Blk) (o n i : Nat) (h : i ≠ b) : (st.put b x o n).get i = st.get i := by
  rw [St.get_put]
  split
  · first | rfl | rw [if_neg h]
  · rename_i hh; rw [get_over (Nat.not_lt.1 hh)]
structure Puts (st s : St) (S : Nat → Prop) : Prop where
  obl : s.obl = st.obl
  tape : s.tape = st.tape
  log : ∀ e ∈ st.log, e ∈ s.log
  next : st.next ≤ s.next
  get : ∀ b, b < st.next → ¬ S b → s.get b = st.get b
  named : ∀ b, S b → (b, 0, whole) ∈ s.log
theorem Puts.refl (st : St) (S : Nat → Prop) (h : ∀ b, ¬ S b) : Puts st st S := ⟨rfl, rfl, fun _ h => h, Nat.le_refl _, fun _ _ _ => rfl, fun b hb => absurd hb (h b)⟩
theorem Puts.trans {a b c : St} {S S' : Nat → Prop} (h : Puts a b S) (k : Puts b c S') : Puts a c (fun x => S x ∨ S' x) :=
  ⟨k.obl.trans h.obl, k.tape.trans h.tape, fun e he => k.log e (h.log e he), Nat.le_trans h.next k.next, fun x hx hn => (k.get x (Nat.lt_of_lt_of_le hx h.next) fun hh => hn (.inr hh)).trans (h.get x hx fun hh => hn (.inl hh)),
    fun x hx => by
      rcases hx with hx | hx
      · exact k.log _ (h.named x hx)
      · exact k.named x hx⟩
theorem Puts.cast {a b : St} {S S' : Nat → Prop} (h : Puts a b S) (hS : ∀ x, S x ↔ S' x) : Puts a b S' :=
  ⟨h.obl, h.tape, h.log, h.next, fun x hx hn => h.get x hx fun hh => hn ((hS x).1 hh), fun x hx => h.named x ((hS x).2 hx)⟩
theorem Puts.put (st : St) (b : Nat) (x : Blk) : Puts st (st.put b x 0 whole) (fun i => i = b) :=
  ⟨rfl, rfl, fun e he => List.mem_cons_of_mem _ he, Nat.le_refl _, fun i _ hn => get_put_ne _ _ _ _ _ _ hn, fun i hi => by subst hi; exact List.mem_cons_self ..⟩
theorem Puts.new (st : St) (x : Blk) : Puts st (st.new x) (fun _ => False) :=
  ⟨rfl, rfl, fun e he => he, by simp [St.new], fun i hi _ => St.get_new st x i hi, fun _ h => h.elim⟩
theorem putAll_puts (rho : List Nat) (post : List Blk) : ∀ (wr : List Nat) (st : St), Puts st (putAll st rho post wr) (fun b => ∃ i ∈ wr, rho[i]? = some b ∧ post[i]?.isSome = true)
  | [], st => .refl _ _ (by rintro b ⟨i, hi, _⟩; cases hi)
  | i :: wr, st => by
    unfold putAll
    split
    · rename_i b x hb hx
      refine ((Puts.put st b x).trans (putAll_puts rho post wr _)).cast fun c => ?_
      constructor
      · rintro (rfl | ⟨j, hj, h⟩)
        · exact ⟨i, List.mem_cons_self .., hb, by rw [hx]; rfl⟩
        · exact ⟨j, List.mem_cons_of_mem _ hj, h⟩
      · rintro ⟨j, hj, h1, h2⟩
        rcases List.mem_cons.1 hj with rfl | hj
        · rw [hb] at h1; cases h1; exact .inl rfl
        · exact .inr ⟨j, hj, h1, h2⟩
    · rename_i hne
      refine (putAll_puts rho post wr st).cast fun c => ?_
      constructor
      · rintro ⟨j, hj, h⟩; exact ⟨j, List.mem_cons_of_mem _ hj, h⟩
      · rintro ⟨j, hj, h1, h2⟩
        rcases List.mem_cons.1 hj with rfl | hj
        · obtain ⟨x, hx⟩ := Option.isSome_iff_exists.1 h2
          exact absurd hx (hne _ _ h1)
        · exact ⟨j, hj, h1, h2⟩
theorem newAll_puts : ∀ (l : List Blk) (st : St), Puts st (newAll st l) (fun _ => False)
  | [], st => .refl _ _ (fun _ h => h)
  | x :: l, st => ((Puts.new st x).trans (newAll_puts l _)).cast fun _ => by simp
theorem killAll_puts : ∀ (l : List Nat) (st : St), Puts st (killAll st l) (fun b => b ∈ l)
  | [], st => .refl _ _ (by simp)
  | b :: l, st => ((Puts.put st b .dead).trans (killAll_puts l _)).cast fun c => by simp
def upSet (rho lend wr : List Nat) (keep : Bool) (post : List Blk) : Nat → Prop := fun b => (∃ i ∈ wr, rho[i]? = some b ∧ post[i]?.isSome = true) ∨ (keep = false ∧ b ∈ lend)
theorem upSt_puts (st : St) (rho lend wr : List Nat) (keep : Bool) (post : List Blk) : Puts st (upSt st rho lend wr keep post) (upSet rho lend wr keep post) := by
  unfold upSt
  have h := (putAll_puts rho post wr st).trans (newAll_puts (post.drop rho.length) _)
  cases keep with
  | true => simp only [cond_true]; exact h.cast fun b => by simp [upSet]
  | false =>
    simp only [cond_false]
    refine (h.trans (killAll_puts lend _)).cast fun b => ?_
    simp [upSet]
theorem Puts.adv {st s : St} {S : Nat → Prop} (h : Puts st s S) (hS : ∀ b, S b → st.get b ≠ .dead) : Adv st s := by
  refine ⟨fun p hp => by rw [h.obl]; exact hp, h.next, fun _ => ⟨h.next, fun b hb hd => ?_, fun b hb hn => ?_⟩, fun e he _ => h.log e he⟩
  · rw [h.get b hb fun hs => hS b hs hd]; exact hd
  · rw [h.get b hb fun hs => hn ⟨_, h.named b hs, rfl, by simp [live0], by simp [live0, whole]⟩]
    split
    · rename_i cs hcs; exact ⟨cs, hcs, fun _ _ => rfl⟩
    · rfl
theorem rhoOK_inv {st : St} {rho lend wr : List Nat} (h : rhoOK st rho lend wr = true) : (rho ++ lend).Nodup ∧ (∀ b ∈ rho, (st.get b).alive = true) ∧ (∀ b ∈ lend, (st.get b).alive = true) ∧ ∀ i ∈ wr, i < rho.length := by
  simp only [rhoOK, Bool.and_eq_true] at h
  obtain ⟨⟨⟨h1, h2⟩, h3⟩, h4⟩ := h
  refine ⟨?_, fun b hb => List.all_eq_true.1 h2 b hb, fun b hb => List.all_eq_true.1 h3 b hb, fun i hi => ?_⟩
  · generalize rho ++ lend = l at h1
    clear h2 h3 h4
    induction l with
    | nil => exact .nil
    | cons x l ih =>
      simp only [nodupB, Bool.and_eq_true, Bool.not_eq_true'] at h1
      refine List.nodup_cons.2 ⟨fun hx => ?_, ih h1.2⟩
      have : l.any (Nat.beq x) = true := List.any_eq_true.2 ⟨x, hx, by simp [beq_dec]⟩
      rw [h1.1] at this; cases this
  · have := List.all_eq_true.1 h4 i hi
    simpa [blt_dec] using this
theorem told_inv {st st' : St} {rho lend wr rho' : List Nat} {post pre : List Blk} {vs : List AV} (h : told st rho lend wr post vs = some (pre, rho', st')) :
    ∃ post', invBlks st (posOf rho 0) rho = some pre ∧ renBlks (rhoNew st rho post) post = some post' ∧ rhoOK st rho lend wr = true ∧ cleanOK st (posOf rho 0) wr rho 0 = true ∧ rho.length ≤ post.length ∧ rho' = rhoNew st rho post ∧ st' = upSt st rho lend wr (keepOK lend post vs) post' := by
  unfold told at h
  split at h
  · rename_i pre0 post' h1 h2
    rw [Bool.cond_eq_ite] at h
    split at h
    · rename_i hc
      simp only [Bool.and_eq_true, Nat.ble_eq] at hc
      simp only [Option.some.injEq, Prod.mk.injEq] at h
      obtain ⟨rfl, rfl, rfl⟩ := h
      exact ⟨post', h1, h2, hc.1.1, hc.1.2, hc.2, rfl, rfl⟩
    · cases h
  · cases h
theorem alive_ne {x : Blk} (h : x.alive = true) : x ≠ .dead := by rintro rfl; cases h
theorem told_adv {st st' : St} {rho lend wr rho' : List Nat} {post pre : List Blk} {vs : List AV} (h : told st rho lend wr post vs = some (pre, rho', st')) : Adv st st' := by
  obtain ⟨post', h1, h2, h3, h4, h5, h6, rfl⟩ := told_inv h
  obtain ⟨q1, q2, q3, q4⟩ := rhoOK_inv h3
  refine (upSt_puts st rho lend wr _ post').adv ?_
  rintro b (⟨i, _, hb, _⟩ | ⟨_, hb⟩)
  · exact alive_ne (q2 b (List.mem_of_getElem? hb))
  · exact alive_ne (q3 b hb)
theorem Adv.more {st st' : St} (h : Adv st st') (ps : List Prop) : Adv st { st' with obl := ps ++ st'.obl } :=
  ⟨fun p hp => List.mem_append.2 (.inr (h.obl p hp)), h.next, fun ho => by
    have k := h.go fun p hp => ho p (List.mem_append.2 (.inr hp))
    exact ⟨k.next, k.dead, k.same⟩, h.log⟩
theorem Adv.tapeTo (st : St) (tp : List (Nat × Ask)) : Adv st { st with tape := tp } := ⟨fun _ h => h, Nat.le_refl _, fun _ => .same' rfl fun _ _ => rfl, fun _ h _ => h⟩

section
variable (tb : Tab) (rec : Cmd → St → Ex)
def RecAdv : Prop := ∀ cmd st r, rec cmd st = .ok r → Adv st r.st
variable {tb rec}
def Eff.st? : Eff → Option St
  | .val _ _ _ st | .pan _ _ st => some st
  | .err _ => none
theorem evYield_adv (ih : RecAdv rec) {l : Nat} {args : List AV} {fr : Fr} {bel : Below} {st st' : St} (h : (evYield tb rec l args fr bel st).st? = some st') : Adv st st' := by
  unfold evYield at h
  split at h
  · split at h
    · split at h
      · rename_i hr1
        have a1 := ih _ _ _ hr1
        split at h
        · rename_i hl
          split at h
          · rename_i hr2
            have a2 := ih _ _ _ hr2
            split at h
            · rename_i hl2
              have a3 := a1.trans ((Adv.putW _ _ _ (by rw [hl]; simp)).trans a2)
              split at h
              · simp only [Eff.st?, Option.some.injEq] at h
                subst h
                exact a3.trans (Adv.putW _ _ _ (by rw [hl2]; simp))
              · simp only [Eff.st?, Option.some.injEq] at h
                subst h
                exact a3.trans (Adv.putW _ _ _ (by rw [hl2]; simp))
              · simp only [Eff.st?, Option.some.injEq] at h
                subst h
                exact a3.trans (Adv.putW _ _ _ (by rw [hl2]; simp))
              · split at h
                · simp only [Eff.st?, Option.some.injEq] at h
                  subst h
                  exact a3
                · cases h
              · cases h
            · cases h
          · cases h
        · cases h
      · cases h
      · cases h
    · cases h
  · cases h
theorem evCall_adv (ih : RecAdv rec) {f : Nat} {args : List AV} {fr : Fr} {bel : Below} {st st' : St} (h : (evCall rec f args fr bel st).st? = some st') : Adv st st' := by
  unfold evCall at h
  split at h
  · rename_i hr
    simp only [Eff.st?, Option.some.injEq] at h
    subst h
    exact (ih _ _ _ hr).below
  · rename_i hr
    simp only [Eff.st?, Option.some.injEq] at h
    subst h
    exact (ih _ _ _ hr).below
  · cases h
  · cases h
theorem evEff_adv (ih : RecAdv rec) {o : Oper} {fr : Fr} {bel : Below} {st st' : St} (h : (evEff tb rec o fr bel st).st? = some st') : Adv st st' := by
  unfold evEff at h
  split at h
  · rename_i ha
    simp only [Eff.st?, Option.some.injEq] at h
    subst h
    exact aEff_adv (by rw [ha]; rfl)
  · rename_i ha
    have e := aEff_st (st' := _) (by rw [ha]; rfl) (by rw [ha]; simp)
    subst e
    split at h
    · rw [Bool.cond_eq_ite] at h
      split at h
      · unfold toldCall at h
        split at h
        · rename_i pre rho' st2 ht
          split at h <;> (simp only [Eff.st?, Option.some.injEq] at h; subst h; exact (Adv.tapeTo _ _).trans ((told_adv ht).more [_, _]))
        · cases h
      · exact evCall_adv ih h
    · exact evCall_adv ih h
  · rename_i ha
    have e := aEff_st (st' := _) (by rw [ha]; rfl) (by rw [ha]; simp)
    subst e
    exact evYield_adv ih h
  · rename_i ha
    have e := aEff_st (st' := _) (by rw [ha]; rfl) (by rw [ha]; simp)
    subst e
    split at h
    · simp only [Eff.st?, Option.some.injEq] at h
      subst h
      exact .refl _
    · cases h
  · rename_i ha
    have e := aEff_st (st' := _) (by rw [ha]; rfl) (by rw [ha]; simp)
    subst e
    split at h
    · split at h <;> simp only [Eff.st?, Option.some.injEq] at h <;> subst h <;> exact .refl _
    · cases h
  · rename_i ha
    have e := aEff_st (st' := _) (by rw [ha]; rfl) (by rw [ha]; simp)
    subst e
    simp only [Eff.st?, Option.some.injEq] at h
    subst h
    exact .refl _
  · cases h

theorem evOps_adv (ih : RecAdv rec) (ops : List Oper) : ∀ (l : List Nat) (fr : Fr) (bel : Below) (st : St) (r : Res), evOps tb rec ops l fr bel st = .ok r → Adv st r.st := by
  intro l
  induction l with
  | nil => intro fr bel st r h; cases h; exact .refl _
  | cons i rest ihl =>
    intro fr bel st r h
    simp only [evOps, opOne] at h
    split at h
    · cases h
    · split at h
      · cases h
      · exact (Adv.tick st).trans (ihl _ _ _ _ h)
      · split at h
        · unfold opV at h
          split at h
          · rename_i ha
            exact (askV_adv ha).trans ((Adv.tick _).trans (ihl _ _ _ _ h))
          · cases h
        · unfold opN at h
          split at h
          · exact (Adv.new st _).trans ((Adv.tick _).trans (ihl _ _ _ _ h))
          · cases h
        · unfold opE at h
          split at h
          · rename_i ha
            exact (evEff_adv (tb := tb) ih (st' := _) (by rw [ha]; rfl)).trans ((Adv.tick _).trans (ihl _ _ _ _ h))
          · rename_i ha
            cases h
            exact evEff_adv (tb := tb) ih (st' := _) (by rw [ha]; rfl)
          · cases h
theorem evDrawn_adv (ih : RecAdv rec) (ops : List Oper) (an : List Nat) : ∀ (l : List Nat) (acc : List (Nat × Log)) (fr : Fr) (bel : Below) (st : St) (r : Res), evDrawn tb rec ops an l acc fr bel st = .ok r → Adv st r.st := by
  intro l
  induction l with
  | nil => intro acc fr bel st r h; cases h; exact .refl _
  | cons i rest ihl =>
    intro acc fr bel st r h
    simp only [evDrawn, dOne] at h
    split at h
    · cases h
    · split at h
      · cases h
      · exact (Adv.tick st).trans (ihl _ _ _ _ _ h)
      · split at h
        · unfold dOpV at h
          rw [Bool.cond_eq_ite] at h
          split at h
          · split at h
            · rename_i ha
              exact (askV_adv ha).trans ((Adv.tick _).trans (ihl _ _ _ _ _ h))
            · cases h
          · cases h
        · unfold dOpN at h
          split at h
          · exact (Adv.new st _).trans ((Adv.tick _).trans (ihl _ _ _ _ _ h))
          · cases h
        · unfold dOpE at h
          split at h
          · rename_i ha
            exact (evEff_adv (tb := tb) ih (st' := _) (by rw [ha]; rfl)).join.trans ((Adv.tick _).trans (ihl _ _ _ _ _ h))
          · rename_i ha
            rw [Bool.cond_eq_ite] at h
            split at h
            · cases h
              exact (evEff_adv (tb := tb) ih (st' := _) (by rw [ha]; rfl)).join
            · cases h
          · cases h

theorem at_ok {n : Nat} {e : Ex} {r : Res} (h : e.at n = .ok r) : e = .ok r := by
  cases e with
  | ok r' => simpa [Ex.at] using h
  | err l => simp [Ex.at] at h

theorem choiceMeet_adv {st stA stB : St} {fr frA frB : Fr} {r : Res} (aA : Adv { st.new (.cells [.junk]) with log := [] } stA) (h : choiceMeet st.next (st.new (.cells [.junk])).next fr st.log frA frB stA stB = .ok r) : Adv st r.st := by
  unfold choiceMeet at h
  split at h
  · rw [Bool.cond_eq_ite] at h
    split at h
    · cases h
      have a0 : Adv st (st.new (.cells [.junk])) := .new _ _
      have aJ := a0.trans aA.join
      refine ⟨fun p hp => List.mem_append.2 (.inl (aJ.obl p hp)), aJ.next, fun ho => ?_, fun e he hl => List.mem_append.2 (.inr he)⟩
      have hoA : AllObl stA.obl := fun p hp => ho p (List.mem_append.2 (.inl hp))
      have k := aJ.go hoA
      have hlt : ∀ i, i < st.next → i ∉ (List.range (Nat.sub stA.next (st.new (.cells [.junk])).next)).map (· + (st.new (.cells [.junk])).next) := by
        intro i hi hm
        simp only [List.mem_map, List.mem_range] at hm
        obtain ⟨j, _, rfl⟩ := hm
        simp [St.new] at hi
        omega
      have hget : ∀ i, i < st.next → ({ stA with heap := meetHeap stA.heap stB.heap ((List.range (Nat.sub stA.next (st.new (.cells [.junk])).next)).map (· + (st.new (.cells [.junk])).next)), log := stA.log ++ stB.log ++ st.log, obl := stA.obl ++ stB.obl } : St).get i = stA.get i := by
        intro i hi
        simp only [St.get]
        rw [meetHeap_get _ _ _ _ (hlt i hi)]
      have k' : Keep st stA (stA.log ++ stB.log ++ st.log) := by
        have k0 : Keep st stA (stA.log ++ st.log) := ⟨k.next, k.dead, k.same⟩
        refine k0.weaken fun e he _ => ?_
        rcases List.mem_append.1 he with h1 | h1
        · exact List.mem_append.2 (.inl (List.mem_append.2 (.inl h1)))
        · exact List.mem_append.2 (.inr h1)
      refine ⟨k'.next, fun i hi hd => by rw [hget i hi]; exact k'.dead i hi hd, fun i hi hn => ?_⟩
      rw [hget i hi]
      exact k'.same i hi hn
    · cases h
  · cases h
theorem evChoice_adv (ih : RecAdv rec) {x d : Nat} {a b : Code} {fr : Fr} {bel : Below} {st : St} {r : Res} (h : evChoice rec x d a b fr bel st = .ok r) : Adv st r.st := by
  unfold evChoice at h
  simp only [] at h
  split at h
  · split at h
    · rename_i hA
      split at h
      · exact choiceMeet_adv (ih _ _ _ hA) h
      · cases h
      · cases h
    · cases h
    · cases h
  · cases h
theorem evCode_adv (ih : RecAdv rec) {c : Code} {fr : Fr} {bel : Below} {st : St} {r : Res} (h : evCode tb rec c fr bel st = .ok r) : Adv st r.st := by
  unfold evCode at h
  split at h
  · cases h; exact .refl _
  · cases h; exact .refl _
  · unfold evSeq at h
    split at h
    · rw [Bool.cond_eq_ite] at h
      split at h
      · exact evChoice_adv ih h
      · cases h
    · split at h
      · rename_i h1
        exact (ih _ _ _ h1).trans (ih _ _ _ h)
      · exact ih _ _ _ h
  · unfold evCond at h
    split at h
    · exact ih _ _ _ h
    · cases h
  · unfold evBlock at h
    split at h
    · rename_i h1
      have a := ih _ _ _ h1
      cases h
      exact a
    · exact ih _ _ _ h
  · rename_i b
    have loop : ∀ {fr : Fr} {bel : Below} {st : St} {r : Res}, evLoop' rec b fr bel st = .ok r → Adv st r.st := by
      intro fr bel st r h
      unfold evLoop' at h
      split at h
      · rename_i h1
        exact (ih _ _ _ h1).trans (ih _ _ _ h)
      · exact ih _ _ _ h
    unfold evLoop at h
    split at h
    · rw [Bool.cond_eq_ite] at h
      split at h
      · unfold toldFrag at h
        split at h
        · rename_i pre rho' st2 slots hr0 hd0 ht hsl
          split at h
          · cases h
            exact (Adv.tapeTo _ _).trans ((told_adv ht).more [_, _])
          · cases h
        · cases h
      · exact loop h
    · exact loop h
  · cases h; exact .refl _
  · cases h
  · cases h; exact .refl _
  · cases h
  · cases h
  · rename_i rid rops draw
    unfold evRegion at h
    have h := at_ok h
    cases draw
    · simp only [cond_false] at h
      exact evOps_adv (tb := tb) ih _ _ _ _ _ _ h
    · simp only [cond_true] at h
      exact evDrawn_adv (tb := tb) ih _ _ _ _ _ _ _ _ h
  · unfold evRange at h
    split at h
    · cases h
    · split at h
      · simp only [] at h
        split at h
        · rename_i hr
          have a1 := ((Adv.new st _).trans (Adv.new _ _)).trans (ih _ _ _ hr)
          split at h
          · rename_i hl
            split at h
            · cases h
            · have a2 := fun x => a1.trans (Adv.putW _ _ x (by rw [hl]; simp))
              split at h
              · cases h
                exact a2 _
              · cases h
                exact a2 _
              · cases h
                exact a2 _
              · cases h
          · cases h
        · rename_i hr
          have a := ((Adv.new st _).trans (Adv.new _ _)).trans (ih _ _ _ hr)
          cases h
          exact a
        · cases h
        · cases h
      · cases h
theorem evStep_adv (ih : RecAdv rec) {cmd : Cmd} {st : St} {r : Res} (h : evStep tb rec cmd st = .ok r) : Adv st r.st := by
  unfold evStep at h
  split at h
  · exact evCode_adv ih h
  · unfold evFn at h
    split at h
    · cases h
    · split at h
      · cases h
      · split at h
        · rename_i h1
          split at h
          · rename_i h2
            have a := (ih _ _ _ h1).trans (ih _ _ _ h2)
            cases h
            exact a
          · have := at_ok h
            exact (ih _ _ _ h1).trans (ih _ _ _ this)
        · rename_i h1
          split at h
          · rename_i h2
            have a := (ih _ _ _ h1).trans (ih _ _ _ h2)
            cases h
            exact a
          · have := at_ok h
            exact (ih _ _ _ h1).trans (ih _ _ _ this)
        · rename_i h1
          split at h
          · rename_i h2
            have a := (ih _ _ _ h1).trans (ih _ _ _ h2)
            cases h
            exact a
          · have := at_ok h
            exact (ih _ _ _ h1).trans (ih _ _ _ this)
        · cases h
        · cases h
  · unfold evUnwind at h
    split at h
    · split at h
      · split at h
        · split at h
          · cases h; exact .refl _
          · cases h
        · cases h
      · split at h
        · cases h; exact .refl _
        · cases h
      · cases h
      · cases h
    · split at h
      · split at h
        · rename_i hb
          exact (Adv.putW _ _ _ (by rw [hb]; simp)).trans (ih _ _ _ h)
        · cases h
      · split at h
        · rename_i hc
          have e := callV_st (st' := _) (by rw [hc]; rfl)
          subst e
          split at h
          · rename_i h1
            exact (ih _ _ _ h1).trans (ih _ _ _ h)
          · rename_i h1
            exact (ih _ _ _ h1).trans (ih _ _ _ h)
          · cases h
          · cases h
        · cases h
end
theorem ev_adv (tb : Tab) : ∀ n, RecAdv (ev tb n)
  | 0 => fun cmd st r h => by simp [ev] at h
  | n + 1 => fun cmd st r h => evStep_adv (ev_adv tb n) h
end Go.Sy
