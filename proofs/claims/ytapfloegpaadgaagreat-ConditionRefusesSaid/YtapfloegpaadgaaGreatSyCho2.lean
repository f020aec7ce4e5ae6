/- 'x = append(x, v)' in one of two ways: the whole. -/
import Derived.Test.YtapfloegpaadgaaGreatSyCho
set_option linter.unusedVariables false
set_option linter.unusedSimpArgs false
namespace Go.Sy

section
variable {X : Nat → Prop} {L : Loc} {w : World} {h h' : Hp}
open Classical in
noncomputable def dropL (L : Loc) (h' : Hp) : Loc := fun b => if h' b = some .dead then .dead else L b
theorem HRel.drop (H : HRel X L h w) (hh : ∀ b, h' b = h b ∨ (h' b = some .dead ∧ h b ≠ none)) : HRel X (dropL L h') h' w := by
  have own : ∀ c, Owned (dropL L h') c → Owned L c := by
    rintro c ⟨b, o, cap, sz, hb⟩
    unfold dropL at hb
    split at hb
    · cases hb
    · exact ⟨b, o, cap, sz, hb⟩
  have lft : Lift X L w X (dropL L h') w := by
    refine ⟨fun b _ => ?_, fun c h1 h2 h3 => ⟨fun hh => h2 (own c hh), h3, h1, rfl⟩⟩
    unfold dropL
    split
    · exact .inr rfl
    · exact .inl rfl
  have live : ∀ b c o cap sz, dropL L h' b = .live c o cap sz → L b = .live c o cap sz := by
    intro b c o cap sz hb
    unfold dropL at hb
    split at hb
    · cases hb
    · exact hb
  refine ⟨fun b hb => ?_, fun b hb => by simp [dropL, hb], fun b x hb hx => ?_, fun b b' c o cap sz o' cap' sz' h1 h2 => H.inj _ _ _ _ _ _ _ _ _ (live _ _ _ _ _ h1) (live _ _ _ _ _ h2), fun c hc => H.lt c (own c hc), fun c hc => H.far c (own c hc), H.xlt⟩
  · have : h b = none := by
      rcases hh b with e | ⟨e, _⟩
      · rw [← e]; exact hb
      · rw [hb] at e; cases e
    simp only [dropL, hb]
    simpa using H.out b this
  · have : h b = some x := by
      rcases hh b with e | ⟨e, _⟩
      · rw [← e]; exact hb
      · rw [hb] at e; cases e; cases hx
    obtain ⟨c, o, cap, sz, h1, h2⟩ := H.blk b x this hx
    refine ⟨c, o, cap, sz, ?_, h2.lift lft rfl⟩
    have hne : h' b ≠ some .dead := by rw [hb]; intro e; cases e; cases hx
    simp only [dropL, if_neg hne]
    exact h1
theorem HRel.dropExt (H : HRel X L h w) (hh : ∀ b, h' b = h b ∨ (h' b = some .dead ∧ h b ≠ none)) : Lift X L w X (dropL L h') w ∧ Ext L w (dropL L h') w := by
  have own : ∀ c, Owned (dropL L h') c → Owned L c := by
    rintro c ⟨b, o, cap, sz, hb⟩
    unfold dropL at hb
    split at hb
    · cases hb
    · exact ⟨b, o, cap, sz, hb⟩
  have loc : ∀ b, L b ≠ .absent → dropL L h' b = L b ∨ dropL L h' b = .dead := by
    intro b _
    unfold dropL
    split
    · exact .inr rfl
    · exact .inl rfl
  exact ⟨⟨loc, fun c h1 h2 h3 => ⟨fun hh => h2 (own c hh), h3, h1, rfl⟩⟩, ⟨Nat.le_refl _, fun _ _ _ => rfl, loc, fun c hc => .inl (own c hc), rfl, rfl, rfl⟩⟩
/-- a cell that nobody looks at -/
theorem HRel.junk {b0 : Nat} {v : AV} (H : HRel X L (Hp.set h b0 (.cells [v])) w) : HRel X L (Hp.set h b0 (.cells [.junk])) w := by
  refine ⟨fun b hb => H.out b ?_, fun b hb => H.dead b ?_, fun b x hb hx => ?_, H.inj, H.lt, H.far, H.xlt⟩
  · unfold Hp.set at *
    split at hb
    · cases hb
    · rename_i e; rw [if_neg e]; exact hb
  · unfold Hp.set at *
    split at hb
    · cases hb
    · rename_i e; rw [if_neg e]; exact hb
  · by_cases e : b = b0
    · subst e
      simp only [Hp.set, if_true, Option.some.injEq] at hb
      subst hb
      obtain ⟨c, o, cap, sz, h1, arr, t, k1, k2, k3, k4⟩ := H.blk b (.cells [v]) (by simp [Hp.set]) rfl
      refine ⟨c, o, cap, sz, h1, arr, t, k1, k2, k3, ?_⟩
      refine ⟨k4.1, fun j u y hj hy => ?_⟩
      cases j with
      | zero => simp at hj; subst hj; exact .junk _
      | succ j => simp at hj
    · exact H.blk b x (by simp only [Hp.set, e, if_false] at hb ⊢; exact hb) hx
end

theorem kept_eq {st st' : St} {l : Log} (k : Keep st st' l) {b : Nat} (hb : b < st.next) (hn : b ∉ l.map (·.1)) : st'.get b = st.get b := by
  have hc : ∀ q, ¬ covered l b q := by
    rintro q ⟨e, he, h1, _⟩
    exact hn (List.mem_map.2 ⟨e, he, h1⟩)
  have := k.same b hb (hc _)
  split at this
  · rename_i cs hcs
    obtain ⟨cs', h1, h2⟩ := this
    have : cs' = cs := List.ext_getElem? fun q => h2 q (hc q)
    rw [h1, hcs, this]
  · exact this

section
variable {P : Program} {tb : Tab} {rec : Cmd → St → Ex} {X : Nat → Prop}
theorem choiceOf_inv {a b : Code} {x d e : Nat} {u v : Code} (h : choiceOf a b = some (x, d, e, u, v)) : ∃ id ops, a = .region id ops true ∧ b = .cond (.tmp d) u v ∧ choicePat ops.toList = some (x, d, e) := by
  unfold choiceOf at h
  split at h
  · rename_i id ops d' u' v'
    split at h
    · rename_i x' d'' e' hp
      rw [Bool.cond_eq_ite] at h
      split at h
      · rename_i hd
        rw [beq_dec] at hd
        simp at hd
        subst hd
        simp only [Option.some.injEq, Prod.mk.injEq] at h
        obtain ⟨rfl, rfl, rfl, rfl, rfl⟩ := h
        exact ⟨id, ops, rfl, rfl, hp⟩
      · cases h
    · cases h
  · cases h
theorem isBool_inv {e : Nat} (h : isBool tb e = true) : tb.under e = some .bool ∧ tb.size e = some 1 ∧ tb.zero e = some (.bool false) := by
  unfold isBool at h
  split at h
  · rename_i h1 h2 h3; exact ⟨h1, h2, h3⟩
  · cases h

theorem choice_ok (ih : RecOK P rec) (hT : TabOK P tb) (hF : FieldsOK tb) (hS : SpecOK P tb) (hfun : ∀ f args b s r, rec (.call f args b) s = .ok r → ∃ fn, tb.funcs.get? f = some fn ∧ fn.body.isSome = true)
    {a b : Code} {x d e : Nat} {u v : Code} (hcho : choiceOf a b = some (x, d, e, u, v)) (hbool : isBool tb e = true) {fr : Fr} {bel : Below} {st : St} {r : Res} (h : evChoice rec x d u v fr bel st = .ok r)
    {L : Loc} {w : World} {F : Frame} {k : List Item} {cs : List Frame}
    (H : HRel X L st.hp w) (ho : AllObl r.st.obl) (hf : FRel X L w fr F) (hm : F.mode = .run) (ht : F.todo = .code (.seq a b) :: k) (hc : codeOK F.tmps.size (.seq a b) = true) (hb : BelR X L w bel F.kind cs) :
    ∃ L' w' F' cs', Lands P X L w F cs r.st L' w' F' cs' ∧ FRel X L' w' r.fr F' ∧ BelR X L' w' r.bel F.kind cs' ∧ OutR X L' w' F' k r.out := by
  have hobl0 : AllObl st.obl := (evChoice_adv ih.adv h).all ho
  simp only [codeOK, Bool.and_eq_true, hcho] at hc
  obtain ⟨id, ops, rfl, rfl, hpat⟩ := choiceOf_inv hcho
  obtain ⟨hb1, hb2, hb3⟩ := isBool_inv hbool
  unfold evChoice at h
  simp only [] at h
  split at h
  · split at h
    · rename_i frA stA hA
      split at h
      · rename_i frB stB hB
        have aA := ih.adv _ _ _ hA
        have aB := ih.adv _ _ _ hB
        unfold choiceMeet at h
        split at h
        · rename_i hdA hdB hd0
          rw [Bool.cond_eq_ite] at h
          split at h
          · rename_i hsame
            cases h
            simp only [Bool.and_eq_true, beq_dec, decide_eq_true_eq] at hsame
            obtain ⟨hnext, hsame⟩ := hsame
            have hoA : AllObl stA.obl := fun p hp => ho p (List.mem_append.2 (.inl hp))
            have hoB : AllObl stB.obl := fun p hp => ho p (List.mem_append.2 (.inr hp))
            simp only [codeOK, Bool.and_eq_true] at hc
            -- to the test
            have s0 := st_seq (P := P) (cs := cs) (w := w) hm ht
            have s1 := st_draw (P := P) (F := { F with todo := .code (.region id ops true) :: .code (.cond (.tmp d) u v) :: k }) (cs := cs) (w := w) hT.mixed hm rfl
            have hsch := pat_sched hpat (w.tape w.drawn (.order F.fn id))
            simp only at s1
            generalize Region.linearise .any ops (w.tape w.drawn (.order F.fn id)) = l at s1 hsch
            obtain ⟨o0, o1, o2, o3, hl, p1, p2, p3, p4, p5, p6, p7, p8, p9, p10, p11, p12, hxd, _⟩ := pat_inv hpat
            have hev : ∃ bb st', evOps tb rec ops.toList l fr .none { st with tape := [] } = .ok ⟨.norm, (fr.put (some x) (.ptr st.next 0)).put (some d) (.bool bb), .none, st'⟩ ∧ st'.hp = Hp.set st.hp st.next (.cells [.bool bb]) ∧ st'.obl = st.obl := by
              rw [hl]
              rcases hsch with rfl | rfl
              · exact choice_ops hb1 hb2 hb3 p1 p2 p3 p4 p5 p6 p7 p8 p9 p10 p11 p12 fr .none { st with tape := [] } rfl 1 2 (.inl ⟨rfl, rfl⟩)
              · exact choice_ops hb1 hb2 hb3 p1 p2 p3 p4 p5 p6 p7 p8 p9 p10 p11 p12 fr .none { st with tape := [] } rfl 2 1 (.inr ⟨rfl, rfl⟩)
            obtain ⟨bb, st', hev, hhp, hobl⟩ := hev
            have hE0 : Ext L w L { w with drawn := w.drawn + 1 } := Ext.ofEq rfl rfl rfl rfl
            have hdd : ∀ o ∈ ops.toList, ∀ d, o.dst = some d → d < F.tmps.size := by
              intro o hoo d hdo
              have := List.all_eq_true.1 hc.1 o hoo
              rw [hdo] at this
              simpa [blt_dec] using this
            obtain ⟨L1, w1, F1, cs1, l1, hf1, hb1', o1m, o1t⟩ := evOps_ok (X := X) ih hT hF hS hfun (k := .code (.cond (.tmp d) u v) :: k) l fr .none { st with tape := [] } _ hev L { w with drawn := w.drawn + 1 } { F with todo := .inRegion ops l :: .code (.cond (.tmp d) u v) :: k } cs (H.same rfl rfl rfl rfl) (by show AllObl st'.obl; rw [hobl]; exact hobl0) ((hf.mono hE0).todo _ _) hm rfl hdd (hb.mono hE0)
            have hcv := hf1.evals (.tmp d)
            have hsl : ((fr.put (some x) (.ptr st.next 0)).put (some d) (.bool bb)).eval (.tmp d) = .bool bb := by simp [Fr.eval, Fr.slot, Fr.put, T.get?_set]
            rw [hsl] at hcv
            have s2 := st_cond (P := P) (cs := cs1) (w := w1) o1m o1t hcv.bool_inv
            have hH1 : HRel X L1 (st.new (.cells [.junk])).hp w1 := by
              have := l1.heap
              rw [show st'.hp = Hp.set st.hp st.next (.cells [.bool bb]) from hhp] at this
              rw [St.new_hp]
              exact this.junk
            have hsz1 : F1.tmps.size = F.tmps.size := l1.size
            have hkd : F1.kind = F.kind := l1.kind
            -- whichever way
            have fin : ∀ (c : Code) (frX : Fr) (stX : St), rec (.code c { fr with tmps := (fr.tmps.set x (some (.ptr st.next 0))).set d (some (.bool bb)) } .none) { st.new (.cells [.junk]) with log := [] } = .ok ⟨.norm, frX, .none, stX⟩ → AllObl stX.obl → codeOK F.tmps.size c = true → frX.defs = [] →
                (if bb = true then u else v) = c → (∀ t y, (T.meet frA.tmps frB.tmps).get? t = some y → frX.tmps.get? t = some y) →
                (∀ b, b < stA.next → ({ stA with heap := meetHeap stA.heap stB.heap ((List.range (Nat.sub stA.next (st.new (.cells [.junk])).next)).map (· + (st.new (.cells [.junk])).next)), log := stA.log ++ stB.log ++ st.log, obl := stA.obl ++ stB.obl } : St).get b = stX.get b ∨ ({ stA with heap := meetHeap stA.heap stB.heap ((List.range (Nat.sub stA.next (st.new (.cells [.junk])).next)).map (· + (st.new (.cells [.junk])).next)), log := stA.log ++ stB.log ++ st.log, obl := stA.obl ++ stB.obl } : St).get b = .dead) → stX.next = stA.next →
                ∃ L' w' F' cs', Lands P X L w F cs { stA with heap := meetHeap stA.heap stB.heap ((List.range (Nat.sub stA.next (st.new (.cells [.junk])).next)).map (· + (st.new (.cells [.junk])).next)), log := stA.log ++ stB.log ++ st.log, obl := stA.obl ++ stB.obl } L' w' F' cs' ∧ FRel X L' w' { fr with tmps := T.meet frA.tmps frB.tmps } F' ∧ BelR X L' w' .none F.kind cs' ∧ OutR X L' w' F' k .norm := by
              intro c frX stX hX hoX hcX hdX hcc hmeet hget hnx
              rw [hcc] at s2
              obtain ⟨L2, w2, F2, cs2, l2, hf2, hb2', o2m, o2t⟩ := ih.code _ _ _ _ _ hX X L1 w1 { F1 with todo := .code c :: k } k cs1 hH1 hoX (hf1.todo _ _) o1m rfl (by show codeOK F1.tmps.size c = true; rw [hsz1]; exact hcX) (by show BelR X L1 w1 .none F1.kind cs1; rw [hkd]; exact hb1')
              generalize hR : ({ stA with heap := meetHeap stA.heap stB.heap ((List.range (Nat.sub stA.next (st.new (.cells [.junk])).next)).map (· + (st.new (.cells [.junk])).next)), log := stA.log ++ stB.log ++ st.log, obl := stA.obl ++ stB.obl } : St) = R at hget ⊢
              have hRn : R.next = stA.next := by rw [← hR]
              have hh : ∀ b, R.hp b = stX.hp b ∨ (R.hp b = some .dead ∧ stX.hp b ≠ none) := by
                intro b
                simp only [St.hp, hRn, hnx]
                by_cases hlt : b < stA.next
                · rcases hget b hlt with e | e
                  · left; rw [if_pos hlt, if_pos hlt, e]
                  · right; rw [if_pos hlt, if_pos hlt, e]; exact ⟨rfl, by simp⟩
                · left; rw [if_neg hlt, if_neg hlt]
              obtain ⟨lft, hE3⟩ := l2.heap.dropExt hh
              have hE12 : Ext L w L2 w2 := (hE0.trans l1.ext).trans l2.ext
              refine ⟨dropL L2 R.hp, w2, F2, cs2, ⟨.head s0 (.head s1 (l1.steps.trans (.head s2 l2.steps))), hE12.trans hE3, l2.heap.drop hh, l2.fn.trans l1.fn, l2.kind.trans l1.kind, l2.round.trans l1.round, l2.size.trans l1.size, l1.und.trans (hkd ▸ l2.und)⟩, ⟨?_, fun t y hy => ?_, ?_, ?_⟩, ?_, o2m, o2t⟩
              · exact l2.fn.trans (l1.fn.trans hf.fn)
              · obtain ⟨z, hz, hzv⟩ := hf2.tmps t y (hmeet t y hy)
                exact ⟨z, hz, hzv.lift lft⟩
              · have := hf2.defs
                rw [hdX] at this
                show DRels X _ w2 fr.defs F2.defers
                rw [hd0]
                generalize F2.defers = ds at this
                cases this; exact .nil
              · have hr := RoundR.lift (hE12.trans hE3).lift (X := X) (r := fr.round) (F := F) hf.round
                have e2 : F2.roundOf = F.roundOf := l2.round.trans l1.round
                show RoundR _ fr.round F2
                cases hrr : fr.round with
                | none => rw [hrr] at hr; exact e2.trans hr
                | some q => rw [hrr] at hr; obtain ⟨cc, g1, g2⟩ := hr; exact ⟨cc, e2.trans g1, g2⟩
              · have e3 : ({ F1 with todo := .code c :: k } : Frame).kind = F.kind := hkd
                rw [e3] at hb2'
                exact hb2'
            have n1 : (st.new (.cells [.junk])).next = st.next + 1 := rfl
            have lowA : ∀ b, b < st.next + 1 → ({ stA with heap := meetHeap stA.heap stB.heap ((List.range (Nat.sub stA.next (st.new (.cells [.junk])).next)).map (· + (st.new (.cells [.junk])).next)), log := stA.log ++ stB.log ++ st.log, obl := stA.obl ++ stB.obl } : St).get b = stA.get b := by
              intro b hlt
              simp only [St.get]
              rw [meetHeap_get _ _ _ _ (fun hmm => ?_)]
              simp only [List.mem_map, List.mem_range] at hmm
              obtain ⟨j, _, rfl⟩ := hmm
              rw [n1] at hlt
              omega
            have high : ∀ b, st.next + 1 ≤ b → b < stA.next → b ∈ (List.range (Nat.sub stA.next (st.new (.cells [.junk])).next)).map (· + (st.new (.cells [.junk])).next) := by
              intro b h1 h2
              refine List.mem_map.2 ⟨b - (st.next + 1), List.mem_range.2 ?_, ?_⟩
              · rw [n1]; show b - (st.next + 1) < stA.next - (st.next + 1); omega
              · rw [n1]; omega
            cases bb with
            | true =>
              refine fin u frA stA hA hoA hc.2.1 hdA rfl (fun t y hy => (meet_get _ _ _ _ hy).1) (fun b hlt => ?_) rfl
              by_cases hb' : b < st.next + 1
              · exact .inl (lowA b hb')
              · rcases meetHeap_in stA.heap stB.heap b _ (high b (by omega) hlt) with ⟨g1, _⟩ | g1
                · left; simp only [St.get]; rw [g1]
                · right; simp only [St.get]; rw [g1]; cases Nat.blt b stA.next <;> rfl
            | false =>
              refine fin v frB stB hB hoB hc.2.2 hdB rfl (fun t y hy => (meet_get _ _ _ _ hy).2) (fun b hlt => ?_) hnext.symm
              by_cases hb' : b < st.next + 1
              · left
                rw [lowA b hb']
                by_cases hin : b ∈ (stA.log ++ stB.log).map (·.1)
                · have := List.all_eq_true.1 hsame b (List.mem_filter.2 ⟨hin, by rw [blt_dec, n1]; simpa using hb'⟩)
                  have := Blk.eqb_eq _ _ this
                  simp only [St.get, ← hnext, this]
                · rw [List.map_append, List.mem_append, not_or] at hin
                  have e1 := kept_eq (aA.go hoA) (b := b) hb' hin.1
                  have e2 := kept_eq (aB.go hoB) (b := b) hb' hin.2
                  rw [e1, e2]
              · rcases meetHeap_in stA.heap stB.heap b _ (high b (by omega) hlt) with ⟨g1, g2⟩ | g1
                · left
                  have := Blk.eqb_eq _ _ g2
                  simp only [St.get, ← hnext]
                  rw [g1, this]
                · right; simp only [St.get]; rw [g1]; cases Nat.blt b stA.next <;> rfl
          · cases h
        · cases h
      · cases h
      · cases h
    · cases h
    · cases h
  · cases h
end
end Go.Sy
