/- The ideal machine: regions that draw their order (4): one operation. -/
import Derived.Test.YtojbkocmobkddaaGreatDoorImS16c
namespace Go.Im
section
variable {X : Cx} {T : MT} {self : Self} {env : Env} {s : IState} {l : List (IOper × List Nat)} {rds : List (Nat × List Nat)} {rs : List Rec} {env' : Env} {s' : IState} {S : Nat → IState} {E : Nat → Env} {V : Nat → Value}
variable {F : Fence} {inR : Bool} {n : Nat} {m0 : Map} {w0 : World} {a0 : Act} {done : Nat → Prop} {J : Nat} {m : Map} {a : Act} {w : World} {i : Nat} {o : IOper × List Nat} {ops : Array Oper} {nt : Nat} {Q : Exit → Act → World → Prop} {K : Act → World → Prop}

/-- The region's own facts. -/
structure Reg (X : Cx) (nt : Nat) (ops : Array Oper) (l : List (IOper × List Nat)) (rds : List (Nat × List Nat)) : Prop where
  len : l.length = ops.size
  op : ∀ (i : Nat) (o : IOper × List Nat), l[i]? = some o → ∃ oo, ops[i]? = some oo ∧ okOper X.P X.G X.TA X.TK nt ops o.1 oo = true
  pair : ∀ i j : Nat, i < j → j < ops.size → ((ahead ops).getD j 0).testBit i = true ∨ okPair l rds i j = true
  uniq : ∀ (i j : Nat) (u v : IOper × List Nat) (d : Nat), l[i]? = some u → l[j]? = some v → u.1.dst = some d → v.1.dst = some d → i = j

theorem okPair_facts {i j : Nat} {u v : IOper × List Nat} (h : okPair l rds i j = true) (hi : l[i]? = some u) (hj : l[j]? = some v) :
    (∀ d, u.1.dst = some d → d ∉ v.2) ∧ (∀ d, v.1.dst = some d → d ∉ u.2) ∧ ¬ (isWr u.1.op = true ∧ isWr v.1.op = true) ∧ ¬ (isAl u.1.op = true ∧ isWr v.1.op = true) ∧
      (isRd u.1.op = true → isWr v.1.op = true → listed i j rds = true) ∧ (isWr u.1.op = true → isRd v.1.op = true → listed j i rds = true) := by
  unfold okPair at h
  rw [hi, hj] at h
  simp only [Bool.and_eq_true, Bool.not_eq_true', Bool.or_eq_true, Bool.and_eq_false_iff] at h
  obtain ⟨⟨⟨⟨⟨h1, h2⟩, h3⟩, h4⟩, h5⟩, h6⟩ := h
  refine ⟨fun d hd => ?_, fun d hd => ?_, fun ⟨g1, g2⟩ => ?_, fun ⟨g1, g2⟩ => ?_, fun g1 g2 => ?_, fun g1 g2 => ?_⟩
  · rw [hd] at h1; simpa [noDst] using h1
  · rw [hd] at h2; simpa [noDst] using h2
  · rcases h3 with h3 | h3 <;> simp_all
  · rcases h4 with h4 | h4 <;> simp_all
  · rcases h5 with (h5 | h5) | h5 <;> simp_all
  · rcases h6 with (h6 | h6) | h6 <;> simp_all

set_option maxHeartbeats 1000000 in
theorem draw_step (hX : Good X T) (hS : SelfOk X self) (hF : Fen F inR) (hreg : Reg X nt ops l rds) (ht : Trace T self l env s rs env' s' S E V) (hchk : chkRds rs s' l rds = true)
    (h : Inv X l S V m0 w0 a0 done J m a w) (hE : EnvRel m0 env a0.tmps) (hR0 : Rl X m0 (S 0) w0) (hnt : a0.tmps.size = nt) (hdl : ∀ i, done i → i < l.length)
    (down : ∀ k j, done j → ((ahead ops).getD j 0).testBit k = true → done k) (hi : l[i]? = some o) (hnd : ¬ done i) (hrd : ∀ k, ((ahead ops).getD i 0).testBit k = true → done k)
    (hK : ∀ J' m' a' w', Inv X l S V m0 w0 a0 (fun j => done j ∨ j = i) J' m' a' w' → K a' w') : wpOpIn F n X.P ops Q i K a w := by
  have hil : i < l.length := (List.getElem?_eq_some_iff.1 hi).1
  have hJl := h.jle
  obtain ⟨oo, hoo, hok⟩ := hreg.op i o hi
  obtain ⟨hstep, hmono, hEi, hrec⟩ := ht.step i o hi
  have hok' := hok
  simp only [okOper, Bool.and_eq_true, decide_eq_true_eq] at hok'
  obtain ⟨⟨⟨⟨hdst, hdn⟩, hg⟩, hdf⟩, hop⟩ := hok'
  -- of a pair that is not ordered
  have before_i : ∀ j u, j < i → l[j]? = some u → ¬ done j → okPair l rds j i = true := fun j u hj hu hndj => by
    rcases hreg.pair j i hj (by rw [← hreg.len]; exact hil) with g | g
    · exact absurd (hrd j g) hndj
    · exact g
  have behind_i : ∀ j u, i < j → l[j]? = some u → done j → okPair l rds i j = true := fun j u hj hu hdj => by
    rcases hreg.pair i j hj (by rw [← hreg.len]; exact hdl j hdj) with g | g
    · exact absurd (down i j hdj g) hnd
    · exact g
  have huniq : ∀ j u d, l[j]? = some u → j ≠ i → u.1.dst = some d → o.1.dst ≠ some d := fun j u d hj hne hd he => hne (hreg.uniq j i u o d hj hi hd he)
  have hlt : ∀ d, o.1.dst = some d → d < a.tmps.size := fun d hd => by
    rw [h.sz, hnt]
    rw [hdst] at hd
    rw [hd] at hdn
    simpa using hdn
  have hap : ∀ j u d, l[j]? = some u → j ≠ i → u.1.dst = some d → d ∈ o.2 → (j < i → done j) ∧ (i < j → ¬ done j) := fun j u d hj hne hd hmem => by
    refine ⟨fun hlt => ?_, fun hlt hdj => ?_⟩
    · apply Classical.byContradiction
      intro hndj
      exact (okPair_facts (before_i j u hlt hj hndj) hj hi).1 d hd hmem
    · exact (okPair_facts (behind_i j u hlt hj hdj) hi hj).2.1 d hd hmem
  have henv := h.envAt ht hE hR0 hi hnd hap
  have hglobTo : ∀ k, k ≤ l.length → GRel X.G (m.to (S k).nx) := fun k hk g hg => by
    obtain ⟨p, g1, g2⟩ := hR0.glob g hg
    exact ⟨p, Map.to_of (h.le g p g1) (Nat.lt_of_lt_of_le (hR0.rng g p g1).2 (ht.nx_mono (Nat.zero_le k) hk)), g2⟩
  have hmaxl : max i J ≤ l.length := by omega
  have idleK : ∀ v', S (i + 1) = S i → isWr o.1.op = false → VRel (m.to (S (max i J)).nx) (V i) v' → K (a.put oo.dst v') w := fun v' hSi hnw hv => by
    rw [← hdst]
    exact hK J m _ w (h.idle ht hi hnd hnw huniq hlt (hv.mono (Map.to_mono m.le_refl (ht.nx_mono (by omega) (by omega)))))
  -- operations that leave the memory alone
  have run : ∀ v' , want (Env.keep (E i) o.2) o.1.guard = some true → (execOp a.eval oo).run X.P w = .ok (.value v') w → K (a.put oo.dst v') w → wpOpIn F n X.P ops Q i K a w := fun v' hw hrun hk => by
    unfold wpOpIn
    rw [hoo]
    simp only
    rw [want_wanted hg henv hw]
    simp only [if_true]
    refine ⟨fun f _ => hF.fn f, ?_⟩
    rw [semAt_ok (P := X.P) hdf, hrun, Oper.uponIn_value]
    exact hk
  have skip : want (Env.keep (E i) o.2) o.1.guard = some false → K (a.put oo.dst undef) w → wpOpIn F n X.P ops Q i K a w := fun hw hk => by
    unfold wpOpIn
    rw [hoo]
    simp only
    rw [want_wanted hg henv hw]
    simp only [Bool.false_eq_true, if_false]
    exact ⟨fun f _ => hF.fn f, hk⟩
  cases hopk : o.1.op with
  | w io =>
    have hw : isWr o.1.op = true := by rw [hopk]; rfl
    have hJi : J ≤ i := by
      rcases Nat.lt_or_ge i J with g | g
      · exact absurd ((h.wr i o hi hw).2 g) hnd
      · exact g
    have hno : ∀ k u, J ≤ k → k < i → l[k]? = some u → isWr u.1.op = false := fun k u hJk hki hu => by
      cases hwu : isWr u.1.op with
      | false => rfl
      | true =>
        have hndk : ¬ done k := fun hd => by have := (h.wr k u hu hwu).1 hd; omega
        exact absurd ⟨hwu, hw⟩ (okPair_facts (before_i k u hki hu hndk) hu hi).2.2.1
    have hRi := h.at ht hdl hJi (Nat.le_of_lt hil) hno hR0
    rw [Nat.max_eq_left hJi] at henv
    refine sim_oper (env := Env.keep (E i) o.2) (s := S i) (m := m.to (S i).nx) hX hS hF hoo hok (Qs := fun r => r = (V i, S (i + 1))) (by rw [hstep]; exact rfl) henv hRi ?_
    intro v s1 v' w' hq hd
    simp only [Prod.mk.injEq] at hq
    obtain ⟨rfl, rfl⟩ := hq
    obtain ⟨m', hI⟩ := h.write ht hi hnd hw hJi hno huniq hlt hd
    rw [← hdst]
    exact hK _ _ _ _ hI
  | p io =>
    have hnw : isWr o.1.op = false := by rw [hopk]; rfl
    rcases stepO_cases hstep with ⟨h1, h2, h3⟩ | ⟨h1, h2⟩
    · exact skip h1 (idleK _ h3 hnw (by rw [h2]; exact undef_rel _))
    · rw [hopk] at h2
      obtain ⟨g1, g2⟩ := stepOp_p h2
      have hop2 : okP X.P X.G X.TA io oo.op = true := by rw [hopk] at hop; exact hop
      obtain ⟨od, oop, oty, opos, oaf, ogd⟩ := oo
      obtain ⟨v', e1, e2⟩ := sim_pure (dst := od) (type := oty) (pos := opos) (after := oaf) (guard := ogd) (X := X) hX.ta hX.mt hop2 g1 henv (hglobTo _ hmaxl) w
      exact run v' h1 e1 (idleK v' g2 hnw e2)
  | a io =>
    have hnw : isWr o.1.op = false := by rw [hopk]; rfl
    rcases stepO_cases hstep with ⟨h1, h2, h3⟩ | ⟨h1, h2⟩
    · exact skip h1 (idleK _ h3 hnw (by rw [h2]; exact undef_rel _))
    · rw [hopk] at h2
      obtain ⟨ob, f, g1, g2, g3⟩ := stepOp_a h2
      have hJi : J ≤ i := by
        rcases h.jl with e | ⟨u, hu, hwu⟩
        · omega
        · rcases Nat.lt_or_ge i J with g | g
          · have hne : i ≠ J - 1 := fun e => by
              rw [← e, hi] at hu
              obtain rfl := Option.some.inj hu
              rw [hnw] at hwu; cases hwu
            have hdj : done (J - 1) := (h.wr (J - 1) u hu hwu).2 (by omega)
            exact absurd ⟨by rw [hopk]; rfl, hwu⟩ (okPair_facts (behind_i (J - 1) u (by omega) hu hdj) hi hu).2.2.2.1
          · exact g
      have hop2 : okA X.P X.G io oo.op = true := by rw [hopk] at hop; exact hop
      rw [Nat.max_eq_left hJi] at henv
      have hRv : Rl X (m.to (S i).nx) ⟨.e, (S i).nx⟩ w := ⟨fun b p ob hb ho => by simp [IState.get] at ho, fun b p hb => ⟨h.rng b p (Map.to_some hb).1, (Map.to_some hb).2⟩, fun b b' p p' ob ob' _ _ ho => by simp [IState.get] at ho, hglobTo i (Nat.le_of_lt hil), h.fixTo ht hR0 i⟩
      have hput := hdst
      obtain ⟨od, oop, oty, opos, oaf, ogd⟩ := oo
      obtain ⟨v', w', e1, e2⟩ := sim_alloc (dst := od) (type := oty) (pos := opos) (after := oaf) (guard := ogd) hop2 g1 henv hRv
      obtain ⟨m', hI⟩ := h.alloc ht hi hnd hnw hJi huniq hlt g3 g2 e2
      unfold wpOpIn
      rw [hoo]
      simp only
      rw [want_wanted hg henv h1]
      simp only [if_true]
      refine ⟨fun f _ => hF.fn f, ?_⟩
      rw [semAt_ok (P := X.P) hdf, e1, Oper.uponIn_value]
      simp only at hput
      simp only [← hput]
      exact hK _ _ _ _ hI
  | r io =>
    have hnw : isWr o.1.op = false := by rw [hopk]; rfl
    have hrdk : isRd o.1.op = true := by rw [hopk]; rfl
    rcases stepO_cases hstep with ⟨h1, h2, h3⟩ | ⟨h1, h2⟩
    · exact skip h1 (idleK _ h3 hnw (by rw [h2]; exact undef_rel _))
    · rw [hopk] at h2
      obtain ⟨g1, g2⟩ := stepOp_r h2
      have hop2 : okR X.P X.G X.TK io oo.op = true := by rw [hopk] at hop; exact hop
      have fin : ∀ s2, iRead (Env.keep (E i) o.2) s2 io = some (V i) → Rl X (m.to (S (max i J)).nx) s2 w → wpOpIn F n X.P ops Q i K a w := fun s2 hr hR => by
        obtain ⟨od, oop, oty, opos, oaf, ogd⟩ := oo
        obtain ⟨v', e1, e2⟩ := sim_read (TK := X.TK) (dst := od) (type := oty) (pos := opos) (after := oaf) (guard := ogd) hop2 hr henv hR
        exact run v' h1 e1 (idleK v' g2 hnw e2)
      rcases Nat.lt_or_ge i J with hiJ | hJi
      · -- the last writer that is done is behind it in the text
        rcases h.jl with e | ⟨u, hu, hwu⟩
        · omega
        · have hne : i ≠ J - 1 := fun e => by
            rw [← e, hi] at hu
            obtain rfl := Option.some.inj hu
            rw [hnw] at hwu; cases hwu
          have hdj : done (J - 1) := (h.wr (J - 1) u hu hwu).2 (by omega)
          have hls := (okPair_facts (behind_i (J - 1) u (by omega) hu hdj) hi hu).2.2.2.2.1 hrdk hwu
          have hc := (chk_listed hchk hls hrec hi h1).2
          rw [show J - 1 + 1 = J by omega, ht.stateAt h.jle, hopk] at hc
          have hRJ := h.at ht hdl (Nat.le_refl J) h.jle (fun k u h1 h2 => by omega) hR0
          refine fin (S J) (readOp_some hc).1 ?_
          rw [Nat.max_eq_right (Nat.le_of_lt hiJ)]
          exact hRJ
      · by_cases hex : ∃ k u, J ≤ k ∧ k < i ∧ l[k]? = some u ∧ isWr u.1.op = true
        · -- a writer ahead of it in the text is not done yet: the first of these
          obtain ⟨k0, hk0⟩ := hex
          have hleast := exists_least (p := fun k => ∃ u, J ≤ k ∧ k < i ∧ l[k]? = some u ∧ isWr u.1.op = true) k0 ⟨k0, Nat.le_refl _, hk0⟩
          obtain ⟨k, ⟨u, hJk, hki, hu, hwu⟩, hmin⟩ := hleast
          have hndk : ¬ done k := fun hd => by have := (h.wr k u hu hwu).1 hd; omega
          have hls := (okPair_facts (before_i k u hki hu hndk) hu hi).2.2.2.2.2 hwu hrdk
          have hc := (chk_listed hchk hls hrec hi h1).1
          rw [ht.stateAt (by omega), hopk] at hc
          obtain ⟨hc1, hc2⟩ := readOp_some hc
          have hRk := h.at ht hdl hJk (by omega) (fun k' u' g1 g2 g3 => by
            cases hw' : isWr u'.1.op with
            | false => rfl
            | true => have := hmin k' ⟨u', g1, by omega, g3, hw'⟩; omega) hR0
          have hnk := ht.nx_mono (Nat.le_of_lt hki) (Nat.le_of_lt hil)
          rw [Nat.max_eq_left hJi] at fin
          -- the one block alone
          have hone : ∃ s2 : IState, (∀ v b, ev (Env.keep (E i) o.2) (rdOpnd io) = some v → rdBase v = some b → s2.get b = (S k).get b) ∧ (∀ b ob, s2.get b = some ob → b < (S k).nx ∧ (S k).get b = some ob) ∧ s2.nx = (S i).nx ∧ (∀ b b' ob ob', s2.get b = some ob → s2.get b' = some ob' → b = b') := by
            cases hv : ev (Env.keep (E i) o.2) (rdOpnd io) with
            | none => exact ⟨⟨.e, (S i).nx⟩, fun v b hv' => (by cases hv'), fun b ob hb => (by simp [IState.get] at hb), rfl, fun b b' ob ob' hb => (by simp [IState.get] at hb)⟩
            | some v =>
              cases hb : rdBase v with
              | none => exact ⟨⟨.e, (S i).nx⟩, fun v' b hv' hb' => (by obtain rfl := Option.some.inj hv'; rw [hb] at hb'; cases hb'), fun b ob hb => (by simp [IState.get] at hb), rfl, fun b b' ob ob' hb => (by simp [IState.get] at hb)⟩
              | some b0 =>
                have hb0 := hc2 v b0 hv hb
                cases hget : (S k).get b0 with
                | none => exact ⟨⟨.e, (S i).nx⟩, fun v' b hv' hb' => (by obtain rfl := Option.some.inj hv'; rw [hb] at hb'; obtain rfl := Option.some.inj hb'; rw [hget]; rfl), fun b ob hb => (by simp [IState.get] at hb), rfl, fun b b' ob ob' hb => (by simp [IState.get] at hb)⟩
                | some ob0 =>
                  have hg2 : ∀ b, (⟨Tr.set .e b0 ob0, (S i).nx⟩ : IState).get b = if b = b0 then some ob0 else none := fun b => by
                    show (Tr.set .e b0 ob0).get b = _
                    rw [Tr.get_set]; rfl
                  refine ⟨⟨Tr.set .e b0 ob0, (S i).nx⟩, fun v' b hv' hb' => ?_, fun b ob hb' => ?_, rfl, fun b b' ob ob' hb1 hb2 => ?_⟩
                  · obtain rfl := Option.some.inj hv'
                    rw [hb] at hb'
                    obtain rfl := Option.some.inj hb'
                    rw [hg2, if_pos rfl, hget]
                  · rw [hg2] at hb'
                    split at hb'
                    · next e => subst e; exact ⟨hb0, by rw [hget]; exact hb'⟩
                    · cases hb'
                  · rw [hg2] at hb1 hb2
                    split at hb1
                    · split at hb2
                      · omega
                      · cases hb2
                    · cases hb1
          obtain ⟨s2, hs1, hs2, hs3, hs4⟩ := hone
          refine fin s2 ((iRead_loc hs1).trans hc1) ⟨fun b p ob hb ho => ?_, fun b p hb => ⟨h.rng b p (Map.to_some hb).1, by rw [hs3]; exact (Map.to_some hb).2⟩, fun b b' p p' ob ob' _ _ ho ho' _ _ _ => hs4 b b' ob ob' ho ho', hglobTo i (Nat.le_of_lt hil), h.fixTo ht hR0 _⟩
          obtain ⟨hbk, hgk⟩ := hs2 b ob ho
          obtain ⟨o2, e1, e2⟩ := hRk.obj b p ob (Map.to_of (Map.to_some hb).1 hbk) hgk
          exact ⟨o2, e1, e2.mono (Map.to_mono m.le_refl hnk)⟩
        · have hRi := h.at ht hdl hJi (Nat.le_of_lt hil) (fun k u g1 g2 g3 => by
            cases hw' : isWr u.1.op with
            | false => rfl
            | true => exact absurd ⟨k, u, g1, g2, g3, hw'⟩ hex) hR0
          refine fin (S i) g1 ?_
          rw [Nat.max_eq_left hJi]
          exact hRi
end
end Go.Im
