/- The ideal machine: its writers, joined. -/
import Derived.Test.YtojbkocmobkddaaGreatDoorImS12
set_option linter.all false
namespace Go.Im
section
variable {X : Cx} {m : Map} {s : AA} {w : World} {env : Env} {a : Act}
theorem Dn {α : Type} {b : Bool} {x : Option α} {y : α} (h : cond b x none = some y) : b = true ∧ x = some y := by
 cases b with
 | false => simp at h
 | true => exact ⟨rfl, h⟩
theorem G7 {P : Program} (hR : Rl X m s w) {b o n len cap : Nat} {p : Place} {l : List Value} (hm : m b = some p) (hv : s.rd b o (len * n) = some l) :
 ∃ l', CJ m l l' ∧ (Builtin.firstCells n len (.slice (some ⟨p.blk, p.sh + o, none⟩) len cap)).run P w = .ok ⟨l'⟩ w ∧ (Builtin.firstCells n len (.slice (some ⟨p.blk, p.sh + o, none⟩) len cap)).run P w.drew = .ok ⟨l'⟩ w.drew := by
 obtain ⟨l', h1, h2, h3⟩ := L6 hR hm hv
 have hl : l'.length = len * n := by rw [← h1.length, h2]
 exact ⟨l', h1, run_firstCells_some w n len _ _ _ l' hl h3, run_firstCells_some w.drew n len _ _ _ l' hl h3⟩
theorem O4 (hR : Rl X m s w) {t t2 ty el n by_ : Nat} (ht : X.P.underlying t = some (.slice el)) (hn : isz X.P el = some n) (hb : iby X.P el = some by_) (hby : by_ ≠ 0) {zv : Value} (hz : Gs X.P el = some zv) (hzs : zv.cells.size = n)
 {v v' x' r : Value} {news news' : List Value} {k : Nat} {s' : AA} (hv : BH m v v') (hnw : CJ m news news') (hk : news.length = k * n) (hsrc : Src X.P el n by_ t2 x' k news' w)
 (h : Dw s el n by_ news v = some (r, s')) : ∃ v'' w', (Builtin.append_ #[t, t2] ty #[v', x']).run X.P w = .ok v'' w' ∧ Did X m s w r s' v'' w' := by
 unfold Dw at h
 split at h
 · next base len cap =>
   cases hbn : Nat.beq n 0 with
   | true => rw [hbn] at h; simp at h
   | false =>
   rw [hbn] at h
   simp only [cond_false] at h
   obtain ⟨hc, h⟩ := Dn h
   have hn0 : 0 < n := by
    rcases Nat.eq_zero_or_pos n with e | e
    · subst e; simp at hbn
    · exact e
   have hkd : Nat.div news.length n = k := by rw [hk]; exact Nat.mul_div_cancel _ hn0
   rw [hkd] at hc h
   simp only [Bool.and_eq_true] at hc
   have h48 : (len + k) * by_ ≤ 140737488355328 := Ae.1 hc.1
   have h63 : len + k < 9223372036854775808 := Bq.1 hc.2
   have hzl : ∀ c, (Builtin.zeroCells zv.cells c).toList.length = c * n := by intro c; rw [Array.length_toList, size_zeroCells, hzs]
   cases hv with
   | sl0 =>
    simp only [Hq] at h
    cases hb0 : Nat.beq k 0 with
    | true =>
     rw [hb0] at h
     have hk0 := beq_iff.1 hb0
     subst hk0
     have h := Option.some.inj h
     obtain ⟨rfl, rfl⟩ := Prod.mk.inj h
     have hnil : news' = [] := List.eq_nil_of_length_eq_zero (by rw [← hnw.length, hk]; simp)
     subst hnil
     exact ⟨_, _, U0 ht hn hb hsrc, ⟨⟨m, hR, Step.refl _ _ _, .sl0⟩⟩⟩
    | false =>
     rw [hb0] at h
     have h := Option.some.inj h
     have hk0 : k ≠ 0 := fun e => by subst e; simp at hb0
     have hd := PG (X := X) (el' := el) (d := w.drawn + 1) (need := k) (c := grownCap w (0 + k) 0 el) (rest := (Builtin.zeroCells zv.cells (grownCap w (0 + k) 0 el - k)).toList) hR hn hn0 (.nil) hnw (by have := grownCap_ge w (0 + k) 0 el; omega) (by simp [hk]) (hzl _)
     have hg := JF (ty := ty) (w := w) (olds := []) (base := none) (sLen := 0) (sCap := 0) ht hn hb hz hsrc (by omega) (by simp [Builtin.firstCells]) (by omega) (by simpa using h48) hby
     simp only [Nat.zero_add] at hg hd
     rw [h] at hd
     exact ⟨_, _, hg, hd⟩
   | @slK b o _ c p hm hcU =>
    simp only [Hq] at h
    rw [show Nat.blt cap UNK = true from Bq.2 hcU] at h
    simp only [cond_true] at h
    cases hb0 : Nat.ble (len + k) cap with
    | true =>
     rw [show Nat.ble (Nat.add len k) cap = true from hb0] at h
     simp only [cond_true, KQ, Ag] at h
     obtain ⟨s1, h1, h⟩ := h
     have h := Option.some.inj h
     obtain ⟨rfl, rfl⟩ := Prod.mk.inj h
     obtain ⟨w', e1, e2, e3, _⟩ := WT (P := X.P) hR hm h1 hnw
     refine ⟨_, _, JE ht hn hb hsrc (Ae.1 hb0) (w' := w') ?_, ⟨⟨m, e2, e3, .slK hm hcU⟩⟩⟩
     rw [Dj, Nat.add_assoc]; exact e1
    | false =>
     rw [show Nat.ble (Nat.add len k) cap = false from hb0] at h
     simp only [cond_false, Ag] at h
     obtain ⟨old, h1, h⟩ := h
     have h := Option.some.inj h
     have hlt : cap < len + k := by
      rcases Nat.lt_or_ge cap (len + k) with g | g
      · exact g
      · rw [Ae.2 g] at hb0; simp at hb0
     obtain ⟨old', e1, e2, e3⟩ := G7 (P := X.P) (n := n) (len := len) (cap := cap) hR hm h1
     have hol : old.length = len * n := by
      obtain ⟨_, _, g, _⟩ := L6 hR hm h1
      exact g
     have hd := PG (X := X) (el' := el) (d := w.drawn + 1) (need := len + k) (c := grownCap w (len + k) cap el) (rest := (Builtin.zeroCells zv.cells (grownCap w (len + k) cap el - (len + k))).toList) hR hn hn0 e1 hnw (grownCap_ge w _ _ _) (by rw [hol, hk, Nat.add_mul]) (hzl _)
     have hg := JF (ty := ty) ht hn hb hz hsrc hlt e3 h63 h48 hby
     rw [show Dt s el (len + k) old news = (r, s') from h] at hd
     exact ⟨_, _, hg, hd⟩
   | @slU b o _ c p hm hcc hz' hnc =>
    simp only [Hq] at h
    rw [show Nat.blt UNK UNK = false from rfl, show Nat.beq UNK UNE = false from rfl] at h
    simp only [cond_false] at h
    unfold ND at h
    split at h
    · next cs el0 hs =>
      obtain ⟨hbe, h⟩ := Dn h
      have he := beq_iff.1 hbe
      subst he
      obtain ⟨c', el', fr, h1, hel, hsz, hlen, hcc', hfr⟩ := hR.cells hm hs
      have hpn : p.esz = n := Option.some.inj (hel.symm.trans hn)
      rw [hpn] at hcc
      cases hb0 : Nat.ble (o + (len + k) * n) cs.length with
      | true =>
       rw [show Nat.ble (Nat.add o (Nat.mul (Nat.add len k) n)) cs.length = true from hb0] at h
       simp only [cond_true, KQ, Ag] at h
       obtain ⟨s1, h1, h⟩ := h
       have h := Option.some.inj h
       obtain ⟨rfl, rfl⟩ := Prod.mk.inj h
       obtain ⟨w', e1, e2, e3, _⟩ := WT (P := X.P) hR hm h1 hnw
       have hle := Ae.1 hb0
       have hroom : len + k ≤ c := by
        have : (len + k) * n ≤ c * n := by omega
        exact Nat.le_of_mul_le_mul_right this hn0
       refine ⟨_, _, JE ht hn hb hsrc hroom (w' := w') ?_, ⟨⟨m, e2, e3, .slU hm (by rw [hpn]; exact hcc) (by rw [hpn]; exact hn0) hroom⟩⟩⟩
       rw [Dj, Nat.add_assoc]; exact e1
      | false =>
       rw [show Nat.ble (Nat.add o (Nat.mul (Nat.add len k) n)) cs.length = false from hb0] at h
       simp only [cond_false] at h
       obtain ⟨hsi, h⟩ := Dn h
       rw [Ag] at h
       obtain ⟨old, ho, h⟩ := h
       have h := Option.some.inj h
       by_cases hroom : len + k ≤ c
       · obtain ⟨w', e1, e2⟩ := Z5 (need := len + k) hR hm hs hn hn0 hpn hcc hroom ho hnw hsi (by rw [hk, Nat.add_mul])
         rw [show Dt (s.put b .dead) el0 (len + k) old news = (r, s') from h] at e2
         exact ⟨_, _, JE ht hn hb hsrc hroom e1, e2⟩
       · have hrd : s.rd b o (len * n) = some old := by
          unfold AA.rd
          rw [hs]; exact ho
         obtain ⟨old', e1, e2, e3⟩ := G7 (P := X.P) (n := n) (len := len) (cap := c) hR hm hrd
         have hol : old.length = len * n := by
          obtain ⟨_, _, g, _⟩ := L6 hR hm hrd
          exact g
         have hlt := (hR.rng b p hm).1
         have hR1 : Rl X m (s.put b .dead) w := hR.put hm hs rfl w rfl (by rw [Array.getElem?_eq_getElem hlt]) (fun _ _ => rfl) (.dead _)
         have hS1 : Step m s w m (s.put b .dead) w := Rl.Ij hm hs rfl w rfl (fun _ _ => rfl) rfl rfl rfl
         have hd := PG (X := X) (el' := el0) (d := w.drawn + 1) (need := len + k) (c := grownCap w (len + k) c el0) (rest := (Builtin.zeroCells zv.cells (grownCap w (len + k) c el0 - (len + k))).toList) hR1 hn hn0 e1 hnw (grownCap_ge w _ _ _) (by rw [hol, hk, Nat.add_mul]) (hzl _)
         have hg := JF (ty := ty) ht hn hb hz hsrc (by omega) e3 h63 h48 hby
         rw [show Dt (s.put b .dead) el0 (len + k) old news = (r, s') from h] at hd
         obtain ⟨m', d1, d2, d3⟩ := hd.ex
         exact ⟨_, _, hg, ⟨⟨m', d1, hS1.trans d2, d3⟩⟩⟩
    · simp at h
   | slE ad c =>
    simp only [Hq] at h
    rw [show Nat.blt UNE UNK = false from rfl, show Nat.beq UNE UNE = true from Nat.beq_refl _] at h
    simp at h
 · simp at h
theorem lK {P : Program} (hR : Rl X m s w) {el n by_ t2 : Nat} {d : TypeDesc} (h2 : P.underlying t2 = some d) (hd : (∃ e, d = .slice e) ∨ d = .string) (hn0 : n ≠ 0) {x x' : Value} {news : List Value} (h : DL s n x = some news) (hx : BH m x x') :
 ∃ k news', CJ m news news' ∧ news.length = k * n ∧ Src P el n by_ t2 x' k news' w := by
 cases hx <;> simp only [DL] at h <;> try (simp at h; done)
 case string t =>
  obtain ⟨hb, h⟩ := Dn h
  have h1 := beq_iff.1 hb
  subst h1
  have h := (Option.some.inj h).symm
  subst h
  have hr := MC (m := m) (toL t)
  refine ⟨t.size, _, hr, by simp [Di, Ky], .cells d h2 hd (fun w1 => by simp [Builtin.lenOf]) ?_ ?_⟩
  all_goals
   have hx : (t.data.map fun b => Value.int .u8 b.toNat) = ⟨(toL t).map fun b => Value.int .u8 b.toNat⟩ := by
    apply Array.ext'
    simp [toL]
   simp [Builtin.firstCells, hx]
 case sl0 =>
  have h := (Option.some.inj h).symm
  subst h
  exact ⟨0, [], .nil, by simp, .cells d h2 hd (fun w1 => by simp [Builtin.lenOf]) (by simp [Builtin.firstCells]) (by simp [Builtin.firstCells])⟩
 case slK b o len c p hm hc =>
  obtain ⟨l', e1, e2, e3⟩ := G7 (P := P) (n := n) (len := len) (cap := c) hR hm h
  obtain ⟨_, _, g, _⟩ := L6 hR hm h
  exact ⟨len, l', e1, g, .cells d h2 hd (fun w1 => by simp [Builtin.lenOf]) e2 e3⟩
 case slU b o len c p hm _ _ _ =>
  obtain ⟨l', e1, e2, e3⟩ := G7 (P := P) (n := n) (len := len) (cap := c) hR hm h
  obtain ⟨_, _, g, _⟩ := L6 hR hm h
  exact ⟨len, l', e1, g, .cells d h2 hd (fun w1 => by simp [Builtin.lenOf]) e2 e3⟩
 case slE ad c =>
  have hl0 : news = [] := by
   unfold AA.rd Iy at h
   split at h
   · obtain ⟨_, rfl⟩ := Jj h; simp
   · simp at h
  subst hl0
  refine ⟨0, [], .nil, by simp, .cells d h2 hd (fun w1 => by simp [Builtin.lenOf]) ?_ ?_⟩
  all_goals simp [Builtin.firstCells, loadCells, loadCellsFrom]
theorem WU {P : Program} {t : Nat} (h : (isI (P.underlying t)).isSome = true) : ∃ k, P.underlying t = some (.int k) := by
 obtain ⟨k, hk⟩ := Option.isSome_iff_exists.1 h
 exact ⟨k, Lp hk⟩
theorem Z7 {m : Map} {z : List Value} {z' : Array Value} (hz : CJ m z z'.toList) (n : Nat) : CJ m (zeros z n) (Builtin.zeroCells z' n).toList := by
 have := PD hz n
 exact this
def WOp.calls : WOp → Bool
 | .call _ _ => true
 | .inv _ _ _ => true
 | .no _ => true
 | _ => false
set_option maxHeartbeats 2000000 in
theorem Z8 {T : MT} {self : Self} {o : WOp} {op : Op} {TK : List Nat} {dst : Option Nat} {type : Nat} {pos : String} {after : Array Edge} {guard : Option (Nat × Bool)}
 (hok : okW X.P X.G TK o op = true) (hnc : o.calls = false) {Q : Value × AA → Prop} (h : (TU T self env s o).all Q) (hE : CB m env a.tmps) (hR : Rl X m s w) :
 ∃ r s', Q (r, s') ∧ ∃ nx v' w', (execOp a.eval ⟨dst, op, type, pos, after, guard⟩).run X.P w = .ok nx w' ∧ (nx = .value v' ∨ (nx = .skip ∧ v' = undef)) ∧ Did X m s w r s' v' w' := by
 have hG : OY X.G m := hR.glob
 unfold okW at hok
 split at hok
 · next n ad x t ad' x' =>
   simp only [Bool.and_eq_true, decide_eq_true_eq] at hok
   obtain ⟨⟨hn, ha⟩, hx⟩ := hok
   obtain ⟨⟨r, s'⟩, h1, hq⟩ := R.all_orBad (show (BI 11 (ev2 env x ad (wSt s n))).all Q from h)
   obtain ⟨u, v, hu, hv, h2⟩ := Em h1
   obtain ⟨w', e1, e2⟩ := lJ hR hn h2 (Bd hE hG hx hu) (Bd hE hG ha hv)
   exact ⟨r, s', hq, .skip, undef, w', by simp [execOp, e1], .inr ⟨rfl, rfl⟩, e2⟩
 · next el n by_ sl x as ts =>
   split at hok
   · next s' x' t t2 ha hts =>
     simp only [YH, Bool.and_eq_true, decide_eq_true_eq, Bool.or_eq_true] at hok
     obtain ⟨⟨⟨⟨⟨⟨⟨ht, hn⟩, hb⟩, hby⟩, hz⟩, h2⟩, hs⟩, hx⟩ := hok
     obtain ⟨⟨r, s1⟩, h1, hq⟩ := R.all_orBad (show (BI 12 (ev2 env sl x (FC s el n by_))).all Q from h)
     obtain ⟨u, v, hu, hv, h3⟩ := Em h1
     split at hz
     · next zv hzv =>
       have hzs := of_decide_eq_true hz
       simp only [FC, Ag] at h3
       obtain ⟨news, h4, h5⟩ := h3
       have hn0 : n ≠ 0 := by
        intro e; subst e
        unfold Dw at h5
        split at h5
        · simp at h5
        · simp at h5
       have h2' : ∃ d, X.P.underlying t2 = some d ∧ ((∃ e, d = .slice e) ∨ d = .string) := by
        simp only [Bool.false_eq_true, if_false, Bool.or_eq_true] at h2
        rcases h2 with h2 | h2
        · obtain ⟨e, he⟩ := Option.isSome_iff_exists.1 h2
          exact ⟨_, DT he, .inl ⟨e, rfl⟩⟩
        · exact ⟨_, EM h2, .inr rfl⟩
       obtain ⟨d, hd1, hd2⟩ := h2'
       obtain ⟨k, news', e1, e2, e3⟩ := lK (P := X.P) (el := el) (by_ := by_) hR hd1 hd2 hn0 h4 (Bd hE hG hx hv)
       obtain ⟨v'', w', e4, e5⟩ := O4 (ty := type) hR (DT ht) hn hb hby hzv hzs (Bd hE hG hs hu) e1 e2 e3 h5
       refine ⟨r, s1, hq, .value v'', v'', w', ?_, .inl rfl, e5⟩
       obtain ⟨as⟩ := as
       obtain ⟨ts⟩ := ts
       simp only at ha hts
       subst ha hts
       have e4' : (Builtin.append_ ⟨[t, t2]⟩ type ⟨[a.eval s', a.eval x']⟩).run X.P w = .ok v'' w' := e4
       simp [execOp, resolve, invoke, builtin, e4']
     · simp at hz
   · simp at hok
 · next el n by_ z sl x as ts =>
   split at hok
   · next s' x' t t2 ha hts =>
     simp only [YH, Bool.and_eq_true, decide_eq_true_eq, Bool.or_eq_true] at hok
     obtain ⟨⟨⟨⟨⟨⟨⟨⟨ht, hn⟩, hb⟩, hby⟩, hz⟩, h2⟩, hzz⟩, hs⟩, hx⟩ := hok
     obtain ⟨⟨r, s1⟩, h1, hq⟩ := R.all_orBad (show (BI 13 (ev2 env sl x (Ut s el n by_ z))).all Q from h)
     obtain ⟨u, v, hu, hv, h3⟩ := Em h1
     split at hz
     · next zv hzv =>
       have hzs := of_decide_eq_true hz
       rw [hzv] at hzz
       simp only [if_true] at h2
       obtain ⟨ki, hki⟩ := WU h2
       match v, h3, hv with
       | .int .i64 (.ofNat k), h3, hv =>
        simp only [Ut] at h3
        obtain ⟨hkb, h5⟩ := Dn h3
        have hkb := Ae.1 hkb
        have hkU : k < 9223372036854775808 := by
         have h1 : k * 1 ≤ k * by_ := Nat.mul_le_mul_left _ (by omega)
         have h2 : k * by_ ≤ 140737488355328 := hkb
         omega
        have hrx := Bd hE hG hx hv
        have hxx : a.eval x' = .int .i64 (k : Int) := hrx.Gf
        have hzr := Z7 (Gu (m := m) hzz).2 k
        have hsrc : Src X.P el n by_ t2 (a.eval x') k (Builtin.zeroCells zv.cells k).toList w := .zeros ki zv hki hxx hkb hkU hzv hzs rfl
        have hlen : (zeros z k).length = k * n := by
         rw [zeros_length, (Gu (m := m) hzz).2.length, Array.length_toList, hzs]
        obtain ⟨v'', w', e4, e5⟩ := O4 (ty := type) hR (DT ht) hn hb hby hzv hzs (Bd hE hG hs hu) hzr hlen hsrc h5
        refine ⟨r, s1, hq, .value v'', v'', w', ?_, .inl rfl, e5⟩
        obtain ⟨as⟩ := as
        obtain ⟨ts⟩ := ts
        simp only at ha hts
        subst ha hts
        have e4' : (Builtin.append_ ⟨[t, t2]⟩ type ⟨[a.eval s', a.eval x']⟩).run X.P w = .ok v'' w' := e4
        simp [execOp, resolve, invoke, builtin, e4']
     · simp at hz
   · simp at hok
 · next x y str =>
   simp only [Bool.and_eq_true] at hok
   obtain ⟨⟨r, s1⟩, h1, hq⟩ := R.all_orBad (show (BI 15 (ob (ev env x) (Uw s))).all Q from h)
   rw [Ag] at h1
   obtain ⟨u, hu, h2⟩ := h1
   obtain ⟨v', w', e1, e2⟩ := gu (ty := type) hR h2 (Bd hE hG hok.2 hu)
   refine ⟨r, s1, hq, .value v', v', w', ?_, .inl rfl, e2⟩
   rw [hok.1]
   simp [execOp, e1]
 · simp [WOp.calls] at hnc
 · simp [WOp.calls] at hnc
 · simp [WOp.calls] at hnc
 · simp at hok
end
end Go.Im
