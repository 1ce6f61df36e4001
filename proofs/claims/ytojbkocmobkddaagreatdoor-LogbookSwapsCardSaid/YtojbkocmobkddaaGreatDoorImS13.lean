/- The ideal machine: its writers, joined. -/
import Derived.Test.YtojbkocmobkddaaGreatDoorImS12
set_option linter.all false
namespace Go.Im
section
variable {X : Cx} {m : Map} {s : A8} {w : World} {env : Env} {a : Act}
theorem DL {α : Type} {b : Bool} {x : Option α} {y : α} (h : cond b x none = some y) : b = true ∧ x = some y := by
 cases b with
 | false => simp at h
 | true => exact ⟨rfl, h⟩
theorem FQ {P : Program} (hR : Rl X m s w) {b o n len cap : Nat} {p : Place} {l : List Value} (hm : m b = some p) (hv : s.rd b o (len * n) = some l) :
 ∃ l', Bf m l l' ∧ (Builtin.firstCells n len (.slice (some ⟨p.blk, p.sh + o, none⟩) len cap)).run P w = .ok ⟨l'⟩ w ∧ (Builtin.firstCells n len (.slice (some ⟨p.blk, p.sh + o, none⟩) len cap)).run P w.drew = .ok ⟨l'⟩ w.drew := by
 obtain ⟨l', h1, h2, h3⟩ := KN hR hm hv
 have hl : l'.length = len * n := by rw [← h1.length, h2]
 exact ⟨l', h1, run_firstCells_some w n len _ _ _ l' hl h3, run_firstCells_some w.drew n len _ _ _ l' hl h3⟩
theorem NQ (hR : Rl X m s w) {t t2 ty el n by_ : Nat} (ht : X.P.underlying t = some (.slice el)) (hn : isz X.P el = some n) (hb : iby X.P el = some by_) (hby : by_ ≠ 0) {zv : Value} (hz : Gi X.P el = some zv) (hzs : zv.cells.size = n)
 {v v' x' r : Value} {news news' : List Value} {k : Nat} {s' : A8} (hv : Aj m v v') (hnw : Bf m news news') (hk : news.length = k * n) (hsrc : Src X.P el n by_ t2 x' k news' w)
 (h : Ei s el n by_ news v = some (r, s')) : ∃ v'' w', (Builtin.append_ #[t, t2] ty #[v', x']).run X.P w = .ok v'' w' ∧ Did X m s w r s' v'' w' := by
 unfold Ei at h
 split at h
 · next base len cap =>
   cases hbn : Nat.beq n 0 with
   | true => rw [hbn] at h; simp at h
   | false =>
   rw [hbn] at h
   simp only [cond_false] at h
   obtain ⟨hc, h⟩ := DL h
   have hn0 : 0 < n := by
    rcases Nat.eq_zero_or_pos n with e | e
    · subst e; simp at hbn
    · exact e
   have hkd : Nat.div news.length n = k := by rw [hk]; exact Nat.mul_div_cancel _ hn0
   rw [hkd] at hc h
   simp only [Bool.and_eq_true] at hc
   have h48 : (len + k) * by_ ≤ 140737488355328 := Aa.1 hc.1
   have h63 : len + k < 9223372036854775808 := Bh.1 hc.2
   have hzl : ∀ c, (Builtin.zeroCells zv.cells c).toList.length = c * n := by intro c; rw [Array.length_toList, size_zeroCells, hzs]
   cases hv with
   | sl0 =>
    simp only [J4] at h
    cases hb0 : Nat.beq k 0 with
    | true =>
     rw [hb0] at h
     have hk0 := beq_iff.1 hb0
     subst hk0
     have h := Option.some.inj h
     obtain ⟨rfl, rfl⟩ := Prod.mk.inj h
     have hnil : news' = [] := List.eq_nil_of_length_eq_zero (by rw [← hnw.length, hk]; simp)
     subst hnil
     exact ⟨_, _, SB ht hn hb hsrc, ⟨⟨m, hR, Step.refl _ _ _, .sl0⟩⟩⟩
    | false =>
     rw [hb0] at h
     have h := Option.some.inj h
     have hk0 : k ≠ 0 := fun e => by subst e; simp at hb0
     have hd := Ol (X := X) (el' := el) (d := w.drawn + 1) (need := k) (c := grownCap w (0 + k) 0 el) (rest := (Builtin.zeroCells zv.cells (grownCap w (0 + k) 0 el - k)).toList) hR hn hn0 (.nil) hnw (by have := grownCap_ge w (0 + k) 0 el; omega) (by simp [hk]) (hzl _)
     have hg := Ii (ty := ty) (w := w) (olds := []) (base := none) (sLen := 0) (sCap := 0) ht hn hb hz hsrc (by omega) (by simp [Builtin.firstCells]) (by omega) (by simpa using h48) hby
     simp only [Nat.zero_add] at hg hd
     rw [h] at hd
     exact ⟨_, _, hg, hd⟩
   | @slK b o _ c p hm hcU =>
    simp only [J4] at h
    rw [show Nat.blt cap UNK = true from Bh.2 hcU] at h
    simp only [cond_true] at h
    cases hb0 : Nat.ble (len + k) cap with
    | true =>
     rw [show Nat.ble (Nat.add len k) cap = true from hb0] at h
     simp only [cond_true, Ju, AX] at h
     obtain ⟨s1, h1, h⟩ := h
     have h := Option.some.inj h
     obtain ⟨rfl, rfl⟩ := Prod.mk.inj h
     obtain ⟨w', e1, e2, e3, _⟩ := VO (P := X.P) hR hm h1 hnw
     refine ⟨_, _, Ih ht hn hb hsrc (Aa.1 hb0) (w' := w') ?_, ⟨⟨m, e2, e3, .slK hm hcU⟩⟩⟩
     rw [DK, Nat.add_assoc]; exact e1
    | false =>
     rw [show Nat.ble (Nat.add len k) cap = false from hb0] at h
     simp only [cond_false, AX] at h
     obtain ⟨old, h1, h⟩ := h
     have h := Option.some.inj h
     have hlt : cap < len + k := by
      rcases Nat.lt_or_ge cap (len + k) with g | g
      · exact g
      · rw [Aa.2 g] at hb0; simp at hb0
     obtain ⟨old', e1, e2, e3⟩ := FQ (P := X.P) (n := n) (len := len) (cap := cap) hR hm h1
     have hol : old.length = len * n := by
      obtain ⟨_, _, g, _⟩ := KN hR hm h1
      exact g
     have hd := Ol (X := X) (el' := el) (d := w.drawn + 1) (need := len + k) (c := grownCap w (len + k) cap el) (rest := (Builtin.zeroCells zv.cells (grownCap w (len + k) cap el - (len + k))).toList) hR hn hn0 e1 hnw (grownCap_ge w _ _ _) (by rw [hol, hk, Nat.add_mul]) (hzl _)
     have hg := Ii (ty := ty) ht hn hb hz hsrc hlt e3 h63 h48 hby
     rw [show Dc s el (len + k) old news = (r, s') from h] at hd
     exact ⟨_, _, hg, hd⟩
   | @slU b o _ c p hm hcc hz' hnc =>
    simp only [J4] at h
    rw [show Nat.blt UNK UNK = false from rfl, show Nat.beq UNK UNE = false from rfl] at h
    simp only [cond_false] at h
    unfold MG at h
    split at h
    · next cs el0 hs =>
      obtain ⟨hbe, h⟩ := DL h
      have he := beq_iff.1 hbe
      subst he
      obtain ⟨c', el', fr, h1, hel, hsz, hlen, hcc', hfr⟩ := hR.cells hm hs
      have hpn : p.esz = n := Option.some.inj (hel.symm.trans hn)
      rw [hpn] at hcc
      cases hb0 : Nat.ble (o + (len + k) * n) cs.length with
      | true =>
       rw [show Nat.ble (Nat.add o (Nat.mul (Nat.add len k) n)) cs.length = true from hb0] at h
       simp only [cond_true, Ju, AX] at h
       obtain ⟨s1, h1, h⟩ := h
       have h := Option.some.inj h
       obtain ⟨rfl, rfl⟩ := Prod.mk.inj h
       obtain ⟨w', e1, e2, e3, _⟩ := VO (P := X.P) hR hm h1 hnw
       have hle := Aa.1 hb0
       have hroom : len + k ≤ c := by
        have : (len + k) * n ≤ c * n := by omega
        exact Nat.le_of_mul_le_mul_right this hn0
       refine ⟨_, _, Ih ht hn hb hsrc hroom (w' := w') ?_, ⟨⟨m, e2, e3, .slU hm (by rw [hpn]; exact hcc) (by rw [hpn]; exact hn0) hroom⟩⟩⟩
       rw [DK, Nat.add_assoc]; exact e1
      | false =>
       rw [show Nat.ble (Nat.add o (Nat.mul (Nat.add len k) n)) cs.length = false from hb0] at h
       simp only [cond_false] at h
       obtain ⟨hsi, h⟩ := DL h
       rw [AX] at h
       obtain ⟨old, ho, h⟩ := h
       have h := Option.some.inj h
       by_cases hroom : len + k ≤ c
       · obtain ⟨w', e1, e2⟩ := Xu (need := len + k) hR hm hs hn hn0 hpn hcc hroom ho hnw hsi (by rw [hk, Nat.add_mul])
         rw [show Dc (s.put b .dead) el0 (len + k) old news = (r, s') from h] at e2
         exact ⟨_, _, Ih ht hn hb hsrc hroom e1, e2⟩
       · have hrd : s.rd b o (len * n) = some old := by
          unfold A8.rd
          rw [hs]; exact ho
         obtain ⟨old', e1, e2, e3⟩ := FQ (P := X.P) (n := n) (len := len) (cap := c) hR hm hrd
         have hol : old.length = len * n := by
          obtain ⟨_, _, g, _⟩ := KN hR hm hrd
          exact g
         have hlt := (hR.rng b p hm).1
         have hR1 : Rl X m (s.put b .dead) w := hR.put hm hs rfl w rfl (by rw [Array.getElem?_eq_getElem hlt]) (fun _ _ => rfl) (.dead _)
         have hS1 : Step m s w m (s.put b .dead) w := Rl.I7 hm hs rfl w rfl (fun _ _ => rfl) rfl rfl rfl
         have hd := Ol (X := X) (el' := el0) (d := w.drawn + 1) (need := len + k) (c := grownCap w (len + k) c el0) (rest := (Builtin.zeroCells zv.cells (grownCap w (len + k) c el0 - (len + k))).toList) hR1 hn hn0 e1 hnw (grownCap_ge w _ _ _) (by rw [hol, hk, Nat.add_mul]) (hzl _)
         have hg := Ii (ty := ty) ht hn hb hz hsrc (by omega) e3 h63 h48 hby
         rw [show Dc (s.put b .dead) el0 (len + k) old news = (r, s') from h] at hd
         obtain ⟨m', d1, d2, d3⟩ := hd.ex
         exact ⟨_, _, hg, ⟨⟨m', d1, hS1.trans d2, d3⟩⟩⟩
    · simp at h
   | slE ad c =>
    simp only [J4] at h
    rw [show Nat.blt UNE UNK = false from rfl, show Nat.beq UNE UNE = true from Nat.beq_refl _] at h
    simp at h
 · simp at h
theorem iU {P : Program} (hR : Rl X m s w) {el n by_ t2 : Nat} {d : TypeDesc} (h2 : P.underlying t2 = some d) (hd : (∃ e, d = .slice e) ∨ d = .string) (hn0 : n ≠ 0) {x x' : Value} {news : List Value} (h : Cc s n x = some news) (hx : Aj m x x') :
 ∃ k news', Bf m news news' ∧ news.length = k * n ∧ Src P el n by_ t2 x' k news' w := by
 cases hx <;> simp only [Cc] at h <;> try (simp at h; done)
 case string t =>
  obtain ⟨hb, h⟩ := DL h
  have h1 := beq_iff.1 hb
  subst h1
  have h := (Option.some.inj h).symm
  subst h
  have hr := LH (m := m) (toL t)
  refine ⟨t.size, _, hr, by simp [DJ, KJ], .cells d h2 hd (fun w1 => by simp [Builtin.lenOf]) ?_ ?_⟩
  all_goals
   have hx : (t.data.map fun b => Value.int .u8 b.toNat) = ⟨(toL t).map fun b => Value.int .u8 b.toNat⟩ := by
    apply Array.ext'
    simp [toL]
   simp [Builtin.firstCells, hx]
 case sl0 =>
  have h := (Option.some.inj h).symm
  subst h
  exact ⟨0, [], .nil, by simp, .cells d h2 hd (fun w1 => by simp [Builtin.lenOf]) (by simp [Builtin.firstCells]) (by simp [Builtin.firstCells])⟩
 case slK b o len c p hm hc =>
  obtain ⟨l', e1, e2, e3⟩ := FQ (P := P) (n := n) (len := len) (cap := c) hR hm h
  obtain ⟨_, _, g, _⟩ := KN hR hm h
  exact ⟨len, l', e1, g, .cells d h2 hd (fun w1 => by simp [Builtin.lenOf]) e2 e3⟩
 case slU b o len c p hm _ _ _ =>
  obtain ⟨l', e1, e2, e3⟩ := FQ (P := P) (n := n) (len := len) (cap := c) hR hm h
  obtain ⟨_, _, g, _⟩ := KN hR hm h
  exact ⟨len, l', e1, g, .cells d h2 hd (fun w1 => by simp [Builtin.lenOf]) e2 e3⟩
 case slE ad c =>
  have hl0 : news = [] := by
   unfold A8.rd IL at h
   split at h
   · obtain ⟨_, rfl⟩ := JQ h; simp
   · simp at h
  subst hl0
  refine ⟨0, [], .nil, by simp, .cells d h2 hd (fun w1 => by simp [Builtin.lenOf]) ?_ ?_⟩
  all_goals simp [Builtin.firstCells, loadCells, loadCellsFrom]
theorem VP {P : Program} {t : Nat} (h : (isI (P.underlying t)).isSome = true) : ∃ k, P.underlying t = some (.int k) := by
 obtain ⟨k, hk⟩ := Option.isSome_iff_exists.1 h
 exact ⟨k, L8 hk⟩
theorem Xv {m : Map} {z : List Value} {z' : Array Value} (hz : Bf m z z'.toList) (n : Nat) : Bf m (zeros z n) (Builtin.zeroCells z' n).toList := by
 have := Oi hz n
 exact this
def WOp.calls : WOp → Bool
 | .call _ _ => true
 | .inv _ _ _ => true
 | .no _ => true
 | _ => false
set_option maxHeartbeats 2000000 in
theorem Xw {T : MT} {self : Self} {o : WOp} {op : Op} {TK : List Nat} {dst : Option Nat} {type : Nat} {pos : String} {after : Array Edge} {guard : Option (Nat × Bool)}
 (hok : okW X.P X.G TK o op = true) (hnc : o.calls = false) {Q : Value × A8 → Prop} (h : (Rh T self env s o).all Q) (hE : Bd m env a.tmps) (hR : Rl X m s w) :
 ∃ r s', Q (r, s') ∧ ∃ nx v' w', (execOp a.eval ⟨dst, op, type, pos, after, guard⟩).run X.P w = .ok nx w' ∧ (nx = .value v' ∨ (nx = .skip ∧ v' = undef)) ∧ Did X m s w r s' v' w' := by
 have hG : O6 X.G m := hR.glob
 unfold okW at hok
 split at hok
 · next n ad x t ad' x' =>
   simp only [Bool.and_eq_true, decide_eq_true_eq] at hok
   obtain ⟨⟨hn, ha⟩, hx⟩ := hok
   obtain ⟨⟨r, s'⟩, h1, hq⟩ := R.all_orBad (show (Aw 11 (ev2 env x ad (wSt s n))).all Q from h)
   obtain ⟨u, v, hu, hv, h2⟩ := EP h1
   obtain ⟨w', e1, e2⟩ := iT hR hn h2 (BQ hE hG hx hu) (BQ hE hG ha hv)
   exact ⟨r, s', hq, .skip, undef, w', by simp [execOp, e1], .inr ⟨rfl, rfl⟩, e2⟩
 · next el n by_ sl x as ts =>
   split at hok
   · next s' x' t t2 ha hts =>
     simp only [X9, Bool.and_eq_true, decide_eq_true_eq, Bool.or_eq_true] at hok
     obtain ⟨⟨⟨⟨⟨⟨⟨ht, hn⟩, hb⟩, hby⟩, hz⟩, h2⟩, hs⟩, hx⟩ := hok
     obtain ⟨⟨r, s1⟩, h1, hq⟩ := R.all_orBad (show (Aw 12 (ev2 env sl x (Df s el n by_))).all Q from h)
     obtain ⟨u, v, hu, hv, h3⟩ := EP h1
     split at hz
     · next zv hzv =>
       have hzs := of_decide_eq_true hz
       simp only [Df, AX] at h3
       obtain ⟨news, h4, h5⟩ := h3
       have hn0 : n ≠ 0 := by
        intro e; subst e
        unfold Ei at h5
        split at h5
        · simp at h5
        · simp at h5
       have h2' : ∃ d, X.P.underlying t2 = some d ∧ ((∃ e, d = .slice e) ∨ d = .string) := by
        simp only [Bool.false_eq_true, if_false, Bool.or_eq_true] at h2
        rcases h2 with h2 | h2
        · obtain ⟨e, he⟩ := Option.isSome_iff_exists.1 h2
          exact ⟨_, Cm he, .inl ⟨e, rfl⟩⟩
        · exact ⟨_, Dz h2, .inr rfl⟩
       obtain ⟨d, hd1, hd2⟩ := h2'
       obtain ⟨k, news', e1, e2, e3⟩ := iU (P := X.P) (el := el) (by_ := by_) hR hd1 hd2 hn0 h4 (BQ hE hG hx hv)
       obtain ⟨v'', w', e4, e5⟩ := NQ (ty := type) hR (Cm ht) hn hb hby hzv hzs (BQ hE hG hs hu) e1 e2 e3 h5
       refine ⟨r, s1, hq, .value v'', v'', w', ?_, .inl rfl, e5⟩
       obtain ⟨as⟩ := as
       obtain ⟨ts⟩ := ts
       simp only at ha hts
       subst ha hts
       have e4' : (Builtin.append_ ⟨[t, t2]⟩ type ⟨[a.eval s', a.eval x']⟩).run X.P w = .ok v'' w' := e4
       simp [execOp, resolve, invoke, builtin, e4']
     · simp at hz
   · simp at hok
 · next el n by_ z sl x as ts =>
   split at hok
   · next s' x' t t2 ha hts =>
     simp only [X9, Bool.and_eq_true, decide_eq_true_eq, Bool.or_eq_true] at hok
     obtain ⟨⟨⟨⟨⟨⟨⟨⟨ht, hn⟩, hb⟩, hby⟩, hz⟩, h2⟩, hzz⟩, hs⟩, hx⟩ := hok
     obtain ⟨⟨r, s1⟩, h1, hq⟩ := R.all_orBad (show (Aw 13 (ev2 env sl x (ZK s el n by_ z))).all Q from h)
     obtain ⟨u, v, hu, hv, h3⟩ := EP h1
     split at hz
     · next zv hzv =>
       have hzs := of_decide_eq_true hz
       rw [hzv] at hzz
       simp only [if_true] at h2
       obtain ⟨ki, hki⟩ := VP h2
       match v, h3, hv with
       | .int .i64 (.ofNat k), h3, hv =>
        simp only [ZK] at h3
        obtain ⟨hkb, h5⟩ := DL h3
        have hkb := Aa.1 hkb
        have hkU : k < 9223372036854775808 := by
         have h1 : k * 1 ≤ k * by_ := Nat.mul_le_mul_left _ (by omega)
         have h2 : k * by_ ≤ 140737488355328 := hkb
         omega
        have hrx := BQ hE hG hx hv
        have hxx : a.eval x' = .int .i64 (k : Int) := hrx.GK
        have hzr := Xv (Gl (m := m) hzz).2 k
        have hsrc : Src X.P el n by_ t2 (a.eval x') k (Builtin.zeroCells zv.cells k).toList w := .zeros ki zv hki hxx hkb hkU hzv hzs rfl
        have hlen : (zeros z k).length = k * n := by
         rw [zeros_length, (Gl (m := m) hzz).2.length, Array.length_toList, hzs]
        obtain ⟨v'', w', e4, e5⟩ := NQ (ty := type) hR (Cm ht) hn hb hby hzv hzs (BQ hE hG hs hu) hzr hlen hsrc h5
        refine ⟨r, s1, hq, .value v'', v'', w', ?_, .inl rfl, e5⟩
        obtain ⟨as⟩ := as
        obtain ⟨ts⟩ := ts
        simp only at ha hts
        subst ha hts
        have e4' : (Builtin.append_ ⟨[t, t2]⟩ type ⟨[a.eval s', a.eval x']⟩).run X.P w = .ok v'' w' := e4
        simp [execOp, resolve, invoke, builtin, e4']
     · simp at hz
   · simp at hok
 · next x y str =>
   simp only [Bool.and_eq_true] at hok
   obtain ⟨⟨r, s1⟩, h1, hq⟩ := R.all_orBad (show (Aw 15 (ob (ev env x) (Ti s))).all Q from h)
   rw [AX] at h1
   obtain ⟨u, hu, h2⟩ := h1
   obtain ⟨v', w', e1, e2⟩ := bT (ty := type) hR h2 (BQ hE hG hok.2 hu)
   refine ⟨r, s1, hq, .value v', v', w', ?_, .inl rfl, e2⟩
   rw [hok.1]
   simp [execOp, e1]
 · simp [WOp.calls] at hnc
 · simp [WOp.calls] at hnc
 · simp [WOp.calls] at hnc
 · simp at hok
end
end Go.Im
