/- What a book returns: its compasses, its lines; lists are compared (program). -/
import Derived.Test.YtojbkocmobkddaaGreatDoorImQG
import Derived.Test.YtojbkocmobkddaaGreatDoorImEC
set_option linter.all false
set_option maxRecDepth 100000
set_option maxHeartbeats 4000000
namespace Go.Im
structure RdS (s : AA) (v : Value) (L : List (List UInt8)) : Prop where
 len : CZ v = some (.int .i64 (L.length : Int))
 at_ : ∀ (i : Nat) (x : List UInt8), L[i]? = some x → ∃ lb, lb < s.nx ∧ BR 1 v (.int .i64 (i : Int)) = some (.pointer (some ⟨lb, i, none⟩)) ∧ s.rd1 lb i = some (strOf x)
theorem RdS.ext {s s' : AA} {v : Value} {L : List (List UInt8)} (h : RdS s v L) (e : Ext s s') : RdS s' v L := ⟨h.len, fun i x hx => by
 obtain ⟨lb, h1, h2, h3⟩ := h.at_ i x hx
 refine ⟨lb, Nat.lt_of_lt_of_le h1 e.nx, h2, ?_⟩
 have := e.get lb h1
 unfold AA.rd1 at h3 ⊢
 rw [this]; exact h3⟩
theorem BX.rdS {s : AA} {base : Option Nat} {v : Value} {L : List (List UInt8)} (h : BX s base 9 1 (L.map strOf) L.length v) : RdS s v L := ⟨h.len_eq, fun i x hx => by
 obtain ⟨lb, e1, ia⟩ := h.iad i (BK hx) .i64
 obtain ⟨lb', e2, g⟩ := h.get (i := i) (x := strOf x) (by rw [List.getElem?_map, hx]; rfl)
 obtain rfl : lb = lb' := Option.some.inj (e1.symm.trans e2)
 rw [Nat.mul_one] at ia
 exact ⟨lb, h.lt e1, ia, g⟩⟩
theorem RdS.nil (s : AA) : RdS s (.slice none 0 0) [] := ⟨rfl, fun i x hx => by simp at hx⟩
theorem Xf (L : List (List UInt8)) : Bh (L.map strOf) = true := Gi (by
 intro v hv
 obtain ⟨x, _, rfl⟩ := List.mem_map.1 hv
 rfl)
theorem o9 {s : AA} {L : List (List UInt8)} (hl : L.length < 1000000) : ∃ v' s', Dw (s.new (.cells [] 9 true)) 9 1 16 (L.map strOf) (Bo 0 0 s.nx) = some (v', s') ∧ Ext s s' ∧ RdS s' v' L ∧ (∀ i, i < s.nx → s'.get i = s.get i) := by
 obtain ⟨s1, hs1⟩ : ∃ s1, s1 = s.new (.cells [] 9 true) := ⟨_, rfl⟩
 have n1 : s1.nx = s.nx + 1 := by rw [hs1]; rfl
 have x1 : Ext s s1 := by rw [hs1]; exact (Ext.refl s).new _
 have g1 : s1.get s.nx = some (.cells [] 9 true) := by rw [hs1, AA.Ak, if_pos rfl]
 rw [← hs1]
 have e0 : Dw s1 9 1 16 (L.map strOf) (Bo 0 0 s.nx) = Hq s1 9 1 0 0 L.length L.length (L.map strOf) (some ⟨s.nx, 0, none⟩) := by
  show cond (Nat.beq 1 0) none (cond (Nat.ble (Nat.mul (Nat.add 0 (Nat.div (L.map strOf).length 1)) 16) 140737488355328 && Nat.blt (Nat.add 0 (Nat.div (L.map strOf).length 1)) UNK) (Hq s1 9 1 0 0 (Nat.div (L.map strOf).length 1) (Nat.add 0 (Nat.div (L.map strOf).length 1)) (L.map strOf) (some ⟨s.nx, 0, none⟩)) none) = _
  have d : Nat.div (L.map strOf).length 1 = L.length := by rw [List.length_map]; exact Nat.div_one _
  have d0 : Nat.add 0 L.length = L.length := Nat.zero_add _
  have a1 : Nat.ble (Nat.mul L.length 16) 140737488355328 = true := Ae.2 (by show L.length * 16 ≤ _; omega)
  have a2 : Nat.blt L.length UNK = true := Bq.2 (by show L.length < 9223372036854775808; omega)
  rw [d, d0, a1, a2]; rfl
 rw [e0]
 cases L with
 | nil =>
  have w := Ye (s := s1) (b := s.nx) (c := []) (el := 9) g1 (o := 0) (vs := []) rfl (by decide)
  refine ⟨.slice (some ⟨s.nx, 0, none⟩) 0 0, s1.put s.nx (.cells [] 9 true), ?_, ⟨by show s.nx ≤ s1.nx; omega, fun i hi => by rw [AA.get_put, if_neg (by omega)]; exact x1.get i hi⟩, ⟨rfl, fun i x hx => by simp at hx⟩, fun i hi => by rw [AA.get_put, if_neg (by omega)]; exact x1.get i hi⟩
  show ob (s1.wr s.nx 0 []) (fun s' => some (Value.slice (some ⟨s.nx, 0, none⟩) 0 0, s')) = _
  rw [w]; rfl
 | cons y l =>
  have hrd : s1.rd s.nx 0 0 = some [] := by rw [ED g1 (by decide)]; rfl
  have e1 : Hq s1 9 1 0 0 (y :: l).length (y :: l).length ((y :: l).map strOf) (some ⟨s.nx, 0, none⟩) = ob (s1.rd s.nx 0 0) fun old => some (Dt s1 9 (y :: l).length old ((y :: l).map strOf)) := by
   show cond (Nat.blt 0 UNK) (cond (Nat.ble (l.length + 1) 0) (KQ s1 ⟨s.nx, 0, none⟩ 1 0 0 (l.length + 1) ((y :: l).map strOf)) (ob (s1.rd s.nx 0 (Nat.mul 0 1)) fun old => some (Dt s1 9 (l.length + 1) old ((y :: l).map strOf)))) (cond (Nat.beq 0 UNE) none (ND s1 ⟨s.nx, 0, none⟩ 9 1 0 (l.length + 1) ((y :: l).map strOf) (s1.get s.nx))) = _
   have a1 : Nat.blt 0 UNK = true := Bq.2 (by decide)
   have a2 : Nat.ble (l.length + 1) 0 = false := rfl
   rw [a1, a2]; rfl
  rw [e1, hrd]
  have x2 : Ext s1 (s1.new (.cells ((y :: l).map strOf) 9 true)) := (Ext.refl s1).new _
  refine ⟨_, _, rfl, x1.trans x2, BX.rdS (base := some s1.nx) ⟨rfl, by simp, (y :: l).map strOf, by rw [AA.Ak, if_pos rfl]; rfl, ?_, by simp⟩, fun i hi => (x1.trans x2).get i hi⟩
  rw [List.take_of_length_le (by simp)]
theorem k72 (n : Nat) (hn : 1 ≤ n) {s : AA} {base : Option Nat} {v : Value} {L : List (List UInt8)} (h : BX s base 9 1 (L.map strOf) L.length v) (hl : L.length < 1000000) : ∃ v' s', AU AL Aj n (.fn 72) [v] s = .ok (v', s') ∧ Ext s s' ∧ RdS s' v' L := by
 obtain ⟨m, rfl, _⟩ := Ac hn
 cases base with
 | none =>
  obtain ⟨rfl, h2, h3⟩ := h
  obtain rfl : L = [] := List.eq_nil_of_length_eq_zero h2
  refine ⟨.slice none 0 0, s, ?_, .refl s, .nil s⟩
  rw [Ap 72 c72 rfl, jc]
  rfl
 | some b =>
  obtain ⟨rfl, hb, full, g, ht, hlen⟩ := h
  obtain ⟨v', s', e, x, r, _⟩ := o9 (s := s) hl
  refine ⟨v', s', ?_, x, r⟩
  have e1 : GY .s false (.slice (some ⟨b, 0, none⟩) L.length UNK) (.slice none 0 0) = some (.bool false) := rfl
  have e2 : ob (fill (zeros [.string ⟨#[]⟩] 0) []) (fun c => some (CX.cells c 9 true, Bo 0 0)) = some (.cells [] 9 true, Bo 0 0) := rfl
  have x1 : Ext s (s.new (.cells [] 9 true)) := (Ext.refl s).new _
  have e3 : FC (s.new (.cells [] 9 true)) 9 1 16 (Bo 0 0 s.nx) (.slice (some ⟨b, 0, none⟩) L.length UNK) = some (v', s') := by
   show ob ((s.new (.cells [] 9 true)).rd b 0 (Nat.mul L.length 1)) _ = _
   have : Nat.mul L.length 1 = L.length := Nat.mul_one _
   rw [this, ED ((x1.get b hb).trans g) (by omega), List.drop_zero, ← Nat.mul_one L.length, ht]
   exact e
  rw [Ap 72 c72 rfl, jc]
  simp only [e1, AY, Aq, bind_ok, Af, cond_false, Zo B72 rfl, e2, e3, BF]
theorem k43_L2 (self : Self) (N : Nat) {s : AA} {v0 v1 : Value} {L : List (List UInt8)} (h0 : RdS s v0 L) (h1 : RdS s v1 L) (hl : L.length < 1000000) : ∀ (d i f : Nat), i + d = L.length → d < f → Pv B43 self N f v0 v1 (.int .i64 (i : Int)) s = .ok (.bool true, s) := by
 intro d
 induction d with
 | zero =>
  intro i f hi hf
  obtain ⟨f, rfl, _⟩ := Ac hf
  obtain rfl : i = L.length := by omega
  have : ¬ (L.length : Int) < (L.length : Int) := by omega
  rw [SG B43 rfl]
  simp only [h0.len, AY, Aq, bind_ok, Dk, decide_eq_false this, Af, cond_false]
 | succ d ih =>
  intro i f hi hf
  obtain ⟨f, rfl, _⟩ := Ac hf
  have hil : i < L.length := by omega
  obtain ⟨y, hy⟩ := Bv hil
  have hlt : (i : Int) < (L.length : Int) := by omega
  have hw : Az .i64 ((i : Int) + 1) = ((i + 1 : Nat) : Int) := by rw [wrap64 (by omega)]; omega
  obtain ⟨a, _, ia, ra⟩ := h0.at_ i y hy
  obtain ⟨b, _, ib, rb⟩ := h1.at_ i y hy
  have e := ih (i + 1) f (by omega) (by omega)
  have q : BG .neq (strOf y) (strOf y) = some (.bool false) := by
   have : BG .neq (strOf y) (strOf y) = some (.bool (!decide (y = y))) := by unfold strOf; rw [Jq]; rfl
   rw [this]; simp
  rw [SG B43 rfl]
  simp only [h0.len, AY, Aq, bind_ok, Dk, decide_eq_true hlt, Af, cond_true, cond_false, Zd B43 rfl, CQ, DJ, ia, ib, CO, ra, rb, q, Eb, hw, e]
theorem k43 (n : Nat) {s : AA} {v0 v1 : Value} {L : List (List UInt8)} (hn : L.length + 3 ≤ n) (h0 : RdS s v0 L) (h1 : RdS s v1 L) (hl : L.length < 1000000) : AU AL Aj n (.fn 43) [v0, v1] s = .ok (.bool true, s) := by
 obtain ⟨m, rfl, _⟩ := Ac (show 1 ≤ n by omega)
 have e := k43_L2 (AU AL Aj m) m h0 h1 hl L.length 0 m (by omega) (by omega)
 have e : Pv B43 (AU AL Aj m) m m v0 v1 (.int .i64 0) s = .ok (.bool true, s) := e
 rw [Ap 43 c43 rfl, f43_eq]
 simp only [h0.len, h1.len, AY, Aq, bind_ok, DF, decide_true, Bool.not_true, Af, cond_false, Zc B43 rfl, e]
section
variable {s : AA} {b o : Nat} {H : Hist} {F : Nat → Prop} {tag : Nat → Nat} {cb pb lb eb : Option Nat} {E : List Nat} {lv ev : Value}
def AZ (H : Hist) : List (List UInt8) := H.map (·.1)
theorem CV.lines (h : CV s b H F tag o cb pb lb eb E lv ev) : BX s lb 9 1 ((AZ H).map strOf) (AZ H).length lv := by
 have := h.la
 unfold AZ
 rw [List.map_map, List.length_map]; exact this
theorem k41 (n : Nat) (hn : 3 ≤ n) (h : CV s b H F tag o cb pb lb eb E lv ev) : ∃ v' s', AU AL Aj n (.fn 41) [.pointer (some ⟨b, 0, none⟩)] s = .ok (v', s') ∧ Ext s s' ∧ RdS s' v' (AZ H) := by
 obtain ⟨m, rfl, _⟩ := Ac (show 1 ≤ n by omega)
 have d51 := k51 m (by omega) h
 have r1 : s.rd1 b 1 = some lv := by rw [Ai h.hb]; rfl
 have hl : (AZ H).length < 1000000 := by have := h.len; unfold AZ; rw [List.length_map]; omega
 obtain ⟨v', s', d72, x, r⟩ := k72 m (by omega) h.lines hl
 refine ⟨v', s', ?_, x, r⟩
 rw [Ap 41 c41 rfl, f41_eq]
 simp only [d51, bind_ok, Af, cond_false, Za B41 rfl, Es, AY, Aq, DN, Nat.zero_add, CO, r1, d72]
theorem k33_L2 (self : Self) (N : Nat) (hO : Ah s o cb pb (run H)) (hcl : (run H).comps.length ≤ 8) {cv : Value} (hC : BX s cb 120 21 ((run H).comps.flatMap BQ) (run H).comps.length cv) : ∀ (d i f : Nat) (t : AA) (base : Option Nat) (v3 : Value), i + d = (run H).comps.length → d < f → Ext s t →
 BX t base 9 1 (((nms (run H).comps).take i).map strOf) i v3 → (∀ b, base = some b → s.nx ≤ b) →
 ∃ v' s', Pq B33 self N f v3 cv (.int .i64 ((run H).comps.length : Int)) (.int .i64 (i : Int)) t = .ok (v', s') ∧ Ext s s' ∧ RdS s' v' (nms (run H).comps) := by
 have nl : (nms (run H).comps).length = (run H).comps.length := by unfold nms; rw [List.length_map]
 intro d
 induction d with
 | zero =>
  intro i f t base v3 hi hf x hA hb
  obtain ⟨f, rfl, _⟩ := Ac hf
  obtain rfl : i = (run H).comps.length := by omega
  have : ¬ ((run H).comps.length : Int) < ((run H).comps.length : Int) := by omega
  refine ⟨v3, t, ?_, x, ?_⟩
  · rw [SE B33 rfl]
    simp only [BP, decide_eq_false this, cond_false]
  · rw [← nl, List.take_length] at hA
    exact hA.rdS
 | succ d ih =>
  intro i f t base v3 hi hf x hA hb
  obtain ⟨f, rfl, _⟩ := Ac hf
  have hil : i < (run H).comps.length := by omega
  obtain ⟨c, hc⟩ := Bv hil
  have hok := hO.ok c (List.mem_of_getElem? hc)
  have hlt : (i : Int) < ((run H).comps.length : Int) := by omega
  have hw : Az .i64 ((i : Int) + 1) = ((i + 1 : Nat) : Int) := by rw [wrap64 (by omega)]; omega
  have hC2 := hC.frame x.nx fun b e => x.get b (hC.lt e)
  obtain ⟨b, rfl, ia⟩ := hC2.iad i hil .i64
  have hrd : DY t 21 (.pointer (some ⟨b, i * 21, none⟩)) = some (.agg ⟨BQ c⟩) := Eh (by rw [hC2.rd (by have : (i + 1) * 21 ≤ (run H).comps.length * 21 := Nat.mul_le_mul_right _ hil; omega), ER BQ 21 _ i c (fun a ha => D8 (hO.ok a ha)) hc])
  obtain ⟨s3, hs3⟩ : ∃ s3, s3 = t.new (.cells zero21 120 true) := ⟨_, rfl⟩
  have x3 : Ext t s3 := by rw [hs3]; exact (Ext.refl t).new _
  have n3 : s3.nx = t.nx + 1 := by rw [hs3]; rfl
  obtain ⟨s4, w4', q4, n4, g4⟩ := w21g (s := s3) (q := t.nx) (c := zero21) (by rw [hs3, AA.Ak, if_pos rfl]) rfl (vs := BQ c) (D8 hok) (E9 c)
  have x4 : Ext t s4 := ⟨by omega, fun j hj => by rw [g4 j (by omega)]; exact x3.get j hj⟩
  have r4 : s4.rd1 t.nx 0 = some (strOf c.name) := by rw [Ai q4]; rfl
  have hA4 := hA.frame x4.nx fun b e => x4.get b (hA.lt e)
  obtain ⟨v', s5, b5, w5, hA5, hb5, x5, n5, _, _⟩ := MZ (by_ := 16) (news := [strOf c.name]) (x.trans x4) hA4 hb (by decide) (by omega) (by show _ < 9223372036854775808; omega) rfl rfl
  have et : ((nms (run H).comps).take i).map strOf ++ [strOf c.name] = ((nms (run H).comps).take (i + 1)).map strOf := by
   rw [List.take_add_one, List.map_append]
   congr 1
   have : (nms (run H).comps)[i]? = some c.name := by unfold nms; rw [List.getElem?_map, hc]; rfl
   rw [this]; rfl
  rw [et] at hA5
  obtain ⟨v'', s', dd, r⟩ := ih (i + 1) f s5 b5 v' (by omega) (by omega) x5 hA5 hb5
  refine ⟨v'', s', ?_, r⟩
  have es3 : t.new (.cells [.string ⟨#[]⟩, .int .i64 0, .int .i64 0, .int .i64 0, .int .i64 0, .int .i64 0, .int .i64 0, .int .i64 0, .int .i64 0, .int .i64 0, .int .i64 0, .int .i64 0, .int .i64 0, .bool false, .bool false, .bool false, .bool false, .bool false, .bool false, .bool false, .bool false] 120 true) = s3 := hs3.symm
  have ep : ptrTo t.nx = .pointer (some ⟨t.nx, 0, none⟩) := rfl
  have ef : ob (fill (zeros [.string ⟨#[]⟩] 1) [(0, 1, strOf c.name)]) (fun c => some (CX.cells c 9 true, Bo 1 1)) = some (.cells [strOf c.name] 9 true, Bo 1 1) := rfl
  rw [SE B33 rfl]
  simp only [BP, decide_eq_true hlt, cond_true, ZY B33 rfl, ia, AY, Aq, bind_ok, hrd, es3, ep, w4', BF, DN, Nat.zero_add, CO, r4, ef, w5, Eb, hw]
  exact dd
theorem k33 (n : Nat) (hn : 20 ≤ n) (h : CV s b H F tag o cb pb lb eb E lv ev) : ∃ v' s', AU AL Aj n (.fn 33) [.pointer (some ⟨b, 0, none⟩)] s = .ok (v', s') ∧ Ext s s' ∧ RdS s' v' (nms (run H).comps) := by
 obtain ⟨m, rfl, _⟩ := Ac (show 1 ≤ n by omega)
 have d51 := k51 m (by omega) h
 have r0 : s.rd1 b 0 = some (.pointer (some ⟨o, 0, none⟩)) := by rw [Ai h.hb]; rfl
 obtain ⟨cv, pv, q0, q1, hC, hP⟩ := h.off.slices
 have hcl := h.ok.inv.Nk
 obtain ⟨v', s', d, x, r⟩ := k33_L2 (AU AL Aj m) m h.off hcl hC (run H).comps.length 0 m s none (.slice none 0 0) (by omega) (by omega) (.refl s) ⟨rfl, rfl, rfl⟩ (by simp)
 refine ⟨v', s', ?_, x, r⟩
 have d : Pq B33 (AU AL Aj m) m m (.slice none 0 0) cv (.int .i64 ((run H).comps.length : Int)) (.int .i64 0) s = .ok (v', s') := d
 rw [Ap 33 c33 rfl, f33_eq]
 simp only [d51, bind_ok, Af, cond_false, ZX B33 rfl, Es, AY, Aq, DN, Nat.zero_add, CO, r0, q0, hC.len_eq, d]
end
end Go.Im
set_option maxRecDepth 100000
set_option maxHeartbeats 4000000
namespace Go.Im
theorem BX.pushL {s : AA} {b : Nat} {cs news : List Value} {v : Value} {len : Nat} (h : BX s (some b) 9 1 cs len v) (hlen : len + news.length < 1000000) (hs : Bh news = true) {x : Value} (hx : DL s 1 x = some news) :
 ∃ v' s' b', FC s 9 1 16 v x = some (v', s') ∧ BX s' (some b') 9 1 (cs ++ news) (len + news.length) v' ∧ (b' = b ∨ b' = s.nx) ∧ s.nx ≤ s'.nx ∧ (∀ i, i < s.nx → i ≠ b → s'.get i = s.get i) := by
 have hcl := h.Sz
 obtain ⟨rfl, h0, full, h1, h2, h3⟩ := h
 have happ : FC s 9 1 16 (.slice (some ⟨b, 0, none⟩) len UNK) x = Dw s 9 1 16 news (.slice (some ⟨b, 0, none⟩) len UNK) := by
  show ob (DL s 1 x) (fun news => Dw s 9 1 16 news (.slice (some ⟨b, 0, none⟩) len UNK)) = _
  rw [hx]; rfl
 have hgo : Dw s 9 1 16 news (.slice (some ⟨b, 0, none⟩) len UNK) = ND s ⟨b, 0, none⟩ 9 1 len (len + news.length) news (s.get b) := by
  show cond (Nat.beq 1 0) none (cond (Nat.ble (Nat.mul (Nat.add len (Nat.div news.length 1)) 16) 140737488355328 && Nat.blt (Nat.add len (Nat.div news.length 1)) UNK) (Hq s 9 1 len UNK (Nat.div news.length 1) (Nat.add len (Nat.div news.length 1)) news (some ⟨b, 0, none⟩)) none) = _
  have d : Nat.div news.length 1 = news.length := Nat.div_one _
  have a1 : Nat.ble (Nat.mul (Nat.add len news.length) 16) 140737488355328 = true := Ae.2 (by show (len + news.length) * 16 ≤ _; omega)
  have a2 : Nat.blt (Nat.add len news.length) UNK = true := Bq.2 (by show len + news.length < 9223372036854775808; omega)
  rw [d, a1, a2]; rfl
 rw [happ, hgo, h1]
 show ∃ v' s' b', cond (Nat.beq 9 9) (cond (Nat.ble (Nat.add 0 (Nat.mul (len + news.length) 1)) full.length) (KQ s ⟨b, 0, none⟩ 1 len UNK (len + news.length) news) (cond (Bh news) (ob (sub full 0 (Nat.mul len 1)) fun old => some (Dt (s.put b .dead) 9 (len + news.length) old news)) none)) none = some (v', s') ∧ _
 rw [Ej rfl, hs]
 rw [Nat.mul_one] at h2 h3 hcl
 by_cases hroom : len + news.length ≤ full.length
 · have a1 : Nat.ble (Nat.add 0 (Nat.mul (len + news.length) 1)) full.length = true := Ae.2 (by show 0 + (len + news.length) * 1 ≤ _; omega)
   rw [a1]
   have hwr := Ye (s := s) (b := b) (c := full) (el := 9) h1 (o := len) (vs := news) hs (by omega)
   have a2 : KQ s ⟨b, 0, none⟩ 1 len UNK (len + news.length) news = some (.slice (some ⟨b, 0, none⟩) (len + news.length) UNK, s.put b (.cells (full.take len ++ (news ++ full.drop (len + news.length))) 9 true)) := by
    show ob (s.wr b (Nat.add 0 (Nat.mul len 1)) news) _ = _
    have : Nat.add 0 (Nat.mul len 1) = len := by show 0 + len * 1 = _; omega
    rw [this, hwr]; rfl
   refine ⟨_, _, b, a2, ⟨rfl, h0, _, by rw [AA.get_put, if_pos rfl], ?_, ?_⟩, .inl rfl, Nat.le_refl _, fun i hi hb => by rw [AA.get_put, if_neg hb]⟩
   · rw [h2, ← List.append_assoc, List.take_left' (by rw [List.length_append, hcl, Nat.mul_one])]
   · rw [h2, List.length_append, List.length_append, hcl]; omega
 · have a1 : Nat.ble (Nat.add 0 (Nat.mul (len + news.length) 1)) full.length = false := by
    cases hb : Nat.ble (Nat.add 0 (Nat.mul (len + news.length) 1)) full.length with
    | false => rfl
    | true =>
     have := Ae.1 hb
     have : 0 + (len + news.length) * 1 ≤ full.length := this
     omega
   rw [a1]
   have a2 : sub full 0 (Nat.mul len 1) = some cs := by
    show cond (Nat.ble (Nat.add 0 (Nat.mul len 1)) full.length) (some ((full.drop 0).take (Nat.mul len 1))) none = _
    have : Nat.ble (Nat.add 0 (Nat.mul len 1)) full.length = true := Ae.2 (by show 0 + len * 1 ≤ _; omega)
    rw [this, List.drop_zero]
    have : Nat.mul len 1 = len := Nat.mul_one _
    rw [this]
    exact congrArg some h2
   rw [a2]
   refine ⟨.slice (some ⟨s.nx, 0, none⟩) (len + news.length) UNK, (s.put b .dead).new (.cells (cs ++ news) 9 true), s.nx, rfl, ⟨rfl, by simp, cs ++ news, by rw [AA.Ak]; simp, ?_, ?_⟩, .inr rfl, by simp, fun i hi hb => ?_⟩
   · rw [List.take_of_length_le (by rw [List.length_append, hcl]; omega)]
   · rw [List.length_append, hcl]; omega
   · rw [AA.Ak, if_neg (by simp; omega), AA.get_put, if_neg hb]
theorem BX.src {s : AA} {base : Option Nat} {el w len : Nat} {cs : List Value} {v : Value} (h : BX s base el w cs len v) : DL s w v = some cs := by
 cases base with
 | none => obtain ⟨rfl, _, rfl⟩ := h; rfl
 | some b =>
  obtain ⟨rfl, _, full, g, h2, h3⟩ := h
  show s.rd b 0 (Nat.mul len w) = _
  rw [ED g (by show 0 + len * w ≤ _; omega), List.drop_zero]
  exact congrArg some h2
def DW : List UInt8 → Int → Int
 | [], n => n
 | b :: l, n => DW l ((31 * n + (b.toNat : Int)) % 9973)
theorem Jw : ∀ (l : List UInt8) (n : Int), 0 ≤ n ∧ n < 9973 → 0 ≤ DW l n ∧ DW l n < 9973
 | [], n, h => h
 | b :: l, n, h => Jw l _ ⟨Int.emod_nonneg _ (by decide), Int.emod_lt_of_pos _ (by decide)⟩
theorem k74_L1 (self : Self) (N : Nat) (x : List UInt8) (hx : x.length < 1000000) (s : AA) : ∀ (d i f : Nat) (z : Int), i + d = x.length → d < f → 0 ≤ z ∧ z < 9973 → UL B74 self N f (.string (ofL x)) (.int .i64 z) (.int .i64 (x.length : Int)) (.int .i64 (i : Int)) s = .ok (.int .i64 (DW (x.drop i) z), s) := by
 intro d
 induction d with
 | zero =>
  intro i f z hi hf hz
  obtain ⟨f, rfl, _⟩ := Ac hf
  obtain rfl : i = x.length := by omega
  have : ¬ (x.length : Int) < (x.length : Int) := by omega
  rw [SY B74 rfl, List.drop_length]
  simp only [BP, decide_eq_false this, cond_false, DW]
 | succ d ih =>
  intro i f z hi hf hz
  obtain ⟨f, rfl, _⟩ := Ac hf
  obtain ⟨y, hy⟩ := Bv (show i < x.length by omega)
  have hlt : (i : Int) < (x.length : Int) := by omega
  have hw : Az .i64 ((i : Int) + 1) = ((i + 1 : Nat) : Int) := by rw [wrap64 (by omega)]; omega
  have yb : y.toNat < 256 := y.toBitVec.isLt
  have w1 : Az .i64 (31 * z) = 31 * z := wrap64 (by omega)
  have w2 : Az .i64 (y.toNat : Int) = (y.toNat : Int) := wrap64 (by omega)
  have w3 : Az .i64 (31 * z + (y.toNat : Int)) = 31 * z + (y.toNat : Int) := wrap64 (by omega)
  have m1 : Int.tmod (31 * z + (y.toNat : Int)) 9973 = (31 * z + (y.toNat : Int)) % 9973 := Int.tmod_eq_emod_of_nonneg (by omega)
  have m2 : 0 ≤ (31 * z + (y.toNat : Int)) % 9973 ∧ (31 * z + (y.toNat : Int)) % 9973 < 9973 := ⟨Int.emod_nonneg _ (by decide), Int.emod_lt_of_pos _ (by decide)⟩
  have e := ih (i + 1) f ((31 * z + (y.toNat : Int)) % 9973) (by omega) (by omega) m2
  have q := Pj .i64 (31 * z + (y.toNat : Int)) 9973 (by decide)
  rw [m1] at q
  have p := KG (ofL x) .i64 i
  rw [Bj, hy] at p
  have p : JQ (.string (ofL x)) (.int .i64 (i : Int)) = some (.int .u8 (y.toNat : Int)) := p
  rw [SY B74 rfl, drop_at hy]
  simp only [BP, decide_eq_true hlt, cond_true, Zq B74 rfl, p, AY, Aq, bind_ok, Ez, w2, imul, w1, Io, w3, q, Eb, hw, e, DW]
theorem k74 (n : Nat) (x : List UInt8) (hn : x.length + 3 ≤ n) (hx : x.length < 1000000) (s : AA) : AU AL Aj n (.fn 74) [.string (ofL x)] s = .ok (.int .i64 (DW x 0), s) := by
 obtain ⟨m, rfl, _⟩ := Ac (show 1 ≤ n by omega)
 have e := k74_L1 (AU AL Aj m) m x hx s x.length 0 m 0 (by omega) (by omega) (by decide)
 rw [List.drop_zero] at e
 rw [Ap 74 c74 rfl, f74_eq]
 exact e
theorem k103 (n : Nat) (hn : 1 ≤ n) (k : Nat) (hk : 1 ≤ k) (hk2 : k < 1000000) (s : AA) : ∃ s' v, AU AL Aj n (.fn 103) [.slice none 0 0, .int .i64 (k : Int)] s = .ok (v, s') ∧ Ext s s' ∧ s.nx < s'.nx ∧ BX s' (some s.nx) 9 1 [] 0 v := by
 obtain ⟨m, rfl, _⟩ := Ac hn
 have zl : ∀ k : Nat, (zeros [Value.string ⟨#[]⟩] k).length = k := fun k => by
  induction k with
  | zero => rfl
  | succ k ih => show ([Value.string ⟨#[]⟩] ++ zeros [Value.string ⟨#[]⟩] k).length = _; simp [ih]
 have zs : ∀ k : Nat, Bh (zeros [Value.string ⟨#[]⟩] k) = true := fun k => by
  induction k with
  | zero => rfl
  | succ k ih => exact ih
 obtain ⟨s1, hs1⟩ : ∃ s1, s1 = s.new (.cells (zeros [Value.string ⟨#[]⟩] k) 9 true) := ⟨_, rfl⟩
 have x1 : Ext s s1 := by rw [hs1]; exact (Ext.refl s).new _
 have n1 : s1.nx = s.nx + 1 := by rw [hs1]; rfl
 have g1 : s1.get s.nx = some (.cells (zeros [Value.string ⟨#[]⟩] k) 9 true) := by rw [hs1, AA.Ak, if_pos rfl]
 have hA : BX s1 (some s.nx) 9 1 (zeros [Value.string ⟨#[]⟩] k) k (.slice (some ⟨s.nx, 0, none⟩) k UNK) := ⟨rfl, by omega, _, g1, by rw [Nat.mul_one, List.take_of_length_le (by rw [zl]; exact Nat.le_refl _)], by rw [zl]; omega⟩
 obtain ⟨v', e5, hB⟩ := hA.trunc (by decide) (Nat.zero_le k) .i64
 have e5 : rSl s1 9 1 none (some (.int .i64 0)) none (.slice (some ⟨s.nx, 0, none⟩) k UNK) = some v' := e5
 refine ⟨s1, v', ?_, x1, by omega, by simpa using hB⟩
 have e1 : pCap (.slice none 0 0) = some (.int .i64 0) := rfl
 have e2 : rSl s 9 1 none (some (.int .i64 0)) none (.slice none 0 0) = some (.slice none 0 0) := rfl
 have e3 : Ut s 9 1 16 [.string ⟨#[]⟩] (.slice none 0 0) (.int .i64 (k : Int)) = some (.slice (some ⟨s.nx, 0, none⟩) k UNK, s1) := by
  show cond (Nat.ble (Nat.mul k 16) 140737488355328) (Dw s 9 1 16 (zeros [.string ⟨#[]⟩] k) (.slice none 0 0)) none = _
  have a1 : Nat.ble (Nat.mul k 16) 140737488355328 = true := Ae.2 (by show k * 16 ≤ _; omega)
  rw [a1]
  show cond (Nat.beq 1 0) none (cond (Nat.ble (Nat.mul (Nat.add 0 (Nat.div (zeros [Value.string ⟨#[]⟩] k).length 1)) 16) 140737488355328 && Nat.blt (Nat.add 0 (Nat.div (zeros [Value.string ⟨#[]⟩] k).length 1)) UNK) (Hq s 9 1 0 0 (Nat.div (zeros [Value.string ⟨#[]⟩] k).length 1) (Nat.add 0 (Nat.div (zeros [Value.string ⟨#[]⟩] k).length 1)) (zeros [Value.string ⟨#[]⟩] k) none) none) = _
  have d : Nat.div (zeros [Value.string ⟨#[]⟩] k).length 1 = k := by rw [zl]; exact Nat.div_one _
  have d0 : Nat.add 0 k = k := Nat.zero_add _
  have a2 : Nat.blt k UNK = true := Bq.2 (by show k < 9223372036854775808; omega)
  rw [d, d0, a1, a2]
  show cond (Nat.beq k 0) (some (Value.slice none 0 0, s)) (some (Dt s 9 k [] (zeros [Value.string ⟨#[]⟩] k))) = _
  rw [Hr (by omega), hs1]; rfl
 have c1 : ¬ (k : Int) < 0 := by omega
 have c2 : (0 : Int) < (k : Int) := by omega
 have w0 : Az .i64 (0 - 0) = 0 := rfl
 have wk : Az .i64 ((k : Int) - 0) = (k : Int) := by rw [Int.sub_zero, wrap64 (by omega)]
 rw [Ap 103 WG rfl, lT]
 simp only [BP, decide_eq_false c1, cond_false, XC B103 rfl, e1, AY, Aq, bind_ok, Pm, Int.natCast_zero, Gy, w0, wk, iW, decide_eq_true c2, Af, cond_true, e2, e3, BF, e5]
end Go.Im
set_option maxRecDepth 100000
set_option maxHeartbeats 4000000
namespace Go.Im
theorem k73_L1 (self : Self) (N f : Nat) (hf : 3 ≤ f) {s : AA} {q : Nat} {u1 u2 : Value} {k : Nat} (hq : s.get q = some (.cells [u1, u2] 22 true)) (h1 : CZ u1 = some (.int .i64 1)) (h2 : CZ u2 = some (.int .i64 (k : Int))) (hk : k < 1000000) :
 Q5 B73 self N f (.slice (some ⟨q, 0, none⟩) 2 2) (.int .i64 0) (.slice (some ⟨q, 0, none⟩) 2 2) (.int .i64 2) (.int .i64 0) s = X9 B73 self N (.slice (some ⟨q, 0, none⟩) 2 2) (.int .i64 ((1 + k : Nat) : Int)) s := by
 obtain ⟨f, rfl⟩ : ∃ g, f = g + 3 := ⟨f - 3, by omega⟩
 have r0 : s.rd1 q 0 = some u1 := by rw [Ai hq]; rfl
 have r1 : s.rd1 q 1 = some u2 := by rw [Ai hq]; rfl
 have i0 : BR 1 (.slice (some ⟨q, 0, none⟩) 2 2) (.int .i64 0) = some (.pointer (some ⟨q, 0, none⟩)) := rfl
 have i1 : BR 1 (.slice (some ⟨q, 0, none⟩) 2 2) (.int .i64 1) = some (.pointer (some ⟨q, 1, none⟩)) := rfl
 have c0 : decide ((0 : Int) < 2) = true := rfl
 have c1 : decide ((1 : Int) < 2) = true := rfl
 have c2 : decide ((2 : Int) < 2) = false := rfl
 have w0 : Az .i64 (0 + 1) = 1 := rfl
 have w1 : Az .i64 (1 + 1) = 2 := rfl
 have wk : Az .i64 (1 + (k : Int)) = ((1 + k : Nat) : Int) := by rw [wrap64 (by omega)]; omega
 have n1 : decide ((1 : Int) < 0) = false := rfl
 have nk : ¬ ((1 + k : Nat) : Int) < 0 := by omega
 rw [NY B73 rfl]
 simp only [BP, c0, cond_true, SV B73 rfl, i0, AY, Aq, bind_ok, CO, r0, h1, Io, w0, Dk, n1, Af, cond_false, Eb]
 rw [NY B73 rfl]
 simp only [BP, c1, cond_true, SV B73 rfl, i1, AY, Aq, bind_ok, CO, r1, h2, Io, wk, w1, Dk, decide_eq_false nk, Af, cond_false, Eb]
 rw [NY B73 rfl]
 simp only [BP, c2, cond_false]
theorem k73_L4 (self : Self) (N f : Nat) (hf : 3 ≤ f) {s : AA} {q b : Nat} {u1 u2 v : Value} {c1 c2 : List Value} (hq : s.get q = some (.cells [u1, u2] 22 true)) (hqb : q ≠ b) (hql : q < s.nx) (hA : BX s (some b) 9 1 [] 0 v) (g1 : ∀ t : AA, (∀ i, i < s.nx → i ≠ b → t.get i = s.get i) → DL t 1 u1 = some c1) (g2 : ∀ t : AA, (∀ i, i < s.nx → i ≠ b → t.get i = s.get i) → DL t 1 u2 = some c2)
 (s1 : Bh c1 = true) (s2 : Bh c2 = true) (hl : c1.length + c2.length < 1000000) :
 ∃ v' s' b', Q7 B73 self N f v (.slice (some ⟨q, 0, none⟩) 2 2) (.int .i64 2) (.int .i64 0) s = .ok (v', s') ∧ BX s' (some b') 9 1 (c1 ++ c2) (c1.length + c2.length) v' ∧ s.nx ≤ s'.nx ∧ (∀ i, i < s.nx → i ≠ b → s'.get i = s.get i) := by
 obtain ⟨f, rfl⟩ : ∃ g, f = g + 3 := ⟨f - 3, by omega⟩
 have r0 : s.rd1 q 0 = some u1 := by rw [Ai hq]; rfl
 have i0 : BR 1 (.slice (some ⟨q, 0, none⟩) 2 2) (.int .i64 0) = some (.pointer (some ⟨q, 0, none⟩)) := rfl
 have i1 : BR 1 (.slice (some ⟨q, 0, none⟩) 2 2) (.int .i64 1) = some (.pointer (some ⟨q, 1, none⟩)) := rfl
 have d0 : decide ((0 : Int) < 2) = true := rfl
 have d1 : decide ((1 : Int) < 2) = true := rfl
 have d2 : decide ((2 : Int) < 2) = false := rfl
 have w0 : Az .i64 (0 + 1) = 1 := rfl
 have w1 : Az .i64 (1 + 1) = 2 := rfl
 obtain ⟨va, sa, ba, ea, Aa, hba, na, ga⟩ := hA.pushL (by omega) s1 (g1 s fun _ _ _ => rfl)
 have qa : sa.get q = some (.cells [u1, u2] 22 true) := (ga q hql hqb).trans hq
 have r1 : sa.rd1 q 1 = some u2 := by rw [Ai qa]; rfl
 obtain ⟨vb, sb, bb, eb, Ab, hbb, nb, gb⟩ := Aa.pushL (by simp; omega) s2 (g2 sa ga)
 refine ⟨vb, sb, bb, ?_, by simpa using Ab, by omega, fun i hi hib => ?_⟩
 · rw [NZ B73 rfl]
   simp only [BP, d0, cond_true, SX B73 rfl, i0, AY, Aq, bind_ok, CO, r0, ea, BF, Eb, w0]
   rw [NZ B73 rfl]
   simp only [BP, d1, cond_true, SX B73 rfl, i1, AY, Aq, bind_ok, CO, r1, eb, BF, Eb, w1]
   rw [NZ B73 rfl]
   simp only [BP, d2, cond_false]
 · rw [gb i (by omega) (fun e => by rcases hba with h | h; exact hib (e.trans h); omega)]
   exact ga i hi hib
theorem k73 (n : Nat) (hn : 10 ≤ n) {s : AA} {q p : Nat} {base : Option Nat} {lv : Value} {y : List UInt8} {L : List (List UInt8)} (hq : s.get q = some (.cells [Bo 1 1 p, lv] 22 true)) (hql : q < s.nx) (hp : s.get p = some (.cells [strOf y] 9 true)) (hpl : p < s.nx) (hA : BX s base 9 1 (L.map strOf) L.length lv) (hl : L.length < 100000) :
 ∃ v' s' b', AU AL Aj n (.fn 73) [Bo 2 2 q] s = .ok (v', s') ∧ Ext s s' ∧ BX s' (some b') 9 1 ((y :: L).map strOf) (y :: L).length v' := by
 obtain ⟨m, rfl, _⟩ := Ac (show 1 ≤ n by omega)
 obtain ⟨s1, v1, d103, x1, n1, A1⟩ := k103 m (by omega) (1 + L.length) (by omega) (by omega) s
 have q1 : s1.get q = some (.cells [Bo 1 1 p, lv] 22 true) := (x1.get q hql).trans hq
 have p1 : s1.get p = some (.cells [strOf y] 9 true) := (x1.get p hpl).trans hp
 have hA1 := hA.frame x1.nx fun b e => x1.get b (hA.lt e)
 obtain ⟨v', s', b', e4, A4, n4, g4⟩ := k73_L4 (AU AL Aj m) m m (by omega) (b := s.nx) (u1 := Bo 1 1 p) (u2 := lv) (c1 := [strOf y]) (c2 := L.map strOf) q1 (by omega) (by omega) A1
  (fun t ht => by
   show t.rd p 0 (Nat.mul 1 1) = _
   rw [ED ((ht p (by omega) (by omega)).trans p1) (by show 0 + 1 * 1 ≤ 1; omega)]; rfl)
  (fun t ht => by
   cases base with
   | none => obtain ⟨e1, _, e3⟩ := hA; rw [e1, e3]; rfl
   | some b =>
    have hb := hA.lt rfl
    obtain ⟨e1, _, full, g, h2, h3⟩ := hA1
    rw [e1]
    show t.rd b 0 (Nat.mul L.length 1) = _
    rw [ED ((ht b (by omega) (by omega)).trans g) (by show 0 + L.length * 1 ≤ _; omega), List.drop_zero]
    exact congrArg some h2)
  rfl (Xf L) (by simp; omega)
 refine ⟨v', s', b', ?_, ⟨by omega, fun i hi => by rw [g4 i (by omega) (by omega)]; exact x1.get i hi⟩, ?_⟩
 · have e1 := k73_L1 (AU AL Aj m) m m (by omega) (u1 := Bo 1 1 p) (u2 := lv) (k := L.length) hq rfl hA.len_eq (by omega)
   have e4' : Q7 B73 (AU AL Aj m) m m v1 (.slice (some ⟨q, 0, none⟩) 2 2) (.int .i64 2) (.int .i64 0) s1 = .ok (v', s') := e4
   have es : Bo 2 2 q = .slice (some ⟨q, 0, none⟩) 2 2 := rfl
   rw [Ap 73 c73 rfl, f73_eq, es]
   simp only [Pm, AY, Aq, bind_ok, show ((2 : Nat) : Int) = 2 from rfl, e1, Zp B73 rfl, d103, e4']
 · have : [strOf y].length + (L.map strOf).length = (y :: L).length := by simp; omega
   rw [this] at A4
   exact A4
theorem JL : ∀ L : List (List UInt8), textsOf (L.map strOf) = some L
 | [] => rfl
 | x :: L => by
  show ob (textsOf (L.map strOf)) (fun ts => some (toL (ofL x) :: ts)) = _
  rw [JL L]; rfl
theorem k67 (n : Nat) (hn : 1 ≤ n) {s : AA} {b : Nat} {v : Value} {L : List (List UInt8)} (h : BX s (some b) 9 1 (L.map strOf) L.length v) (sep : List UInt8) (hl : Dp L + L.length * sep.length < 1000000000) (hL : L.length < 1000000) : AU AL Aj n (.fn 67) [v, .string (ofL sep)] s = .ok (.string (ofL (C9 sep L)), s) := by
 obtain ⟨m, rfl, _⟩ := Ac hn
 obtain ⟨rfl, h0, full, g, h2, h3⟩ := h
 rw [Gp 67 .join rfl]
 show BI _ (cond (Nat.ble L.length UNK) (ob (s.rd b 0 L.length) fun l => ob (textsOf l) fun ts => cond (Nat.blt (Nat.add (Dp ts) (Nat.mul L.length (toL (ofL sep)).length)) 1000000000) (some (strOf (C9 (toL (ofL sep)) ts), s)) none) none) = _
 have a1 : Nat.ble L.length UNK = true := Ae.2 (by show L.length ≤ 9223372036854775808; omega)
 rw [Nat.mul_one] at h2 h3
 have a2 : s.rd b 0 L.length = some (L.map strOf) := by rw [ED g (by omega), List.drop_zero, h2]
 have a3 : Nat.blt (Nat.add (Dp L) (Nat.mul L.length sep.length)) 1000000000 = true := Bq.2 hl
 rw [a1, a2]
 show BI _ (ob (textsOf (L.map strOf)) fun ts => cond (Nat.blt (Nat.add (Dp ts) (Nat.mul L.length sep.length)) 1000000000) (some (strOf (C9 sep ts), s)) none) = _
 rw [JL]
 show BI _ (cond (Nat.blt (Nat.add (Dp L) (Nat.mul L.length sep.length)) 1000000000) (some (strOf (C9 sep L), s)) none) = _
 rw [a3]; rfl
def DX : List UInt8 := [99, 111, 109, 112, 97, 115, 115, 101, 115, 32]
def Gl : List UInt8 := [115, 117, 109, 32]
def BN (L : List (List UInt8)) : List UInt8 := C9 [10] ((DX ++ BO (L.length : Int)) :: L) ++ [10]
def Ba (L : List (List UInt8)) : List UInt8 := ((BN L ++ Gl) ++ BO (DW (BN L) 0)) ++ [10]
theorem KO {k : Nat} : ∀ L : List (List UInt8), (∀ x ∈ L, x.length ≤ k) → Dp L ≤ L.length * (k + 1)
 | [], _ => Nat.zero_le _
 | x :: L, h => by
  have h1 := KO L fun y hy => h y (by simp [hy])
  have h2 := h x (by simp)
  show x.length + (Dp L + 1) ≤ (L.length + 1) * (k + 1)
  rw [Nat.succ_mul]; omega
theorem LW (sep : List UInt8) : ∀ L : List (List UInt8), (C9 sep L).length ≤ Dp L + L.length * sep.length
 | [] => Nat.zero_le _
 | [x] => by show x.length ≤ x.length + (0 + 1) + 1 * sep.length; omega
 | x :: y :: L => by
  have h := LW sep (y :: L)
  show (x ++ (sep ++ C9 sep (y :: L))).length ≤ x.length + (Dp (y :: L) + 1) + ((y :: L).length + 1) * sep.length
  rw [List.length_append, List.length_append, Nat.succ_mul]; omega
theorem aW {x : List UInt8} {o : Ord} (h : Dz x = .ok o) : x.length ≤ 60 := by
 unfold Dz at h
 by_cases c : 60 < x.length
 · rw [if_pos c] at h; simp at h
 · omega
theorem Jy {H : Hist} (h : HOk H) : ∀ x ∈ AZ H, x.length ≤ 60 := by
 intro x hx
 obtain ⟨y, hy, rfl⟩ := List.mem_map.1 hx
 obtain ⟨i, hi⟩ := List.getElem?_of_mem hy
 exact aW (h i y hi).2
theorem BX.veqS {s : AA} {base : Option Nat} {el w len : Nat} {cs : List Value} {v : Value} (h : BX s base el w cs len v) : Im.veq v v = true := by
 cases base with
 | none => obtain ⟨rfl, _⟩ := h; rfl
 | some b =>
  obtain ⟨rfl, _⟩ := h
  show (Nat.beq b b && Nat.beq 0 0 && Nat.beq len len && Nat.beq UNK UNK) = true
  rw [Ej rfl, Ej rfl, Ej rfl, Ej rfl]; rfl
section
variable {s : AA} {b o : Nat} {H : Hist} {F : Nat → Prop} {tag : Nat → Nat} {cb pb lb eb : Option Nat} {E : List Nat} {lv ev : Value}
theorem Ul {L : List (List UInt8)} (h : ∀ x ∈ L, x.length ≤ 60) (hl : L.length ≤ 200) : (BN L).length < 50000 := by
 have h1 : ∀ x ∈ (DX ++ BO (L.length : Int)) :: L, x.length ≤ 60 := by
  intro x hx
  rcases List.mem_cons.1 hx with rfl | hx
  · have := DZ (L.length : Int); rw [List.length_append]; show 10 + _ ≤ 60; omega
  · exact h x hx
 have h2 := KO _ h1
 have h3 := LW [10] ((DX ++ BO (L.length : Int)) :: L)
 unfold BN
 simp only [List.length_append, List.length_cons, List.length_nil] at h2 h3 ⊢
 omega
theorem k42_J1 (m N : Nat) (hm : 60000 ≤ m) (h : CV s b H F tag o cb pb lb eb E lv ev) : Gives (X0 B42 (AU AL Aj m) N (.pointer (some ⟨b, 0, none⟩)) s) s (strOf (Ba (AZ H))) := by
 have r1 : s.rd1 b 1 = some lv := by rw [Ai h.hb]; rfl
 have hlen := h.len
 have ll : (AZ H).length = H.length := by unfold AZ; rw [List.length_map]
 have hsm := Jy h.ok
 have hA := h.lines
 have lenL := hA.len_eq
 have bl := h.hi b h.fb
 have d45 := k45 m (by omega) ((AZ H).length : Int) (by omega) s
 have i1 := DZ ((AZ H).length : Int)
 have a1 := Cc DX (BO ((AZ H).length : Int)) (by show 10 + _ ≤ _; omega)
 obtain ⟨s1, hs1⟩ : ∃ s1, s1 = s.new (.cells [strOf (DX ++ BO ((AZ H).length : Int))] 9 true) := ⟨_, rfl⟩
 have x1 : Ext s s1 := by rw [hs1]; exact (Ext.refl s).new _
 have n1 : s1.nx = s.nx + 1 := by rw [hs1]; rfl
 have h1 := h.ext x1
 have r1' : s1.rd1 b 1 = some lv := by rw [Ai h1.hb]; rfl
 obtain ⟨s2, hs2⟩ : ∃ s2, s2 = s1.new (.cells [Bo 1 1 s.nx, lv] 22 true) := ⟨_, rfl⟩
 have x2 : Ext s1 s2 := by rw [hs2]; exact (Ext.refl s1).new _
 have n2 : s2.nx = s1.nx + 1 := by rw [hs2]; rfl
 have x12 := x1.trans x2
 have q2 : s2.get s1.nx = some (.cells [Bo 1 1 s.nx, lv] 22 true) := by rw [hs2, AA.Ak, if_pos rfl]
 have p2 : s2.get s.nx = some (.cells [strOf (DX ++ BO ((AZ H).length : Int))] 9 true) := by rw [x2.get _ (by omega), hs1, AA.Ak, if_pos rfl]
 obtain ⟨v3, s3, b3, d73, x3, A3⟩ := k73 m (by omega) q2 (by omega) p2 (by omega) (hA.frame x12.nx fun b e => x12.get b (hA.lt e)) (by omega)
 have hsum : Dp ((DX ++ BO ((AZ H).length : Int)) :: AZ H) ≤ ((AZ H).length + 1) * 61 := KO (k := 60) _ (by
  intro x hx
  rcases List.mem_cons.1 hx with rfl | hx
  · rw [List.length_append]; show 10 + _ ≤ 60; omega
  · exact hsm x hx)
 have d67 := k67 m (by omega) A3 [10] (by simp; omega) (by simp; omega)
 have hbl := Ul hsm (by omega)
 have bl2 : (C9 [10] ((DX ++ BO ((AZ H).length : Int)) :: AZ H)).length < 50000 := by unfold BN at hbl; rw [List.length_append] at hbl; omega
 have a2 := Cc (C9 [10] ((DX ++ BO ((AZ H).length : Int)) :: AZ H)) [10] (by simp; omega)
 have a2 : BG .add (.string (ofL (C9 [10] ((DX ++ BO ((AZ H).length : Int)) :: AZ H)))) (.string (ofL [10])) = some (.string (ofL (BN (AZ H)))) := a2
 have a3 := Cc (BN (AZ H)) Gl (by show _ + 4 ≤ _; omega)
 have d74 := k74 m (BN (AZ H)) (by omega) (by omega) s3
 have ck := Jw (BN (AZ H)) 0 (by decide)
 have d45' := k45 m (by omega) (DW (BN (AZ H)) 0) (by omega) s3
 have i2 := DZ (DW (BN (AZ H)) 0)
 have a4 := Cc (BN (AZ H) ++ Gl) (BO (DW (BN (AZ H)) 0)) (by rw [List.length_append]; show _ + 4 + _ ≤ _; omega)
 have a5 := Cc ((BN (AZ H) ++ Gl) ++ BO (DW (BN (AZ H)) 0)) [10] (by rw [List.length_append, List.length_append]; show _ + 4 + _ + 1 ≤ _; omega)
 have a5 : BG .add (.string (ofL ((BN (AZ H) ++ Gl) ++ BO (DW (BN (AZ H)) 0)))) (.string (ofL [10])) = some (.string (ofL (Ba (AZ H)))) := a5
 refine ⟨s3, ?_, x12.trans x3⟩
 have lc : (Value.string ⟨#[99, 111, 109, 112, 97, 115, 115, 101, 115, 32]⟩) = .string (ofL DX) := rfl
 have lsm : (Value.string ⟨#[115, 117, 109, 32]⟩) = .string (ofL Gl) := rfl
 have ef1 : ob (fill (zeros [.string ⟨#[]⟩] 1) [(0, 1, (.string (ofL (DX ++ BO ((AZ H).length : Int)))))]) (fun c => some (CX.cells c 9 true, Bo 1 1)) = some (.cells [strOf (DX ++ BO ((AZ H).length : Int))] 9 true, Bo 1 1) := rfl
 have ef2 : ob (fill (zeros [.slice none 0 0] 2) [(0, 1, Bo 1 1 s.nx), (1, 1, lv)]) (fun c => some (CX.cells c 22 true, Bo 2 2)) = some (.cells [Bo 1 1 s.nx, lv] 22 true, Bo 2 2) := by
  cases lb with
  | none => obtain ⟨rfl, _⟩ := h.la; rfl
  | some b' => obtain ⟨rfl, _⟩ := h.la; rfl
 have c1 := Cm (s := s) (b := b) (o := 1) (v := lv) bl hA.veqS
 have b1 : Nat.ble s.nx s1.nx = true := Ae.2 (by omega)
 have b2 : Nat.ble s1.nx s2.nx = true := Ae.2 (by omega)
 have b3 : Nat.ble s2.nx s3.nx = true := Ae.2 x3.nx
 rw [Zb B42 rfl]
 simp only [Es, AY, Aq, DJ, CQ, cond_true, DN, Nat.zero_add, CO, r1, lenL, d45, lc, a1, ef1, ← hs1, b1, r1', ef2, ← hs2, b2, d73, b3, c1, Bool.and_true, bind_ok, Kr, d67, a2, lsm, a3, d74, d45', a4, a5]
 rfl
theorem k42 (n : Nat) (hn : 60001 ≤ n) (h : CV s b H F tag o cb pb lb eb E lv ev) : Gives (AU AL Aj n (.fn 42) [.pointer (some ⟨b, 0, none⟩)] s) s (strOf (Ba (AZ H))) := by
 obtain ⟨m, rfl, _⟩ := Ac (show 1 ≤ n by omega)
 have d51 := k51 m (by omega) h
 obtain ⟨s', d, x⟩ := k42_J1 m m (by omega) h
 refine ⟨s', ?_, x⟩
 rw [Ap 42 c42 rfl, f42_eq]
 simp only [d51, bind_ok, Af, cond_false, d]
end
end Go.Im
