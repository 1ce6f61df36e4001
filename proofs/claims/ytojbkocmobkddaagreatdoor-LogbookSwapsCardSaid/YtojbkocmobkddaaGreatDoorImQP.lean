/- What a book returns: its compasses, its lines; lists are compared (program). -/
import Derived.Test.YtojbkocmobkddaaGreatDoorImQG
import Derived.Test.YtojbkocmobkddaaGreatDoorImEC
set_option linter.all false
set_option maxRecDepth 100000
set_option maxHeartbeats 4000000
namespace Go.Im
structure RdS (s : A8) (v : Value) (L : List (List UInt8)) : Prop where
 len : Ce v = some (.int .i64 (L.length : Int))
 at_ : ∀ (i : Nat) (x : List UInt8), L[i]? = some x → ∃ lb, lb < s.nx ∧ BN 1 v (.int .i64 (i : Int)) = some (.pointer (some ⟨lb, i, none⟩)) ∧ s.rd1 lb i = some (strOf x)
theorem RdS.ext {s s' : A8} {v : Value} {L : List (List UInt8)} (h : RdS s v L) (e : Ext s s') : RdS s' v L := ⟨h.len, fun i x hx => by
 obtain ⟨lb, h1, h2, h3⟩ := h.at_ i x hx
 refine ⟨lb, Nat.lt_of_lt_of_le h1 e.nx, h2, ?_⟩
 have := e.get lb h1
 unfold A8.rd1 at h3 ⊢
 rw [this]; exact h3⟩
theorem Bc.rdS {s : A8} {base : Option Nat} {v : Value} {L : List (List UInt8)} (h : Bc s base 9 1 (L.map strOf) L.length v) : RdS s v L := ⟨h.len_eq, fun i x hx => by
 obtain ⟨lb, e1, ia⟩ := h.iad i (BA hx) .i64
 obtain ⟨lb', e2, g⟩ := h.get (i := i) (x := strOf x) (by rw [List.getElem?_map, hx]; rfl)
 obtain rfl : lb = lb' := Option.some.inj (e1.symm.trans e2)
 rw [Nat.mul_one] at ia
 exact ⟨lb, h.lt e1, ia, g⟩⟩
theorem RdS.nil (s : A8) : RdS s (.slice none 0 0) [] := ⟨rfl, fun i x hx => by simp at hx⟩
theorem Q9 (L : List (List UInt8)) : Ba (L.map strOf) = true := GR (by
 intro v hv
 obtain ⟨x, _, rfl⟩ := List.mem_map.1 hv
 rfl)
section
variable {s : A8} {b o : Nat} {H : Hist} {F : Nat → Prop} {tag : Nat → Nat} {cb pb lb eb : Option Nat} {E : List Nat} {lv ev : Value}
def CO (H : Hist) : List (List UInt8) := H.map (·.1)
theorem k33_L2 (self : Self) (N : Nat) (hO : AY s o cb pb (run H)) (hcl : (run H).comps.length ≤ 8) {cv : Value} (hC : Bc s cb 120 21 ((run H).comps.flatMap BR) (run H).comps.length cv) : ∀ (d i f : Nat) (t : A8) (base : Option Nat) (v3 : Value), i + d = (run H).comps.length → d < f → Ext s t →
 Bc t base 9 1 (((nms (run H).comps).take i).map strOf) i v3 → (∀ b, base = some b → s.nx ≤ b) →
 ∃ v' s', PI B33 self N f v3 cv (.int .i64 ((run H).comps.length : Int)) (.int .i64 (i : Int)) t = .ok (v', s') ∧ Ext s s' ∧ RdS s' v' (nms (run H).comps) := by
 have nl : (nms (run H).comps).length = (run H).comps.length := by unfold nms; rw [List.length_map]
 intro d
 induction d with
 | zero =>
  intro i f t base v3 hi hf x hA hb
  obtain ⟨f, rfl, _⟩ := Ae hf
  obtain rfl : i = (run H).comps.length := by omega
  have : ¬ ((run H).comps.length : Int) < ((run H).comps.length : Int) := by omega
  refine ⟨v3, t, ?_, x, ?_⟩
  · rw [Qv B33 rfl]
    simp only [Bq, decide_eq_false this, cond_false]
  · rw [← nl, List.take_length] at hA
    exact hA.rdS
 | succ d ih =>
  intro i f t base v3 hi hf x hA hb
  obtain ⟨f, rfl, _⟩ := Ae hf
  have hil : i < (run H).comps.length := by omega
  obtain ⟨c, hc⟩ := BU hil
  have hok := hO.ok c (List.mem_of_getElem? hc)
  have hlt : (i : Int) < ((run H).comps.length : Int) := by omega
  have hw : BL .i64 ((i : Int) + 1) = ((i + 1 : Nat) : Int) := by rw [wrap64 (by omega)]; omega
  have hC2 := hC.frame x.nx fun b e => x.get b (hC.lt e)
  obtain ⟨b, rfl, ia⟩ := hC2.iad i hil .i64
  have hrd : DT t 21 (.pointer (some ⟨b, i * 21, none⟩)) = some (.agg ⟨BR c⟩) := Fz (by rw [hC2.rd (by have : (i + 1) * 21 ≤ (run H).comps.length * 21 := Nat.mul_le_mul_right _ hil; omega), FC BR 21 _ i c (fun a ha => DW (hO.ok a ha)) hc])
  obtain ⟨s3, hs3⟩ : ∃ s3, s3 = t.new (.cells zero21 120 true) := ⟨_, rfl⟩
  have x3 : Ext t s3 := by rw [hs3]; exact (Ext.refl t).new _
  have n3 : s3.nx = t.nx + 1 := by rw [hs3]; rfl
  obtain ⟨s4, w4', q4, n4, g4⟩ := w21g (s := s3) (q := t.nx) (c := zero21) (by rw [hs3, A8.Af, if_pos rfl]) rfl (vs := BR c) (DW hok) (GU c)
  have x4 : Ext t s4 := ⟨by omega, fun j hj => by rw [g4 j (by omega)]; exact x3.get j hj⟩
  have r4 : s4.rd1 t.nx 0 = some (strOf c.name) := by rw [Ag q4]; rfl
  have hA4 := hA.frame x4.nx fun b e => x4.get b (hA.lt e)
  obtain ⟨v', s5, b5, w5, hA5, hb5, x5, n5, _, _⟩ := OH (by_ := 16) (news := [strOf c.name]) (x.trans x4) hA4 hb (by decide) (by omega) (by show _ < 9223372036854775808; omega) rfl rfl
  have et : ((nms (run H).comps).take i).map strOf ++ [strOf c.name] = ((nms (run H).comps).take (i + 1)).map strOf := by
   rw [List.take_add_one, List.map_append]
   congr 1
   have : (nms (run H).comps)[i]? = some c.name := by unfold nms; rw [List.getElem?_map, hc]; rfl
   rw [this]; rfl
  rw [et] at hA5
  obtain ⟨v'', s', dd, r⟩ := ih (i + 1) f s5 b5 v' (by omega) (by omega) x5 hA5 hb5
  refine ⟨v'', s', ?_, r⟩
  have es3 : t.new (.cells [.string ⟨#[]⟩, .int .i64 0, .int .i64 0, .int .i64 0, .int .i64 0, .int .i64 0, .int .i64 0, .int .i64 0, .int .i64 0, .int .i64 0, .int .i64 0, .int .i64 0, .int .i64 0, .bool false, .bool false, .bool false, .bool false, .bool false, .bool false, .bool false, .bool false] 120 true) = s3 := hs3.symm
  have ep : ptrTo t.nx = .pointer (some ⟨t.nx, 0, none⟩) := rfl
  have ef : ob (fill (zeros [.string ⟨#[]⟩] 1) [(0, 1, strOf c.name)]) (fun c => some (CQ.cells c 9 true, Bv 1 1)) = some (.cells [strOf c.name] 9 true, Bv 1 1) := rfl
  rw [Qv B33 rfl]
  simp only [Bq, decide_eq_true hlt, cond_true, YO B33 rfl, ia, Ad, BD, bind_ok, hrd, es3, ep, w4', Aq, EC, Nat.zero_add, CS, r4, ef, w5, GN, hw]
  exact dd
theorem k33 (n : Nat) (hn : 20 ≤ n) (h : D5 s b H F tag o cb pb lb eb E lv ev) : ∃ v' s', AU AB Ah n (.fn 33) [.pointer (some ⟨b, 0, none⟩)] s = .ok (v', s') ∧ Ext s s' ∧ RdS s' v' (nms (run H).comps) := by
 obtain ⟨m, rfl, _⟩ := Ae (show 1 ≤ n by omega)
 have d51 := k51 m (by omega) h
 have r0 : s.rd1 b 0 = some (.pointer (some ⟨o, 0, none⟩)) := by rw [Ag h.hb]; rfl
 obtain ⟨cv, pv, q0, q1, hC, hP⟩ := h.off.slices
 have hcl := h.ok.inv.Pv
 obtain ⟨v', s', d, x, r⟩ := k33_L2 (AU AB Ah m) m h.off hcl hC (run H).comps.length 0 m s none (.slice none 0 0) (by omega) (by omega) (.refl s) ⟨rfl, rfl, rfl⟩ (by simp)
 refine ⟨v', s', ?_, x, r⟩
 have d : PI B33 (AU AB Ah m) m m (.slice none 0 0) cv (.int .i64 ((run H).comps.length : Int)) (.int .i64 0) s = .ok (v', s') := d
 rw [Au 33 c33 rfl, f33_eq]
 simp only [d51, bind_ok, Ar, cond_false, YN B33 rfl, H8, Ad, BD, EC, Nat.zero_add, CS, r0, q0, hC.len_eq, d]
end
end Go.Im
set_option maxRecDepth 100000
set_option maxHeartbeats 4000000
namespace Go.Im
theorem Bc.src {s : A8} {base : Option Nat} {el w len : Nat} {cs : List Value} {v : Value} (h : Bc s base el w cs len v) : Cc s w v = some cs := by
 cases base with
 | none => obtain ⟨rfl, _, rfl⟩ := h; rfl
 | some b =>
  obtain ⟨rfl, _, full, g, h2, h3⟩ := h
  show s.rd b 0 (Nat.mul len w) = _
  rw [Eb g (by show 0 + len * w ≤ _; omega), List.drop_zero]
  exact congrArg some h2
end Go.Im
set_option maxRecDepth 100000
set_option maxHeartbeats 4000000
namespace Go.Im
theorem Bc.V8 {s : A8} {base : Option Nat} {el w len : Nat} {cs : List Value} {v : Value} (h : Bc s base el w cs len v) : Im.veq v v = true := by
 cases base with
 | none => obtain ⟨rfl, _⟩ := h; rfl
 | some b =>
  obtain ⟨rfl, _⟩ := h
  show (Nat.beq b b && Nat.beq 0 0 && Nat.beq len len && Nat.beq UNK UNK) = true
  rw [FY rfl, FY rfl, FY rfl, FY rfl]; rfl
section
variable {s : A8} {b o : Nat} {H : Hist} {F : Nat → Prop} {tag : Nat → Nat} {cb pb lb eb : Option Nat} {E : List Nat} {lv ev : Value}
end
end Go.Im
