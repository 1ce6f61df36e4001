/- The ideal machine: its readers stand for the model's. -/
import Derived.Test.YtojbkocmobkddaaGreatDoorImS7
import Derived.Laws.Cells
import Derived.Laws.BytesString
set_option linter.all false
namespace Go.Im
section
variable {X : Cx} {m : Map} {s : AA} {w : World} {env : Env} {a : Act}
theorem Rl.cells (h : Rl X m s w) {b : Nat} {p : Place} {c : List Value} {el : Nat} {wr : Bool} (hm : m b = some p) (hs : s.get b = some (.cells c el wr)) :
 ∃ c' el' fr, w.heap[p.blk]? = some (.cells c' el' fr) ∧ isz X.P el = some p.esz ∧ p.sh + p.csz = c'.size ∧ c.length ≤ p.csz ∧
  (∀ (i : Nat) (v : Value), c[i]? = some v → ∃ v', c'[p.sh + i]? = some v' ∧ BH m v v') ∧ (wr = true → ∀ j : Nat, j < c'.size → (decide (fr.1 ≤ j) && decide (j < fr.2)) = false) := by
 obtain ⟨o', h1, h2⟩ := h.obj b p _ hm hs
 cases h2 with
 | cells hel hsz hlen hc hfr => exact ⟨_, _, _, h1, hel, hsz, hlen, hc, hfr⟩
theorem Lu {w : World} {g j : Nat} {c : Array Value} {t : Nat} {fr : Nat × Nat} (h : w.heap[g]? = some (.cells c t fr)) : w.cell? ⟨g, j, none⟩ = c[j]? := by
 simp [World.cell?, h]
theorem YN (h : Rl X m s w) {b o : Nat} {p : Place} {v : Value} (hm : m b = some p) (hv : s.rd1 b o = some v) : ∃ v', w.cell? ⟨p.blk, p.sh + o, none⟩ = some v' ∧ BH m v v' := by
 unfold AA.rd1 bC at hv
 split at hv
 · next c el wr hs =>
   obtain ⟨c', el', fr, h1, _, _, _, hc, _⟩ := h.cells hm hs
   rw [Eu] at hv
   obtain ⟨v', h2, h3⟩ := hc _ _ hv
   exact ⟨v', by rw [Lu h1]; exact h2, h3⟩
 · simp at hv
theorem L6 (h : Rl X m s w) {b o n : Nat} {p : Place} {l : List Value} (hm : m b = some p) (hv : s.rd b o n = some l) :
 ∃ l', CJ m l l' ∧ l.length = n ∧ ∀ j u, l'[j]? = some u → w.cell? ((⟨p.blk, p.sh + o, none⟩ : Addr).add j) = some u := by
 unfold AA.rd Iy at hv
 split at hv
 · next c el wr hs =>
   obtain ⟨c', el', fr, h1, _, _, _, hc, _⟩ := h.cells hm hs
   obtain ⟨hle, rfl⟩ := Jj hv
   have hlen : ((c.drop o).take n).length = n := by simp; omega
   have key : ∀ i v, ((c.drop o).take n)[i]? = some v → ∃ v', c'[p.sh + o + i]? = some v' ∧ BH m v v' := by
    intro i v hi
    rw [List.getElem?_take] at hi
    split at hi
    · rw [List.getElem?_drop] at hi
      obtain ⟨v', h2, h3⟩ := hc _ _ hi
      exact ⟨v', by rw [← h2]; congr 1; omega, h3⟩
    · simp at hi
   refine ⟨(List.range n).map (fun i => c'.getD (p.sh + o + i) Bl), ?_, hlen, ?_⟩
   · refine CJ.of (by simp [hlen]) fun i v hi => ?_
     obtain ⟨v', h2, h3⟩ := key i v hi
     have hin : i < n := by rw [← hlen]; exact (List.getElem?_eq_some_iff.1 hi).1
     refine ⟨v', ?_, h3⟩
     simp [hin, h2]
   · intro j u hj
     have hin : j < n := by
      have := (List.getElem?_eq_some_iff.1 hj).1
      simpa using this
     rw [Dj, Lu h1]
     obtain ⟨v', h2, h3⟩ := key j _ (List.getElem?_eq_getElem (by omega))
     simp [hin] at hj
     rw [h2] at hj ⊢
     simpa using hj
 · simp at hv
theorem FI {P : Program} (h : Rl X m s w) {b o n : Nat} {p : Place} {l : List Value} (hm : m b = some p) (hv : s.rd b o n = some l) :
 ∃ l', CJ m l l' ∧ l'.length = n ∧ (loadCells ⟨p.blk, p.sh + o, none⟩ n).run P w = .ok ⟨l'⟩ w := by
 obtain ⟨l', h1, h2, h3⟩ := L6 h hm hv
 have hl : l'.length = n := by rw [← h1.length, h2]
 refine ⟨l', h1, hl, ?_⟩
 rw [← hl]
 exact run_loadCells_list w _ l' h3
theorem P9 {P : Program} (a : Addr) (w : World) : (loadCells a 0).run P w = .ok #[] w := by simp [loadCells, loadCellsFrom]
theorem lH {P : Program} (h : Rl X m s w) {t : Nat} (ht : Kv P t = some false) {x x' r : Value} (hv : rLd s x = some r) (hx : BH m x x') : ∃ r', (Instr.loadAt t x').run P w = .ok r' w ∧ BH m r r' := by
 cases hx <;> simp only [rLd] at hv <;> try (simp at hv; done)
 case ptr b o p hm =>
  obtain ⟨r', h1, h2⟩ := YN h hm hv
  refine ⟨r', ?_, h2⟩
  simp [Instr.loadAt, Instr.sureAddr, loadVar, Gn ht, load, Sem.run, h1]
theorem gZ {P : Program} (h : Rl X m s w) {t n : Nat} (ht : Kv P t = some true) (hn : isz P t = some n) {x x' r : Value} (hv : DY s n x = some r) (hx : BH m x x') :
 ∃ r', (Instr.loadAt t x').run P w = .ok r' w ∧ BH m r r' := by
 cases hx <;> simp only [DY] at hv <;> try (simp at hv; done)
 case ptr b o p hm =>
  rw [Ag] at hv
  obtain ⟨l, hl, hv⟩ := hv
  simp at hv; subst hv
  obtain ⟨l', h1, _, h2⟩ := FI (P := P) h hm hl
  refine ⟨.agg ⟨l'⟩, ?_, .agg h1⟩
  simp [Instr.loadAt, Instr.sureAddr, loadVar, Gn ht, run_sizeOf hn, h2]
theorem MB : ∀ {l : List Value} {bs : List UInt8}, bytesOf l = some bs → ∃ ns : List Int, l = ns.map (Value.int .u8) ∧ bs = ns.map fun n => UInt8.ofNat n.toNat
 | [], bs, h => by simp [bytesOf] at h; subst h; exact ⟨[], rfl, rfl⟩
 | v :: l, bs, h => by
  match v, h with
  | .int .u8 n, h =>
   simp only [bytesOf, Ag] at h
   obtain ⟨b, hb, h⟩ := h
   simp at h; subst h
   obtain ⟨ns, rfl, rfl⟩ := MB hb
   exact ⟨n :: ns, rfl, rfl⟩
theorem foldl_push : ∀ (ns : List Int) (l : List UInt8), ns.foldl (fun (r : ByteArray) n => r.push (UInt8.ofNat n.toNat)) (ofL l) = ofL (l ++ ns.map fun n => UInt8.ofNat n.toNat)
 | [], l => by simp
 | n :: ns, l => by
  have : (ofL l).push (UInt8.ofNat n.toNat) = ofL (l ++ [UInt8.ofNat n.toNat]) := by
   apply Tj; simp [toL, ofL, ByteArray.push]
  simp only [List.foldl_cons, this, foldl_push ns, List.map_cons, List.append_assoc, List.singleton_append]
theorem CJ.ints {m : Map} : ∀ {ns : List Int} {l' : List Value}, CJ m (ns.map (Value.int .u8)) l' → l' = ns.map (Value.int .u8)
 | [], _, .nil => rfl
 | n :: ns, _, .cons h t => by rw [t.ints, h.Gf]; rfl
theorem Z4 {P : Program} (h : Rl X m s w) {src dst e : Nat} (hs : P.underlying src = some (.slice e)) (he : P.underlying e = some (.int .u8)) (hd : P.underlying dst = some .string) {x x' r : Value}
 (hv : Nu s x = some r) (hx : BH m x x') : ∃ r', (convert src dst x').run P w = .ok r' w ∧ BH m r r' := by
 have key : ∀ {b o len cap : Nat} {p : Place}, m b = some p → (ob (s.rd b o len) fun l => ob (bytesOf l) fun bs => some (Value.string (ofL bs))) = some r →
  ∃ r', (convert src dst (.slice (some ⟨p.blk, p.sh + o, none⟩) len cap)).run P w = .ok r' w ∧ BH m r r' := by
  intro b o len cap p hm h1
  simp only [Ag] at h1
  obtain ⟨l, hl, bs, hb, h1⟩ := h1
  simp at h1; subst h1
  obtain ⟨ns, rfl, rfl⟩ := MB hb
  obtain ⟨l', h2, _, h3⟩ := FI (P := P) h hm hl
  obtain rfl := h2.ints
  refine ⟨_, ?_, .string _⟩
  rw [run_convert_bytes_string w src dst e _ _ _ hs he hd, run_bytesToString w _ len cap ns h3]
  have := foldl_push ns []
  simp only [List.nil_append] at this
  rw [← this]; rfl
 cases hx <;> simp only [Nu] at hv <;> try (simp at hv; done)
 case sl0 =>
  simp at hv; subst hv
  refine ⟨_, ?_, .string _⟩
  rw [run_convert_bytes_string w src dst e _ _ _ hs he hd]
  simp [Conv.bytesToString]; rfl
 case slK b o n c p hm hc => exact key hm hv
 case slU b o n c p hm _ _ _ => exact key hm hv
 case slE ad c =>
  simp only [Ag] at hv
  obtain ⟨l, hl, bs, hb, h1⟩ := hv
  simp at h1; subst h1
  have hl0 : l = [] := by
   unfold AA.rd Iy at hl
   split at hl
   · obtain ⟨_, rfl⟩ := Jj hl; simp
   · simp at hl
  subst hl0
  simp [bytesOf] at hb; subst hb
  refine ⟨_, ?_, .string _⟩
  rw [run_convert_bytes_string w src dst e _ _ _ hs he hd, run_bytesToString w ad 0 c [] (P9 ad w)]
  rfl
theorem VH {P : Program} {t e n len cap b o : Nat} {p : Place} {l h mx l1 h1 m1 : Option Value} {r : Value} (hu : P.underlying t = some (.slice e)) (hn : isz P e = some n) (hm : m b = some p) (hcap : cap < UNK)
 (hmx : mx.isSome = true → h1.isSome = true) (hv : Ho ⟨b, o, none⟩ n len cap l h mx = some r) (rl : Ey m l l1) (rh : Ey m h h1) (rm : Ey m mx m1) :
 ∃ r', (Instr.slice t (.slice (some ⟨p.blk, p.sh + o, none⟩) len cap) l1 h1 m1).run P w = .ok r' w ∧ BH m r r' := by
 simp only [Ho, Ag] at hv
 obtain ⟨m', em, h', eh, l', el, hv⟩ := hv
 have hv := (Option.some.inj hv).symm
 subst hv
 have hb := Df (P := P) (w := w) (sl := true) hmx em eh el rm rh rl
 have hm' : m' ≤ cap := by
  rcases EY em rm with ⟨_, rfl⟩ | ⟨_, _, hk⟩
  · exact Nat.le_refl _
  · exact hk
 rw [Tv]
 refine ⟨_, ?_, BH.slK (o := if m' = l' then o else o + l' * n) hm (Nat.lt_of_le_of_lt (Nat.sub_le _ _) (Nat.lt_of_le_of_lt hm' hcap))⟩
 simp only [Instr.slice, Sem.run_bind, run_underlying hu, Result.andThen, hb, run_sizeOf hn, Sem.run_pure]
 by_cases e : m' = l'
 · simp [e]
 · simp [e, Dj, Nat.add_assoc]
theorem KX {P : Program} {t e n : Nat} {l1 h1 m1 : Option Value} (hu : P.underlying t = some (.slice e)) (hn : isz P e = some n) (hb : (Instr.sliceBounds true 0 0 l1 h1 m1).run P w = .ok (0, 0, 0) w) :
 (Instr.slice t (.slice none 0 0) l1 h1 m1).run P w = .ok (.slice none 0 0) w := by
 simp [Instr.slice, run_underlying hu, hb, run_sizeOf hn]
theorem Ob {o : Option Value} {k : Nat} (h : bound 0 0 o = some k) : k = 0 := by
 cases o with
 | none => simp [bound] at h; exact h.symm
 | some v =>
  simp only [bound, Ag] at h
  obtain ⟨j, _, h⟩ := h
  cases hb : Nat.ble j 0 with
  | false => rw [hb] at h; simp at h
  | true => rw [hb] at h; simp at h; have := Ae.1 hb; omega
theorem lI {P : Program} (hP : P = X.P) (h : Rl X m s w) {t e n : Nat} {l hh mx l1 h1 m1 : Option Value} {x x' r : Value} (hu : P.underlying t = some (.slice e)) (hn : isz P e = some n)
 (hmx : mx.isSome = true → h1.isSome = true) (hv : rSl s e n l hh mx x = some r) (hx : BH m x x') (rl : Ey m l l1) (rh : Ey m hh h1) (rm : Ey m mx m1) :
 ∃ r', (Instr.sliceAt t x' l1 h1 m1).run P w = .ok r' w ∧ BH m r r' := by
 subst hP
 have hsl : ∀ x', (Instr.sliceAt t x' l1 h1 m1).run X.P w = (Instr.slice t x' l1 h1 m1).run X.P w := fun x' => by simp [Instr.sliceAt, run_underlying hu]
 rw [hsl]
 cases hx <;> simp only [rSl] at hv <;> try (simp at hv; done)
 case sl0 =>
  cases mx with
  | none =>
   simp only [Ag] at hv
   obtain ⟨h', eh, l', el, hv⟩ := hv
   simp at hv; subst hv
   obtain rfl := Ob eh
   obtain rfl := Ob el
   refine ⟨_, KX hu hn (Df (P := X.P) (sl := true) (m' := 0) hmx rfl eh el rm rh rl), .sl0⟩
  | some v =>
   simp only [Ag] at hv
   obtain ⟨k, ek, hv⟩ := hv
   cases hb : Nat.beq k 0 with
   | false => rw [hb] at hv; simp at hv
   | true =>
    rw [hb] at hv
    simp only [cond_true, Ag] at hv
    obtain ⟨h', eh, l', el, hv⟩ := hv
    simp at hv; subst hv
    obtain rfl := Ob eh
    obtain rfl := Ob el
    have hk := beq_iff.1 hb
    subst hk
    refine ⟨_, KX hu hn (Df (P := X.P) (sl := true) (m' := 0) hmx (by simp [bound, ek]; rfl) eh el rm rh rl), .sl0⟩
 case slK b o len cap p hm hc =>
  have : Nat.blt cap UNK = true := Bq.2 hc
  rw [this] at hv
  exact VH hu hn hm hc hmx hv rl rh rm
 case slE ad c =>
  rw [show Nat.blt UNE UNK = false from rfl, show Nat.beq UNE UNE = true from Nat.beq_refl _] at hv
  simp at hv
 case slU b o len c p hm hc hz hln =>
  rw [show Nat.blt UNK UNK = false from rfl, show Nat.beq UNK UNE = false from rfl] at hv
  simp only [cond_false] at hv
  unfold RH at hv
  split at hv
  · next cs el0 wr hs =>
    cases hb0 : Nat.beq el0 e with
    | false => rw [hb0] at hv; simp at hv
    | true =>
     rw [hb0] at hv
     have he := beq_iff.1 hb0
     subst he
     simp only [cond_true] at hv
     obtain ⟨c', el', fr, _, hel, hsz, hlen, _, _⟩ := h.cells hm hs
     have hen : p.esz = n := Option.some.inj (hel.symm.trans hn)
     rw [hen] at hc hz
     cases mx with
     | some v =>
      simp only [Om, Ag] at hv
      obtain ⟨m', em, hv⟩ := hv
      cases hb : Nat.ble (Nat.add o (Nat.mul m' n)) cs.length with
      | false => rw [hb] at hv; simp at hv
      | true =>
       rw [hb] at hv
       have hle : o + m' * n ≤ cs.length := Ae.1 hb
       have hmc : m' ≤ c := by
        have : m' * n ≤ c * n := by omega
        exact Nat.le_of_mul_le_mul_right this hz
       simp only [cond_true] at hv
       cases hbU : Nat.blt m' UNK with
       | false => rw [hbU] at hv; simp at hv
       | true =>
       rw [hbU] at hv
       simp only [cond_true] at hv
       have hUNK : m' < UNK := Bq.1 hbU
       simp only [Ho, Ag] at hv
       obtain ⟨m2, em2, h', eh, l', el, hv⟩ := hv
       have em2 : m' = m2 := by simpa [bound] using em2
       subst em2
       have hv := (Option.some.inj hv).symm
       subst hv
       have hb := Df (P := X.P) (w := w) (sl := true) (cap := c) (mx := some v) hmx (by simp [bound, em, Ae.2 hmc]) eh el rm rh rl
       rw [Tv]
       refine ⟨_, ?_, BH.slK (o := if m' = l' then o else o + l' * n) hm (Nat.lt_of_le_of_lt (Nat.sub_le _ _) hUNK)⟩
       simp only [Instr.slice, Sem.run_bind, run_underlying hu, Result.andThen, hb, run_sizeOf hn, Sem.run_pure]
       by_cases e : m' = l'
       · simp [e]
       · simp [e, Dj, Nat.add_assoc]
     | none =>
      simp only [Om, Ag] at hv
      obtain ⟨h', eh, l', el, hv⟩ := hv
      have hkc : (cs.length - o) / n ≤ c := by
       have : (cs.length - o) / n ≤ (c * n) / n := Nat.div_le_div_right (by omega)
       rwa [Nat.mul_div_cancel _ hz] at this
      have eh2 : bound len c hh = some h' := by
       cases hh with
       | none => exact eh
       | some u =>
        simp only [bound, Ag] at eh ⊢
        obtain ⟨j, ej, eh⟩ := eh
        refine ⟨j, ej, ?_⟩
        cases hb : Nat.ble j (Nat.div (Nat.sub cs.length o) n) with
        | false => rw [hb] at eh; simp at eh
        | true =>
         rw [hb] at eh
         have hj : j ≤ (cs.length - o) / n := Ae.1 hb
         rw [show Nat.ble j c = true from Ae.2 (Nat.le_trans hj hkc)]
         exact eh
      have hb := Df (P := X.P) (w := w) (sl := true) (cap := c) (len := len) (mx := none) (m' := c) hmx rfl eh2 el rm rh rl
      have hrun : (Instr.slice t (.slice (some ⟨p.blk, p.sh + o, none⟩) len c) l1 h1 m1).run X.P w =
       .ok (.slice (some (if c = l' then (⟨p.blk, p.sh + o, none⟩ : Addr) else ⟨p.blk, p.sh + (o + l' * n), none⟩)) (h' - l') (c - l')) w := by
       simp only [Instr.slice, Sem.run_bind, run_underlying hu, Result.andThen, hb, run_sizeOf hn, Sem.run_pure]
       by_cases e : c = l'
       · simp [e]
       · simp [e, Dj, Nat.add_assoc]
      rw [hrun]
      have hh' : h' ≤ c := by
       rcases EY eh2 rh with ⟨_, rfl⟩ | ⟨_, _, hk⟩
       · exact hln
       · exact hk
      have hl' : l' ≤ h' := by
       rcases EY el rl with ⟨_, rfl⟩ | ⟨_, _, hk⟩
       · exact Nat.zero_le _
       · exact hk
      refine ⟨_, rfl, ?_⟩
      cases hb1 : Nat.beq l' 0 with
      | true =>
       rw [hb1] at hv
       have hl0 := beq_iff.1 hb1
       subst hl0
       simp at hv; subst hv
       simp only [Nat.zero_mul, Nat.add_zero, Nat.sub_zero, ite_self]
       exact .slU hm (by rw [hen]; exact hc) (by rw [hen]; exact hz) hh'
      | false =>
       rw [hb1] at hv
       simp only [cond_false] at hv
       cases hb2 : Nat.blt (Nat.add o (Nat.mul l' n)) cs.length with
       | true =>
        rw [hb2] at hv
        have hlt : o + l' * n < cs.length := Bq.1 hb2
        have hv := (Option.some.inj hv).symm
        subst hv
        have hne : c ≠ l' := by
         intro e; subst e; omega
        rw [if_neg hne]
        refine BH.slU (o := o + l' * n) hm ?_ (by rw [hen]; exact hz) (Nat.sub_le_sub_right hh' _)
        rw [hen, Nat.sub_mul]
        have : l' * n ≤ c * n := Nat.mul_le_mul_right _ (by omega)
        omega
       | false =>
        rw [hb2] at hv
        simp only [cond_false] at hv
        cases hb3 : Nat.beq h' l' with
        | false => rw [hb3] at hv; simp at hv
        | true =>
         rw [hb3] at hv
         have e3 := beq_iff.1 hb3
         subst e3
         simp at hv; subst hv
         rw [Nat.sub_self]
         exact .slE _ _
  · simp at hv
end
end Go.Im
