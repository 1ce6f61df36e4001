/- The ideal machine: its writers (but for calls) stand for the model's. -/
import Derived.Test.YtojbkocmobkddaaGreatDoorImS9
import Derived.Laws.AppendOwn
set_option linter.all false
namespace Go.Im
section
variable {X : Cx} {m : Map} {s : AA} {w : World} {env : Env} {a : Act}
theorem BH.simple {m : Map} {v v' : Value} (h : BH m v v') (hs : simple v = true) : (∀ l, v' ≠ .agg l) ∧ (∀ l, v' ≠ .tuple l) := by
 cases h <;> first | (simp [Go.Im.simple] at hs; done) | exact ⟨fun l => by simp, fun l => by simp⟩
theorem CJ.simple {m : Map} : ∀ {l l' : List Value}, CJ m l l' → Bh l = true → ∀ v' ∈ l', (∀ c, v' ≠ .agg c) ∧ (∀ c, v' ≠ .tuple c)
 | _, _, .nil, _ => fun v h => by simp at h
 | v :: l, _, .cons h t, hs => by
  have hs' : Go.Im.simple v = true ∧ Bh l = true := by
   unfold Bh at hs
   cases hv : Go.Im.simple v with
   | false => rw [hv] at hs; simp at hs
   | true => rw [hv] at hs; exact ⟨rfl, hs⟩
  intro v' hv'
  rcases List.mem_cons.1 hv' with rfl | hv'
  · exact h.simple hs'.1
  · exact t.simple hs'.2 v' hv'
theorem Qw {P : Program} {w : World} {g o : Nat} {cur : Array Value} {el : Nat} {fr : Nat × Nat} {v : Value} (hg : w.heap[g]? = some (.cells cur el fr)) (ho : o < cur.size)
 (hfr : (decide (fr.1 ≤ o) && decide (o < fr.2)) = false) (h1 : ∀ c, v ≠ .agg c) (h2 : ∀ c, v ≠ .tuple c) :
 (store ⟨g, o, none⟩ v).run P w = .ok () { w with heap := w.heap.setIfInBounds g (.cells (cur.setIfInBounds o v) el fr) } := by
 have hc : w.cell? ⟨g, o, none⟩ = some cur[o] := by rw [Lu hg]; simp [ho]
 have hf : w.frozen? ⟨g, o, none⟩ = false := by simp only [World.frozen?, hg]; exact hfr
 have hm : w.setCell ⟨g, o, none⟩ v = { w with heap := w.heap.setIfInBounds g (.cells (cur.setIfInBounds o v) el fr) } := by
  unfold World.setCell
  congr 1
  apply Array.ext'
  apply List.ext_getElem?
  intro i
  simp only [Array.getElem?_toList, Array.getElem?_modify, Array.getElem?_setIfInBounds]
  by_cases e : g = i
  · subst e
    have hlt : g < w.heap.size := by
     rcases Nat.lt_or_ge g w.heap.size with h | h
     · exact h
     · rw [Array.getElem?_eq_none h] at hg; simp at hg
    have hge := (Array.getElem?_eq_some_iff.1 hg).2
    simp [hlt, hge]
  · simp [e]
 unfold store
 cases v <;> first | exact absurd rfl (h1 _) | exact absurd rfl (h2 _) | (simp [Sem.run, hc, hf, hm])
theorem FK {P : Program} {g o el : Nat} {fr : Nat × Nat} : ∀ (vs : List Value) (i : Nat) (cur : Array Value) (w : World), w.heap[g]? = some (.cells cur el fr) →
 (∀ j : Nat, j < cur.size → (decide (fr.1 ≤ j) && decide (j < fr.2)) = false) → o + i + vs.length ≤ cur.size → (∀ v ∈ vs, (∀ c, v ≠ .agg c) ∧ (∀ c, v ≠ .tuple c)) →
 ∃ w', (storeCells ⟨g, o, none⟩ vs i).run P w = .ok () w' ∧ w'.heap.size = w.heap.size ∧ w'.heap[g]? = some (.cells ⟨cur.toList.take (o + i) ++ (vs ++ cur.toList.drop (o + i + vs.length))⟩ el fr) ∧
  (∀ k, k ≠ g → w'.heap[k]? = w.heap[k]?) ∧ w'.os = w.os ∧ w'.tape = w.tape ∧ w'.output = w.output
 | [], i, cur, w, hg, _, _, _ => ⟨w, by simp [storeCells], rfl, by rw [hg]; simp, fun _ _ => rfl, rfl, rfl, rfl⟩
 | v :: vs, i, cur, w, hg, hfr, hle, hv => by
  simp only [List.length_cons] at hle
  have hs := Qw (P := P) hg (show o + i < cur.size by omega) (hfr _ (by omega)) (hv v (by simp)).1 (hv v (by simp)).2
  have hlt : g < w.heap.size := by
   rcases Nat.lt_or_ge g w.heap.size with h | h
   · exact h
   · rw [Array.getElem?_eq_none h] at hg; simp at hg
  obtain ⟨w', h1, h2, h3, h4, h5, h6, h7⟩ := FK (P := P) (g := g) (o := o) (el := el) (fr := fr) vs (i + 1) (cur.setIfInBounds (o + i) v) { w with heap := w.heap.setIfInBounds g (.cells (cur.setIfInBounds (o + i) v) el fr) }
   (by simp [hlt]) (by simpa using hfr) (by simp; omega) (fun u hu => hv u (by simp [hu]))
  refine ⟨w', ?_, by simpa using h2, ?_, fun k hk => by rw [h4 k hk]; simp [Ne.symm hk], h5, h6, h7⟩
  · simp only [storeCells, Dj, Sem.run_bind, hs, Result.andThen]
    exact h1
  · rw [h3]
    have := foldl_set (o + i) [v] 0 cur (by simp; omega)
    simp only [List.zipIdx_cons, List.zipIdx_nil, List.foldl_cons, List.foldl_nil, Nat.add_zero, List.length_cons, List.length_nil, Nat.zero_add] at this
    have hl : (cur.toList.take (o + i)).length = o + i := by rw [List.length_take]; simp; omega
    have e1 : (cur.setIfInBounds (o + i) v).toList.take (o + (i + 1)) = cur.toList.take (o + i) ++ [v] := by
     rw [this, List.take_append, hl, List.take_of_length_le (by omega), show o + (i + 1) - (o + i) = 1 by omega]
     simp
    have e2 : (cur.setIfInBounds (o + i) v).toList.drop (o + (i + 1) + vs.length) = cur.toList.drop (o + i + (vs.length + 1)) := by
     rw [this, List.drop_append, hl, List.drop_of_length_le (by omega), show o + (i + 1) + vs.length - (o + i) = vs.length + 1 by omega]
     rw [List.nil_append, List.singleton_append, List.drop_succ_cons, List.drop_drop]
     congr 1; omega
    rw [e1, e2]
    simp
theorem WT {P : Program} (hR : Rl X m s w) {b o : Nat} {p : Place} {vs vs' : List Value} {s' : AA} (hm : m b = some p) (hv : s.wr b o vs = some s') (hr : CJ m vs vs') :
 ∃ w', (storeCells ⟨p.blk, p.sh + o, none⟩ vs').run P w = .ok () w' ∧ Rl X m s' w' ∧ Step m s w m s' w' ∧ w'.heap.size = w.heap.size := by
 unfold AA.wr Y6 at hv
 split at hv
 · next c el hs =>
   obtain ⟨c', el', fr, h1, hel, hsz, hlen, hc, hfr⟩ := hR.cells hm hs
   cases hsi : Bh vs with
   | false => rw [hsi] at hv; simp at hv
   | true =>
    rw [hsi] at hv
    simp only [cond_true] at hv
    unfold putCells at hv
    split at hv
    · next c1 hc1 =>
      have hv := (Option.some.inj hv).symm
      subst hv
      obtain ⟨hle, rfl⟩ := Ny hc1
      have hl := hr.length
      obtain ⟨w', e1, e2, e3, e4, e5, e6, e7⟩ := FK (P := P) (o := p.sh + o) vs' 0 c' w h1 (hfr rfl) (by omega) (hr.simple hsi)
      have htl : (c'.toList.take (p.sh + o + 0)).length = p.sh + o := by rw [List.length_take]; simp; omega
      have hnew : (c'.toList.take (p.sh + o + 0) ++ (vs' ++ c'.toList.drop (p.sh + o + 0 + vs'.length))).length = c'.size := by
       rw [List.length_append, htl, List.length_append, List.length_drop]; simp; omega
      refine ⟨w', e1, hR.put hm hs rfl w' e2 e3 e4 ?_, Rl.Ij hm hs rfl w' e2 e4 e5 e6 e7, e2⟩
      have hct : (c.take o).length = o := by rw [List.length_take]; omega
      refine .cells hel (by rw [hsz, ← hnew]; simp) (by simp; omega) (fun i v hi => ?_) (fun _ j hj => hfr rfl j (by rw [← hnew]; simpa using hj))
      simp only [List.getElem?_toArray]
      by_cases hio : i < o
      · rw [List.getElem?_append_left (by omega)] at hi
        rw [List.getElem?_take, if_pos hio] at hi
        obtain ⟨v', h2, h3⟩ := hc _ _ hi
        refine ⟨v', ?_, h3⟩
        rw [List.getElem?_append_left (by omega), List.getElem?_take, if_pos (by omega)]
        simpa using h2
      · rw [List.getElem?_append_right (by omega), hct] at hi
        by_cases hiv : i - o < vs.length
        · rw [List.getElem?_append_left hiv] at hi
          obtain ⟨v', h2, h3⟩ := hr.get _ _ hi
          refine ⟨v', ?_, h3⟩
          rw [List.getElem?_append_right (by omega), htl, List.getElem?_append_left (by omega), show p.sh + i - (p.sh + o) = i - o by omega]
          exact h2
        · rw [List.getElem?_append_right (by omega), List.getElem?_drop] at hi
          obtain ⟨v', h2, h3⟩ := hc _ _ hi
          refine ⟨v', ?_, h3⟩
          rw [List.getElem?_append_right (by omega), htl, List.getElem?_append_right (by omega), List.getElem?_drop]
          rw [Array.getElem?_toList, ← h2]
          congr 1
          show p.sh + o + 0 + vs'.length + (p.sh + i - (p.sh + o) - vs'.length) = p.sh + (o + vs.length + (i - o - vs.length))
          omega
    · simp at hv
 · simp at hv
structure Did (X : Cx) (m : Map) (s : AA) (w : World) (v : Value) (s' : AA) (v' : Value) (w' : World) : Prop where
 ex : ∃ m', Rl X m' s' w' ∧ Step m s w m' s' w' ∧ BH m' v v'
theorem Ik (m : Map) : BH m Bl undef := .tuple .nil
theorem lJ (hR : Rl X m s w) {t n : Nat} (hn : isz X.P t = some n) {v x v' x' r : Value} {s' : AA} (h : wSt s n v x = some (r, s')) (hv : BH m v v') (hx : BH m x x') :
 ∃ w', (Instr.storeAt t x' v').run X.P w = .ok () w' ∧ Did X m s w r s' undef w' := by
 cases hx <;> simp only [wSt] at h <;> try (simp at h; done)
 case ptr b o p hm =>
  cases hb : Nat.beq (cellsOf v).length n with
  | false => rw [hb] at h; simp at h
  | true =>
   rw [hb] at h
   simp only [cond_true, Ag] at h
   obtain ⟨s1, hs1, h⟩ := h
   have h := Option.some.inj h
   obtain ⟨rfl, rfl⟩ := Prod.mk.inj h
   have hc := Hu hv
   obtain ⟨w', h1, h2, h3, _⟩ := WT (P := X.P) hR hm hs1 hc
   have hl := hc.length
   have hs : v'.cells.size = n := by rw [← beq_iff.1 hb, hl]; simp
   refine ⟨w', ?_, ⟨⟨m, h2, h3, Ik m⟩⟩⟩
   simp [Instr.storeAt, Instr.sureAddr, storeVar, run_sizeOf hn, hs, h1]
theorem YP (s : ByteArray) (pos : Nat) (h : pos < (toL s).length) : JY s pos = Utf8.decode s pos := by
 unfold JY decB
 rw [Eu]
 have hlt : pos < s.size := h
 have : (toL s)[pos]? = some (s[pos]'hlt) := by
  rw [List.getElem?_eq_getElem h]; rfl
 rw [this]
 simp only
 cases hb : Nat.blt (s[pos]'hlt).toNat 128 with
 | false => rfl
 | true => exact (decode_ascii s pos hlt (Bq.1 hb)).symm
theorem gu (hR : Rl X m s w) {x x' r : Value} {s' : AA} {ty : Nat} (h : Uw s x = some (r, s')) (hx : BH m x x') :
 ∃ v' w', (Instr.next x' true ty).run X.P w = .ok v' w' ∧ Did X m s w r s' v' w' := by
 cases hx <;> simp only [Uw] at h <;> try (simp at h; done)
 case ptr b o p hm =>
  cases hb0 : Nat.beq o 0 with
  | false => rw [hb0] at h; simp at h
  | true =>
  have ho0 := beq_iff.1 hb0
  rw [hb0] at h
  simp only [cond_true] at h
  unfold Uu at h
  split at h
  · next t ps hs =>
    obtain ⟨o', h1, h2⟩ := hR.obj b p _ hm hs
    cases h2 with
    | iter _ _ hsh =>
     have ho : p.sh + o = 0 := by omega
     cases hb : Nat.blt ps (toL t).length with
     | false =>
      rw [hb] at h
      have h := Option.some.inj h
      obtain ⟨rfl, rfl⟩ := Prod.mk.inj h
      have hps : ¬ ps < t.size := fun hlt => by
       have : Nat.blt ps (toL t).length = true := Bq.2 hlt
       rw [hb] at this; simp at this
      refine ⟨.tuple #[.bool false], w, ?_, ⟨⟨m, hR, Step.refl _ _ _, .tuple (.cons (.bool false) .nil)⟩⟩⟩
      simp [Instr.next, ho, getObj, Sem.run, h1, hps]
     | true =>
      rw [hb] at h
      have h := Option.some.inj h
      obtain ⟨rfl, rfl⟩ := Prod.mk.inj h
      have hps : ps < t.size := Bq.1 hb
      refine ⟨_, { w with heap := w.heap.setIfInBounds p.blk (.stringIter t (ps + (JY t ps).2)) }, ?_, ⟨⟨m, hR.put hm hs rfl _ (by simp) ?_ (fun k hk => by simp [Ne.symm hk]) (.iter _ _ hsh), Rl.Ij hm hs rfl _ (by simp) (fun k hk => by simp [Ne.symm hk]) rfl rfl rfl, .tuple (.cons (.bool true) (.cons (.int _ _) (.cons (.int _ _) .nil)))⟩⟩⟩
      · simp [Instr.next, ho, getObj, setObj, Sem.run, h1, hps, YP t ps hps, goInt]
      · have := (hR.rng b p hm).1
        simp [this]
  · simp at h
end
end Go.Im
