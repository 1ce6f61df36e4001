/- The ideal machine: append and stores, joined. -/
import Derived.Test.YtojbkocmobkddaaGreatDoorImS11
set_option linter.all false
namespace Go.Im
section
variable {X : Cx} {m : Map} {s : AA} {w : World} {env : Env} {a : Act}
theorem PG (hR : Rl X m s w) {el n need : Nat} (hn : isz X.P el = some n) (hn0 : 0 < n) {old news old' news' rest : List Value} (ho : CJ m old old') (hnw : CJ m news news') {c : Nat} (hc : need ≤ c)
 (hlen : old.length + news.length = need * n) (hrest : rest.length = (c - need) * n) {el' d : Nat} :
 Did X m s w (Dt s el need old news).1 (Dt s el need old news).2 (.slice (some ⟨w.heap.size, 0, none⟩) need c) { w with heap := w.heap.push (.cells ⟨old' ++ (news' ++ rest)⟩ el' (0, 0)), drawn := d } := by
 have hcz : (⟨old' ++ (news' ++ rest)⟩ : Array Value).size = c * n := by
  simp only [List.size_toArray, List.length_append, ← ho.length, ← hnw.length, hrest]
  have h1 : need * n ≤ c * n := Nat.mul_le_mul_right _ hc
  have h2 : (c - need) * n = c * n - need * n := Nat.sub_mul ..
  omega
 let p : Place := ⟨w.heap.size, 0, (⟨old' ++ (news' ++ rest)⟩ : Array Value).size, n⟩
 have hle := hR.Ew p
 have hrel : Gt X (m.add s.nx p) p (.cells (old ++ news) el true) (.cells ⟨old' ++ (news' ++ rest)⟩ el' (0, 0)) := by
  refine .cells hn (by simp [p]) ?_ (fun i v hi => ?_) (fun _ j _ => by simp)
  · simp only [p, hcz, List.length_append, hlen]; exact Nat.mul_le_mul_right _ hc
  · have h1 := ((ho.append hnw).mono hle).get _ _ hi
    obtain ⟨v', h1, h2⟩ := h1
    refine ⟨v', ?_, h2⟩
    simp only [p, Nat.zero_add, List.getElem?_toArray]
    rw [← List.append_assoc, List.getElem?_append_left (List.getElem?_eq_some_iff.1 h1).1]
    exact h1
 refine ⟨⟨m.add s.nx p, hR.new _ _ p rfl _ rfl hrel, hR.P5 _ _ p rfl _ rfl rfl rfl rfl, ?_⟩⟩
 have := BH.slU (m := m.add s.nx p) (b := s.nx) (o := 0) (n := need) (c := c) (p := p) (Map.add_same _ _ _) (by simp only [p, hcz, Nat.zero_add]) hn0 hc
 simpa [Dt, p] using this
set_option maxHeartbeats 1000000 in
theorem Z5 (hR : Rl X m s w) {b o el n len need c : Nat} {p : Place} {cs old news news' : List Value} (hm : m b = some p) (hs : s.get b = some (.cells cs el true)) (hn : isz X.P el = some n) (hn0 : 0 < n) (hpn : p.esz = n)
 (hc : o + c * n = p.csz) (hneed : need ≤ c) (hold : sub cs o (len * n) = some old) (hnw : CJ m news news') (hsi : Bh news = true) (hk : len * n + news.length = need * n) :
 ∃ w', (storeCells ((⟨p.blk, p.sh + o, none⟩ : Addr).add (len * n)) news').run X.P w = .ok () w' ∧
  Did X m s w (Dt (s.put b .dead) el need old news).1 (Dt (s.put b .dead) el need old news).2 (.slice (some ⟨p.blk, p.sh + o, none⟩) need c) w' := by
 obtain ⟨c', el', fr, h1, hel, hsz, hlen, hcc, hfr⟩ := hR.cells hm hs
 obtain ⟨hle, rfl⟩ := Jj hold
 have hnl := hnw.length
 have hcn : need * n ≤ c * n := Nat.mul_le_mul_right _ hneed
 obtain ⟨w', e1, e2, e3, e4, e5, e6, e7⟩ := FK (P := X.P) (o := p.sh + o + len * n) news' 0 c' w h1 (hfr rfl) (by omega) (hnw.simple hsi)
 refine ⟨w', by rw [Dj]; exact e1, ?_⟩
 have hrng := hR.rng b p hm
 let q : Place := ⟨p.blk, p.sh + o, c * n, n⟩
 have hle2 := hR.Ew q
 have htl : (c'.toList.take (p.sh + o + len * n + 0)).length = p.sh + o + len * n := by rw [List.length_take]; simp; omega
 have hnew : (c'.toList.take (p.sh + o + len * n + 0) ++ (news' ++ c'.toList.drop (p.sh + o + len * n + 0 + news'.length))).length = c'.size := by
  rw [List.length_append, htl, List.length_append, List.length_drop]; simp; omega
 have holdl : ((cs.drop o).take (len * n)).length = len * n := by rw [List.length_take, List.length_drop]; omega
 have hrel : Gt X (m.add s.nx q) q (.cells ((cs.drop o).take (len * n) ++ news) el true) (.cells ⟨c'.toList.take (p.sh + o + len * n + 0) ++ (news' ++ c'.toList.drop (p.sh + o + len * n + 0 + news'.length))⟩ el' fr) := by
  refine .cells hn ?_ ?_ (fun i v hi => ?_) (fun _ j hj => hfr rfl j (by rw [← hnew]; simpa using hj))
  · rw [List.size_toArray, hnew]; simp only [q]; omega
  · rw [List.length_append, holdl]; simp only [q]; omega
  · simp only [q, List.getElem?_toArray]
    by_cases hi1 : i < len * n
    · rw [List.getElem?_append_left (by omega), List.getElem?_take, if_pos hi1, List.getElem?_drop] at hi
      obtain ⟨v', h2, h3⟩ := hcc _ _ hi
      refine ⟨v', ?_, h3.mono hle2⟩
      rw [List.getElem?_append_left (by omega), List.getElem?_take, if_pos (by omega), Array.getElem?_toList, ← h2]
      congr 1; omega
    · rw [List.getElem?_append_right (by omega), holdl] at hi
      have hin := (List.getElem?_eq_some_iff.1 hi).1
      obtain ⟨v', h2, h3⟩ := hnw.get _ _ hi
      refine ⟨v', ?_, h3.mono hle2⟩
      rw [List.getElem?_append_right (by omega), htl, List.getElem?_append_left (by omega), ← h2]
      congr 1; omega
 have hget : ∀ b1, ((s.put b .dead).new (.cells ((cs.drop o).take (len * n) ++ news) el true)).get b1 = if b1 = s.nx then some (.cells ((cs.drop o).take (len * n) ++ news) el true) else if b1 = b then some .dead else s.get b1 := by
  intro b1
  rw [AA.Ak, AA.get_put]; rfl
 refine ⟨⟨m.add s.nx q, ⟨?_, ?_, ?_, ?_, ?_⟩, ⟨hle2, ?_, ?_, ?_, e5, e6, e7, ?_, ?_, ?_⟩, ?_⟩⟩
 · intro b1 p1 o1 hb1 ho1
   replace ho1 := (hget b1).symm.trans ho1
   by_cases e : b1 = s.nx
   · subst e
     rw [if_pos rfl] at ho1
     obtain rfl := Option.some.inj ho1
     rw [Map.add_same] at hb1
     obtain rfl := Option.some.inj hb1
     exact ⟨_, e3, hrel⟩
   · rw [if_neg e] at ho1
     rw [Map.add_ne _ _ e] at hb1
     have hr1 := hR.rng b1 p1 hb1
     by_cases eb : b1 = b
     · rw [if_pos eb] at ho1
       obtain rfl := Option.some.inj ho1
       exact ⟨w'.heap[p1.blk]'(by omega), by rw [Array.getElem?_eq_getElem], .dead _⟩
     · rw [if_neg eb] at ho1
       by_cases hd : o1 = .dead
       · subst hd
         exact ⟨w'.heap[p1.blk]'(by omega), by rw [Array.getElem?_eq_getElem], .dead _⟩
       · obtain ⟨o2, h2, h3⟩ := hR.obj b1 p1 o1 hb1 ho1
         refine ⟨o2, ?_, h3.mono hle2⟩
         rw [e4 _ fun ee => eb (hR.inj b b1 p p1 _ o1 hm hb1 hs ho1 rfl hd ee.symm).symm]; exact h2
 · intro b1 p1 hb1
   by_cases e : b1 = s.nx
   · subst e
     rw [Map.add_same] at hb1
     obtain rfl := Option.some.inj hb1
     exact ⟨by simp only [q]; omega, by simp [Dt]⟩
   · rw [Map.add_ne _ _ e] at hb1
     have := hR.rng b1 p1 hb1
     exact ⟨by omega, by simp [Dt]; omega⟩
 · intro b1 b2 p1 p2 o1 o2 hb1 hb2 ho1 ho2 hd1 hd2 he
   replace ho1 := (hget b1).symm.trans ho1
   replace ho2 := (hget b2).symm.trans ho2
   have key : ∀ b1 p1 o1, (m.add s.nx q) b1 = some p1 → (if b1 = s.nx then some (CX.cells ((cs.drop o).take (len * n) ++ news) el true) else if b1 = b then some .dead else s.get b1) = some o1 → o1 ≠ .dead →
    (b1 = s.nx ∧ p1.blk = p.blk) ∨ (b1 ≠ s.nx ∧ b1 ≠ b ∧ m b1 = some p1 ∧ s.get b1 = some o1) := by
    intro b1 p1 o1 hb1 ho1 hd1
    by_cases e : b1 = s.nx
    · subst e
      rw [Map.add_same] at hb1
      obtain rfl := Option.some.inj hb1
      exact .inl ⟨rfl, rfl⟩
    · rw [if_neg e] at ho1
      rw [Map.add_ne _ _ e] at hb1
      by_cases eb : b1 = b
      · rw [if_pos eb] at ho1
        exact absurd (Option.some.inj ho1).symm hd1
      · rw [if_neg eb] at ho1
        exact .inr ⟨e, eb, hb1, ho1⟩
   rcases key b1 p1 o1 hb1 ho1 (fun e => by rw [e] at hd1; cases hd1) with ⟨e1', f1⟩ | ⟨e1', f1, g1, i1⟩ <;> rcases key b2 p2 o2 hb2 ho2 hd2 with ⟨e2', f2⟩ | ⟨e2', f2, g2, i2⟩
   · omega
   · exact absurd (hR.inj b b2 p p2 _ o2 hm g2 hs i2 rfl hd2 (by omega)).symm f2
   · exact absurd (hR.inj b1 b p1 p o1 _ g1 hm i1 hs hd1 (by simp) (by omega)) f1
   · exact hR.inj b1 b2 p1 p2 o1 o2 g1 g2 i1 i2 hd1 hd2 he
 · intro g hg
   obtain ⟨p1, h2, h3⟩ := hR.glob g hg
   exact ⟨p1, hle2 g p1 h2, h3⟩
 · refine hR.fix.frame (fun x hx => e4 _ fun e => (hR.fix x hx).2 b p hm e.symm) fun b1 q1 hb1 => ?_
   by_cases e : b1 = s.nx
   · subst e
     rw [Map.add_same] at hb1
     obtain rfl := Option.some.inj hb1
     exact .inl ⟨b, p, hm, rfl⟩
   · rw [Map.add_ne _ _ e] at hb1
     exact .inl ⟨b1, q1, hb1, rfl⟩
 · simp [Dt]
 · intro b1 p1 hb1 hlt
   rw [Map.add_ne _ _ (by omega)] at hb1
   exact hb1
 · omega
 · intro k hk ht
   exact e4 k fun e => ht ⟨b, p, _, hm, hs, rfl, e.symm⟩
 · rintro k hk ⟨b1, p1, o1, hb1, ho1, ht, rfl⟩
   replace ho1 := (hget b1).symm.trans ho1
   by_cases e : b1 = s.nx
   · subst e
     rw [Map.add_same] at hb1
     obtain rfl := Option.some.inj hb1
     exact ⟨b, p, _, hm, hs, rfl, rfl⟩
   · rw [if_neg e] at ho1
     rw [Map.add_ne _ _ e] at hb1
     by_cases eb : b1 = b
     · rw [if_pos eb] at ho1
       obtain rfl := Option.some.inj ho1
       simp [CX.turns] at ht
     · rw [if_neg eb] at ho1
       exact ⟨b1, p1, o1, hb1, ho1, ht, rfl⟩
 · intro b1 p1 hb1 hlt
   by_cases e : b1 = s.nx
   · subst e
     rw [Map.add_same] at hb1
     obtain rfl := Option.some.inj hb1
     exact ⟨b, p, hm, rfl⟩
   · rw [Map.add_ne _ _ e] at hb1
     exact ⟨b1, p1, hb1, rfl⟩
 · have := BH.slU (m := m.add s.nx q) (b := s.nx) (o := 0) (n := need) (c := c) (p := q) (Map.add_same _ _ _) (by simp [q]) hn0 hneed
   simpa [Dt, q] using this
end
end Go.Im
