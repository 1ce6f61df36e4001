/- The ideal machine: its readers (joined) and its allocators stand for the model's. -/
import Derived.Test.YtojbkocmobkddaaGreatDoorImS8
import Derived.Laws.MakeOwn
import Derived.Laws.RangeString
set_option linter.all false
namespace Go.Im
section
variable {X : Cx} {m : Map} {s : AA} {w : World} {env : Env} {a : Act}
theorem VI {TK : List Nat} {o : ROp} {op : Op} {dst : Option Nat} {type : Nat} {pos : String} {after : Array Edge} {guard : Option (Nat × Bool)}
 (hok : okR X.P X.G TK o op = true) {v : Value} (h : JR env s o = some v) (hE : CB m env a.tmps) (hR : Rl X m s w) :
 ∃ v', (execOp a.eval ⟨dst, op, type, pos, after, guard⟩).run X.P w = .ok (.value v') w ∧ BH m v v' := by
 have hG : OY X.G m := hR.glob
 unfold okR at hok
 split at hok
 · next x t y =>
   simp only [Bool.and_eq_true, decide_eq_true_eq] at hok
   obtain ⟨u, h1, h2⟩ := ob1 h
   obtain ⟨r', e1, e2⟩ := lH (P := X.P) hR hok.1 h2 (Bd hE hG hok.2 h1)
   exact ⟨r', by simp [execOp, e1], e2⟩
 · next n x t y =>
   simp only [Bool.and_eq_true, decide_eq_true_eq] at hok
   obtain ⟨u, h1, h2⟩ := ob1 h
   obtain ⟨r', e1, e2⟩ := gZ (P := X.P) hR hok.1.1 hok.1.2 h2 (Bd hE hG hok.2 h1)
   exact ⟨r', by simp [execOp, e1], e2⟩
 · next el n x lo hi mx t x' lo' hi' mx' =>
   split at hok
   · next e he =>
     simp only [Bool.and_eq_true, decide_eq_true_eq, Bool.or_eq_true] at hok
     obtain ⟨⟨⟨⟨⟨⟨rfl, h1⟩, hx⟩, hlo⟩, hhi⟩, hmx⟩, hc⟩ := hok
     replace h : ob (evO env lo) (fun l => ob (evO env hi) fun h => ob (evO env mx) fun m => ob (ev env x) (rSl s e n l h m)) = some v := h
     simp only [Ag] at h
     obtain ⟨l, el, hh, eh, mm, em, u, eu, h⟩ := h
     have hcc : mm.isSome = true → (hi'.map a.eval).isSome = true := by
      intro hmm
      rcases hc with hc | hc
      · cases mx with
        | none => simp [evO] at em; subst em; simp at hmm
        | some z => cases mx' <;> simp [Je] at hmx hc
      · cases hi' <;> simp at hc ⊢
     obtain ⟨r', e1, e2⟩ := lI (P := X.P) rfl hR (DT he) h1 hcc h (Bd hE hG hx eu) (JC hE hG hlo el) (JC hE hG hhi eh) (JC hE hG hmx em)
     exact ⟨r', by simp [execOp, e1], e2⟩
   · simp at hok
 · next x src dst y =>
   split at hok
   · next e he =>
     simp only [Bool.and_eq_true, decide_eq_true_eq] at hok
     obtain ⟨u, h1, h2⟩ := ob1 h
     obtain ⟨r', e1, e2⟩ := Z4 (P := X.P) hR (DT he) (Lp hok.1.1) (EM hok.1.2) h2 (Bd hE hG hok.2 h1)
     exact ⟨r', by simp [execOp, e1], e2⟩
   · simp at hok
 · simp at hok
theorem zeros_length (z : List Value) : ∀ n, (zeros z n).length = n * z.length
 | 0 => by simp [zeros]
 | n + 1 => by simp [zeros, zeros_length z n, Nat.add_mul]; omega
theorem RV (z : List Value) : ∀ (n i : Nat), i < n * z.length → (zeros z n)[i]? = z[i % z.length]?
 | 0, i, h => by simp at h
 | n + 1, i, h => by
  simp only [zeros]
  by_cases hi : i < z.length
  · rw [List.getElem?_append_left hi, Nat.mod_eq_of_lt hi]
  · rw [List.getElem?_append_right (by omega), RV z n _ (by rw [Nat.add_mul] at h; omega)]
    congr 1
    rw [← Nat.mod_eq_sub_mod (by omega)]
theorem PD {m : Map} {z : List Value} {z' : Array Value} (hz : CJ m z z'.toList) (n : Nat) : CJ m (zeros z n) (madeCells z' (n * z'.size)).toList := by
 have hl := hz.length
 simp at hl
 refine CJ.of (by simp [zeros_length, madeCells, hl]) fun i v hi => ?_
 have hin : i < n * z.length := by rw [← zeros_length]; exact (List.getElem?_eq_some_iff.1 hi).1
 rw [RV z n i hin] at hi
 obtain ⟨v', h1, h2⟩ := hz.get _ _ hi
 refine ⟨v', ?_, h2⟩
 rw [hl] at hin h1
 simp only [madeCells, Array.getElem?_toList, Array.getElem?_map]
 rw [Array.getElem?_range, if_pos hin]
 simp only [Option.map_some, Option.some.injEq]
 rw [Array.getElem?_toList] at h1
 obtain ⟨hlt, h1⟩ := Array.getElem?_eq_some_iff.1 h1
 rw [getElem!_pos z' _ hlt]
 exact h1
theorem Gt.new {m : Map} {c : List Value} {c' : Array Value} {k el el' esz : Nat} (he : isz X.P el = some esz) (h : CJ m c c'.toList) : Gt X m ⟨k, 0, c'.size, esz⟩ (.cells c el true) (.cells c' el' (0, 0)) := by
 refine .cells he (by simp) (by rw [h.length]; simp) (fun i v hi => ?_) (fun _ j _ => by simp)
 obtain ⟨v', h1, h2⟩ := h.get _ _ hi
 exact ⟨v', by simpa using h1, h2⟩
structure Laid (X : Cx) (m : Map) (s : AA) (w : World) (o : CX) (f : Nat → Value) (v' : Value) (w' : World) : Prop where
 ex : ∃ p o', p.blk = w.heap.size ∧ w'.heap = w.heap.push o' ∧ w'.os = w.os ∧ w'.tape = w.tape ∧ w'.output = w.output ∧ Gt X (m.add s.nx p) p o o' ∧ BH (m.add s.nx p) (f s.nx) v'
theorem JD {el el' esz : Nat} (hR : Rl X m s w) (he : isz X.P el = some esz) {c : List Value} {c' : Array Value} (hc : CJ m c c'.toList) {f : Nat → Value} {v' : Value} {d : Nat}
 (hf : ∀ p : Place, p.blk = w.heap.size → p.sh = 0 → p.csz = c'.size → p.esz = esz → BH (m.add s.nx p) (f s.nx) v') :
 Laid X m s w (.cells c el true) f v' { w with heap := w.heap.push (.cells c' el' (0, 0)), drawn := d } :=
 ⟨⟨w.heap.size, 0, c'.size, esz⟩, .cells c' el' (0, 0), rfl, rfl, rfl, rfl, rfl, Gt.new he (hc.mono (hR.Ew _)), hf _ rfl rfl rfl rfl⟩
theorem NJ (p : Place) (hs : p.sh = 0) : BH (m.add s.nx p) (ptrTo s.nx) (.pointer (some ⟨p.blk, 0, none⟩)) := by
 have := BH.ptr (m := m.add s.nx p) (b := s.nx) (o := 0) (p := p) (Map.add_same m s.nx p)
 rw [hs] at this
 exact this
theorem PE (p : Place) (hs : p.sh = 0) {l c : Nat} (hc : c < UNK) : BH (m.add s.nx p) (Bo l c s.nx) (.slice (some ⟨p.blk, 0, none⟩) l c) := by
 have := BH.slK (m := m.add s.nx p) (b := s.nx) (o := 0) (n := l) (c := c) (p := p) (Map.add_same m s.nx p) hc
 rw [hs] at this
 exact this
theorem RX {P : Program} {t : Nat} (h : (isz P t).isSome = true) : ∃ n, isz P t = some n := Option.isSome_iff_exists.1 h
theorem MC {m : Map} (l : List UInt8) : CJ m (Di l) (l.map fun b => Value.int .u8 b.toNat) := by
 induction l with
 | nil => exact .nil
 | cons b l ih => exact .cons (.int _ _) ih
set_option maxHeartbeats 4000000 in
theorem RY {o : AOp} {op : Op} {dst : Option Nat} {type : Nat} {pos : String} {after : Array Edge} {guard : Option (Nat × Bool)}
 (hok : okA X.P X.G o op = true) {ob' : CX} {f : Nat → Value} (h : Oo env o = some (ob', f)) (hE : CB m env a.tmps) (hR : Rl X m s w) :
 ∃ v' w', (execOp a.eval ⟨dst, op, type, pos, after, guard⟩).run X.P w = .ok (.value v') w' ∧ Laid X m s w ob' f v' w' := by
 have hG : OY X.G m := hR.glob
 unfold okA at hok
 split at hok
 · next el z el' =>
   simp only [Bool.and_eq_true, decide_eq_true_eq] at hok
   obtain ⟨⟨rfl, hs⟩, hz⟩ := hok
   obtain ⟨esz, he⟩ := RX hs
   split at hz
   · next zv hzv =>
     have h := Option.some.inj h
     obtain ⟨rfl, rfl⟩ := Prod.mk.inj h
     refine ⟨.pointer (some ⟨w.heap.size, 0, none⟩), _, ?_, JD (el' := el) (d := w.drawn) hR he (Gu (m := m) hz).2 fun p h1 h2 h3 h4 => by rw [← h1]; exact NJ p h2⟩
     simp [execOp, Instr.alloc, newVar, newRow, newObj, Sem.run, Eo hzv]
   · simp at hz
 · next el x el' y =>
   simp only [Bool.and_eq_true, decide_eq_true_eq] at hok
   obtain ⟨⟨rfl, hs⟩, hx⟩ := hok
   obtain ⟨esz, he⟩ := RX hs
   replace h : ob (ev env x) (fun v => some (CX.cells (cellsOf v) el true, ptrTo)) = some (ob', f) := h
   rw [Ag] at h
   obtain ⟨u, hu, h⟩ := h
   have h := Option.some.inj h
   obtain ⟨rfl, rfl⟩ := Prod.mk.inj h
   refine ⟨.pointer (some ⟨w.heap.size, 0, none⟩), _, ?_, JD (el' := el) (d := w.drawn) hR he (Hu (Bd hE hG hx hu)) fun p h1 h2 h3 h4 => by rw [← h1]; exact NJ p h2⟩
   simp [execOp, Instr.box, newVar, newRow, newObj, Sem.run]
 · next el z len ps t len' parts =>
   simp only [Bool.and_eq_true, decide_eq_true_eq] at hok
   obtain ⟨⟨ht, rfl⟩, hz⟩ := hok
   split at hz
   · next n zv hn hzv =>
     simp only [Bool.and_eq_true, decide_eq_true_eq] at hz
     obtain ⟨⟨⟨⟨hn0, hlim⟩, hz⟩, hzs⟩, hp⟩ := hz
     replace h : ob (evP env ps) (fun l => ob (fill (zeros z len) l) fun c => some (CX.cells c el true, Bo len len)) = some (ob', f) := h
     simp only [Ag] at h
     obtain ⟨l, hl, c, hf, h⟩ := h
     have h := Option.some.inj h
     obtain ⟨rfl, rfl⟩ := Prod.mk.inj h
     obtain ⟨l', rfl, hlen, hall⟩ := Tt hE hG hp hl
     have hz2 := PD (Gu (m := m) hz).2 len
     obtain ⟨c', h1, h2⟩ := P7 hlen hall hz2 hf
     rw [← P8] at h1
     have hlenU : len < UNK := by
      have : len * 1 ≤ len * n := Nat.mul_le_mul_left _ (by omega)
      show len < 9223372036854775808
      omega
     refine ⟨.slice (some ⟨w.heap.size, 0, none⟩) len len, _, ?_, JD (el' := el) (d := w.drawn) hR hn h2 fun p h1 h2 h3 h4 => by rw [← h1]; exact PE p h2 hlenU⟩
     have hlim' : ¬ (2 ^ 24 < len * n) := by omega
     have hzero : (if len * n = 0 then pure #[] else do pure (← zeroValue el).cells : Sem (Array Value)).run X.P w = .ok (if len * n = 0 then #[] else zv.cells) w := by
      split <;> simp [Eo hzv]
     have YO : ((Array.range (len * n)).map ((if len * n = 0 then #[] else zv.cells)[· % (if len * n = 0 then #[] else zv.cells).size]!)) = madeCells zv.cells (len * zv.cells.size) := by
      rw [hzs]
      by_cases e : len * n = 0
      · simp [e, madeCells, Array.range_zero']
      · simp only [e, if_false, madeCells]
     have hb : (Instr.buildSlice t len (parts.map fun (i, x) => (i, a.eval x))).run X.P w = .ok (.slice (some ⟨w.heap.size, 0, none⟩) len len) { w with heap := w.heap.push (.cells c' el (0, 0)) } := by
      unfold Instr.buildSlice
      rw [Sem.run_bind, run_underlying (DT ht)]
      simp only [Result.andThen]
      rw [Sem.run_bind, run_sizeOf hn]
      simp only [Result.andThen, if_neg hlim', Sem.run_bind, Sem.run_pure]
      split at hzero
      · next e0 =>
        simp only [e0, if_true] at YO h1 ⊢
        rw [Sem.run_bind, Sem.run_pure]
        simp only [Result.andThen]
        rw [YO, h1]
        simp [newRow, newObj, Sem.run]
      · next e0 =>
        simp only [e0, if_false] at YO h1 ⊢
        rw [Sem.run_bind, Eo hzv]
        simp only [Result.andThen]
        rw [Sem.run_bind, Sem.run_pure]
        simp only [Result.andThen]
        rw [YO, h1]
        simp [newRow, newObj, Sem.run]
     simp only [execOp]
     rw [Sem.run_bind, hb]
     rfl
   · simp at hz
 · next el z by_ l c t l' c' =>
   simp only [Bool.and_eq_true, decide_eq_true_eq] at hok
   obtain ⟨⟨ht, hb⟩, hz⟩ := hok
   split at hz
   · next n zv hn hzv =>
     simp only [Bool.and_eq_true, decide_eq_true_eq] at hz
     obtain ⟨⟨⟨⟨hn0, hz⟩, hzs⟩, hl⟩, hc⟩ := hz
     replace h : ev2 env l c (bG el z by_) = some (ob', f) := h
     obtain ⟨u, v, hu, hv, h⟩ := Em h
     have hru := Bd hE hG hl hu
     have hrv := Bd hE hG hc hv
     match u, v, h with
     | .int .i64 (.ofNat lu), .int .i64 (.ofNat cv), h =>
      simp only [bG] at h
      cases hcond : (Nat.ble lu cv && Nat.ble (Nat.mul cv by_) 140737488355328 && Nat.blt cv UNK) with
      | false => rw [hcond] at h; simp at h
      | true =>
       rw [hcond] at h
       have h := Option.some.inj h
       obtain ⟨rfl, rfl⟩ := Prod.mk.inj h
       simp only [Bool.and_eq_true] at hcond
       have h1 := Ae.1 hcond.1.1
       have h2 : cv * by_ ≤ 140737488355328 := Ae.1 hcond.1.2
       have h3 : cv < 9223372036854775808 := Bq.1 hcond.2
       obtain ⟨i, hi, his⟩ := Jk hn
       obtain ⟨i', hi', hiz⟩ := Kz hzv
       obtain rfl := Option.some.inj (hi.symm.trans hi')
       have hib : i.bytes = by_ := by
        simp only [iby, hi, Option.map_some, Option.some.injEq] at hb
        exact hb
       have hbb : (i.bytes : Int) * (cv : Int) ≤ 281474976710656 := by
        rw [hib, ← Int.natCast_mul, Nat.mul_comm]
        exact Int.ofNat_le.2 (Nat.le_trans h2 (by decide))
       have hrun := run_make (P := X.P) w t el i zv (DT ht) hi hiz .i64 .i64 lu cv (by omega) (by omega) hbb (by omega)
       refine ⟨.slice (some ⟨w.heap.size, 0, none⟩) lu cv, _, ?_, JD (el' := el) (c' := madeCells zv.cells (cv * zv.cells.size)) (d := w.drawn) hR hn (PD (Gu (m := m) hz).2 cv) fun p h1 h2 h4 h5 => by rw [← h1]; exact PE p h2 h3⟩
       have e1 : a.eval l' = .int .i64 lu := hru.Gf
       have e2 : a.eval c' = .int .i64 cv := hrv.Gf
       simp only [execOp, Sem.run_bind, e1, e2, hrun, Result.andThen, Sem.run_pure, Int.toNat_natCast, hzs, his]
       rfl
   · simp at hz
 · next el x src dst y =>
   simp only [Bool.and_eq_true, decide_eq_true_eq] at hok
   obtain ⟨⟨⟨⟨ht, he⟩, h8⟩, hs⟩, hx⟩ := hok
   replace h : ob (ev env x) (Ur el) = some (ob', f) := h
   rw [Ag] at h
   obtain ⟨u, hu, h⟩ := h
   have hr := Bd hE hG hx hu
   generalize hy : a.eval y = y' at hr
   cases hr <;> simp only [Ur] at h <;> try (simp at h; done)
   case string st =>
    have h := Option.some.inj h
    obtain ⟨rfl, rfl⟩ := Prod.mk.inj h
    obtain ⟨cap, hcapd⟩ : ∃ cap, cap = grownCap w st.size 0 el := ⟨_, rfl⟩
    have hcap : st.size ≤ cap := by rw [hcapd]; exact grownCap_ge w st.size 0 el
    obtain ⟨cs, hcsd⟩ : ∃ cs : Array Value, cs = st.data.map (fun b => Value.int .u8 b.toNat) ++ Array.replicate (cap - st.size) (.int .u8 0) := ⟨_, rfl⟩
    have hcs : cs.size = cap := by
     have : st.data.size = st.size := rfl
     simp only [hcsd, Array.size_append, Array.size_map, Array.size_replicate]; omega
    refine ⟨.slice (some ⟨w.heap.size, 0, none⟩) st.size cap, { w with heap := w.heap.push (.cells cs el (cs.size, cs.size + 1)), drawn := w.drawn + 1 }, ?_, ⟨⟨w.heap.size, 0, cs.size, 1⟩, .cells cs el (cs.size, cs.size + 1), rfl, rfl, rfl, rfl, rfl, ?_, ?_⟩⟩
    · have hm : ∀ (o' : Obj) (hh : Array Obj) (g : Obj → Obj), (hh.push o').modify hh.size g = hh.push (g o') := by
       intro o' hh g
       apply Array.ext
       · simp
       · intro i h1 h2
         simp only [Array.getElem_modify]
         by_cases e : hh.size = i
         · subst e; simp
         · rw [if_neg e, Array.getElem_push, Array.getElem_push, dif_pos (by simp at h2; omega), dif_pos (by simp at h2; omega)]
      have hsb : (Conv.stringToBytes el st).run X.P w = .ok (.slice (some ⟨w.heap.size, 0, none⟩) st.size cap) { w with heap := w.heap.push (.cells cs el (cs.size, cs.size + 1)), drawn := w.drawn + 1 } := by
       have hch : (choose (.appendCap st.size 0 el)).run X.P w = .ok cap { w with drawn := w.drawn + 1 } := by
        rw [hcapd]; simp [choose, Sem.run, Question.forced, grownCap]
       have hnr : (newRow el cs).run X.P { w with drawn := w.drawn + 1 } = .ok ⟨w.heap.size, 0, none⟩ { w with heap := w.heap.push (.cells cs el), drawn := w.drawn + 1 } := by
        simp [newRow, newObj, Sem.run]
        exact ⟨rfl, rfl, rfl⟩
       have hms : (markStringish ⟨w.heap.size, 0, none⟩).run X.P { w with heap := w.heap.push (.cells cs el), drawn := w.drawn + 1 } =
        .ok () { w with heap := w.heap.push (.cells cs el (cs.size, cs.size + 1)), drawn := w.drawn + 1 } := by
        simp [markStringish, shape, freeze, Sem.run, World.shape?, World.freeze, hm]
       simp only [Conv.stringToBytes, Sem.run_bind, hch, Result.andThen, ← hcsd, hnr, hms, Sem.run_pure]
      simp only [execOp, hy, convert, Sem.run_bind, run_underlying (EM hs), run_underlying (DT ht), run_underlying (Lp h8), Result.andThen, hsb, Sem.run_pure]
    · refine .cells he (by simp) (by show (Di (toL st)).length ≤ cs.size; rw [hcs, Di, List.length_map]; exact hcap) (fun i v hi => ?_) (fun _ j hj => by rw [decide_eq_false (show ¬ cs.size ≤ j by omega)]; rfl)
      obtain ⟨v', h1, h2⟩ := (MC (m := m.add s.nx ⟨w.heap.size, 0, cs.size, 1⟩) (toL st)).get _ _ hi
      refine ⟨v', ?_, h2⟩
      have hlt : i < st.data.size := by
       have := (List.getElem?_eq_some_iff.1 hi).1
       simpa [Di, toL] using this
      simp only [hcsd, Nat.zero_add]
      rw [Array.getElem?_append_left (by simpa using hlt)]
      rw [← h1]
      simp [toL]
    · have := BH.slU (m := m.add s.nx ⟨w.heap.size, 0, cs.size, 1⟩) (b := s.nx) (o := 0) (n := st.size) (c := cap) (p := ⟨w.heap.size, 0, cs.size, 1⟩) (Map.add_same _ _ _) (by simp [hcs]) (by simp) hcap
      simpa [Bo, Ky] using this
 · next x t y =>
   simp only [Bool.and_eq_true] at hok
   replace h : ob (ev env x) Us = some (ob', f) := h
   rw [Ag] at h
   obtain ⟨u, hu, h⟩ := h
   have hr := Bd hE hG hok.2 hu
   generalize hy : a.eval y = y' at hr
   cases hr <;> simp only [Us] at h <;> try (simp at h; done)
   case string st =>
    have h := Option.some.inj h
    obtain ⟨rfl, rfl⟩ := Prod.mk.inj h
    refine ⟨.pointer (some ⟨w.heap.size, 0, none⟩), w.iter st 0, ?_, ⟨⟨w.heap.size, 0, 0, 1⟩, .stringIter st 0, rfl, rfl, rfl, rfl, rfl, .iter st 0 rfl, NJ _ rfl⟩⟩
    simp [execOp, hy, run_range_string w t st (EM hok.1)]
 · next t =>
   have h := Option.some.inj h
   obtain ⟨rfl, rfl⟩ := Prod.mk.inj h
   refine ⟨.map (some w.heap.size), { w with heap := w.heap.push (.map ⟨[]⟩ 0) }, ?_, ⟨⟨w.heap.size, 0, 0, 1⟩, .map ⟨[]⟩ 0, rfl, rfl, rfl, rfl, rfl, .mp rfl trivial, ?_⟩⟩
   · simp [execOp, Instr.makeMap, newObj, Sem.run]
   · exact .map (p := ⟨w.heap.size, 0, 0, 1⟩) (Map.add_same _ _ _)
 · simp at hok
end
end Go.Im
