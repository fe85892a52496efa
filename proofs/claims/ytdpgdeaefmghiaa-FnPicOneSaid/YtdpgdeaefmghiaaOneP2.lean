/- A part of the proof's own kit: symbolic walks over the model (SxI, SxJ, SxK, SxL, SxM, SxN, SxO, SxOa, SxP). No statement of the seat stands here. -/
import Derived.Test.YtdpgdeaefmghiaaOneP1
import Derived.Laws.BytesString
import Derived.Laws.Slices
set_option linter.unusedSimpArgs false
set_option linter.unusedVariables false
/- Composite literals and append. -/
namespace Go.Proofs.Ytdpgdeaefmghiaa.Sx
section
variable {C : Cfg} {E : Entry} {env : List X} {obs : List (Option Ob)} {a : Act} {w : World} {γ : Nat → Option Nat} {I : Nat → Prop} {L : Nat → Option Ob} {P : Program}
theorem fold_over (off : Nat) : ∀ (l : List Value) (k : Nat) (cells : Array Value), off + k + l.length ≤ cells.size →
    ((l.zipIdx k).foldl (fun (cs : Array Value) (x : Value × Nat) => cs.setIfInBounds (off + x.2) x.1) cells) = (over (off + k) l cells.toList).toArray
  | [], k, cells, _ => by simp [over]
  | v :: l, k, cells, h => by
    simp only [List.zipIdx_cons, List.foldl_cons]
    simp only [List.length_cons] at h
    rw [fold_over off l (k + 1) _ (by simp; omega)]
    congr 1
    apply List.ext_getElem?
    intro j
    rw [over_get (by simp; omega), over_get (by simp; omega)]
    simp only [Array.toList_setIfInBounds, List.getElem?_set, List.length_cons, Array.length_toList]
    by_cases c1 : j < off + k
    · rw [if_pos (by omega), if_pos c1, if_neg (by omega)]
    · rw [if_neg c1]
      by_cases c2 : j = off + k
      · subst c2
        rw [if_pos (by omega), if_pos rfl, if_pos (by omega), if_pos (by omega)]; simp
      · rw [if_neg (by omega)]
        by_cases c3 : j < off + k + (l.length + 1)
        · rw [if_pos (by omega), if_pos c3, show j - (off + k) = (j - (off + (k + 1))) + 1 by omega]; rfl
        · rw [if_neg (by omega), if_neg c3, if_neg (by omega)]
theorem fill_step {place : Nat → Option (Nat × Nat)} {cells : Array Value} {i : Nat} {v : Value} {rest : List (Nat × Value)} {off size : Nat} (hp : place i = some (off, size)) (hs : v.cells.size = size) (hb : off + size ≤ cells.size) :
    Instr.fill place cells ((i, v) :: rest) = Instr.fill place (over off v.cells.toList cells.toList).toArray rest := by
  simp only [Instr.fill, hp]
  rw [if_neg (by simp [hs]; omega)]
  have := fold_over off v.cells.toList 0 cells (by simp [hs]; omega)
  simp only [Nat.add_zero] at this
  rw [← this]
  congr 1
  rw [← Array.foldl_toList]; simp
/-- The parts of a slice literal. -/
noncomputable def partsK (C : Cfg) (env : List X) (obs : List (Option Ob)) (T : Ty) (len : Nat) : List (Nat × Operand) → List T.D → (List T.D → Prop) → Prop
  | [], xs, K => K xs
  | p :: ps, xs, K => opdK C env p.2 fun x => cellsK obs x fun cs => match dec T cs with
    | some y => match Nat.blt p.1 len with
      | true => setK xs p.1 y fun xs => partsK C env obs T len ps xs K
      | false => False
    | none => False
theorem parts_sound (h : SimG C E ⟨env, obs⟩ a w γ I) {T : Ty} {len : Nat} {K : List T.D → Prop} : ∀ (ps : List (Nat × Operand)) (xs : List T.D) (cells : Array Value), xs.length = len → cells.size = len * T.size → Rel (VR γ I w (lk obs)) (flat T xs) cells.toList → partsK C env obs T len ps xs K →
    ∃ ys cells', K ys ∧ ys.length = len ∧ cells'.size = len * T.size ∧ Rel (VR γ I w (lk obs)) (flat T ys) cells'.toList ∧ Instr.fill (fun i => some (i * T.size, T.size)) cells (ps.map fun p => (p.1, a.eval p.2)) = some cells'
  | [], xs, cells, h1, h2, h3, hK => ⟨xs, cells, hK, h1, h2, h3, rfl⟩
  | p :: ps, xs, cells, h1, h2, h3, hK => by
    rw [partsK, opdK_eq] at hK
    obtain ⟨cs, hK, hlen, hrel, hone, hst⟩ := cells_sound (opd_sound h p.2) hK
    split at hK
    · rename_i y hy
      split at hK
      · rename_i hb
        have hb : p.1 < len := Nat.le_of_ble_eq_true hb
        rw [setK_eq] at hK
        obtain ⟨hl, hsz⟩ := dec_le hy
        have hm : (p.1 + 1) * T.size ≤ len * T.size := Nat.mul_le_mul_right _ (by omega)
        rw [Nat.add_mul, Nat.one_mul] at hm
        have hvs : (a.eval p.2).cells.size = T.size := by have := hlen; simp only [Array.length_toList] at this; omega
        have hnew : Rel (VR γ I w (lk obs)) (enc T y) (a.eval p.2).cells.toList := Rel.le hrel hl
        have hov := Rel.over (n := p.1 * T.size) (new := enc T y) (vs := (a.eval p.2).cells.toList) (old := flat T xs) (us := cells.toList) (by rw [enc_length]; simpa using hvs) (by rw [enc_length, flat_length, h1]; omega) (by rw [enc_length]; simp; omega) hnew h3
        rw [← flat_set (by omega)] at hov
        obtain ⟨ys, cells', hK, h4, h5, h6, h7⟩ := parts_sound h ps (xs.set p.1 y) (over (p.1 * T.size) (a.eval p.2).cells.toList cells.toList).toArray (by simpa using h1) (by
          rw [List.size_toArray, over_length (by simp [hvs]; omega)]; simpa using h2) (by simpa using hov) hK
        refine ⟨ys, cells', hK, h4, h5, h6, ?_⟩
        rw [List.map_cons, fill_step rfl hvs (by omega)]
        exact h7
      · exact hK.elim
    · exact hK.elim
theorem run_buildSlice {t e : TypeId} {len : Nat} {parts : Array (Nat × Value)} {ie : TypeInfo} {zv : Value} {cells' : Array Value} (hu : P.underlying t = some (.slice e)) (hie : P.info? e = some ie) (hzv : ie.zero = some zv) (hno : len * ie.size ≤ 16777216)
    (hfill : Instr.fill (fun i => some (i * ie.size, ie.size)) (madeCells zv.cells (len * ie.size)) parts.toList = some cells') :
    (Instr.buildSlice t len parts).run P w = .ok (.slice (some ⟨w.heap.size, 0, none⟩) len len) (w.alloc (.cells cells' e)) := by
  have hno' : ¬ 16777216 < len * ie.size := by omega
  unfold madeCells at hfill
  by_cases hl0 : len * ie.size = 0
  · rw [hl0] at hfill
    simp only [Array.range_zero', List.map_toArray, List.map_nil] at hfill
    simp [Instr.buildSlice, run_underlying hu, sizeOf, typeInfo, hie, hl0, hfill, newRow, Array.range_zero']
  · simp [Instr.buildSlice, run_underlying hu, sizeOf, typeInfo, zeroValue, hie, hzv, hno', hl0, hfill, newRow]
noncomputable def buildSliceK (C : Cfg) (t : TypeId) (len : Nat) (ps : List (Nat × Operand)) (key : Nat) (env : List X) (obs : List (Option Ob)) (K : X → List (Option Ob) → Prop) : Prop :=
  match C.td t with
  | .sl e T => match Nat.ble (len * T.size) 4096 && Nat.ble (len * T.bytes) 65536 with
    | true => partsK C env obs T len ps (List.replicate len T.dflt) fun xs => newK key env obs (.row e T xs) fun obs => K (.v (.full key)) obs
    | false => False
  | _ => False
theorem buildSlice_sound (hT : ∀ t, TdOk C.P t (C.td t)) (h : SimG C E ⟨env, obs⟩ a w γ I) {t : TypeId} {len key : Nat} {ps : Array (Nat × Operand)} {K : X → List (Option Ob) → Prop} (hK : buildSliceK C t len ps.toList key env obs K) (h0 : E.bx key = none) (dst : Option Nat) :
    ∃ v' w' x' obs', (Instr.buildSlice t len (ps.map fun p => (p.1, a.eval p.2))).run C.P w = .ok v' w' ∧ K x' obs' ∧ Sim C E ⟨put env dst x', obs'⟩ (a.put dst v') w' := by
  unfold buildSliceK at hK
  have ht := hT t
  split at hK
  · rename_i e T htd
    rw [htd] at ht
    obtain ⟨hu, _, ie, zv, hie, hsz, hby, hzv, hzs, hz⟩ := ht
    split at hK
    · rename_i hb
      simp only [Bool.and_eq_true] at hb
      have hb1 := Nat.le_of_ble_eq_true hb.1
      have hb2 := Nat.le_of_ble_eq_true hb.2
      have hz0 : Rel (VR γ I w (lk obs)) (flat T (List.replicate len T.dflt)) (madeCells zv.cells (len * T.size)).toList := fun j c hj => by
        obtain ⟨hj1, hj2⟩ := flat_replicate_get hj
        obtain ⟨u, h6, h7⟩ := hz _ c hj2
        refine ⟨u, ?_, VR.of_match h7⟩
        have hmod : j % T.size < zv.cells.size := by rw [hzs]; exact Nat.mod_lt _ T.size_pos
        simp only [madeCells, Array.toList_map, Array.toList_range, List.getElem?_map, List.getElem?_range hj1, Option.map_some, hzs]
        rw [← h6, Array.getElem?_eq_getElem hmod]
        simp [hmod]
      obtain ⟨ys, cells', hK, h4, h5, h6, h7⟩ := parts_sound h ps.toList _ _ (by simp) (size_madeCells _ _) hz0 hK
      obtain ⟨h8, h9, h10, hK⟩ := newK_spec hK
      have hmap : (ps.map fun p => (p.1, a.eval p.2)).toList = ps.toList.map fun p => (p.1, a.eval p.2) := by simp
      have hlen : len ≤ 4096 := by have := T.size_pos; exact Nat.le_trans (Nat.le_mul_of_pos_right len this) hb1
      refine ⟨.slice (some ⟨w.heap.size, 0, none⟩) len len, _, _, _, ?_, hK, rowedF h (.inl rfl) h8 h9 h10 h0 e h4.symm h5 (by omega) (by unfold maxLen; omega) (by rw [h4]; unfold big; omega) h6 dst⟩
      exact run_buildSlice hu hie hzv (by rw [hsz]; omega) (by rw [hsz, hmap]; exact h7)
    · exact hK.elim
  · exact hK.elim

theorem places_ok : ∀ (fl : List Field) (ds : List FD), fl.length = ds.length → (∀ (i : Nat) (d : FD), ds[i]? = some d → ∃ f, fl[i]? = some f ∧ FOk P f d) → fl.mapM (fun f => (P.info? f.type).map fun i => (f.offset, i.size)) = some (ds.map fun d => (d.off, d.size))
  | [], [], _, _ => rfl
  | f :: fl, d :: ds, hl, h => by
    obtain ⟨f', h1, h2, ⟨i, h3, h4⟩, _⟩ := h 0 d rfl
    simp at h1; subst h1
    have ih := places_ok fl ds (by simpa using hl) (fun i d hd => by simpa using h (i + 1) d (by simpa using hd))
    simp [List.mapM_cons, h3, ih, h2, h4]
  | [], _ :: _, hl, _ => by simp at hl
  | _ :: _, [], hl, _ => by simp at hl
noncomputable def bpartsK (C : Cfg) (env : List X) (obs : List (Option Ob)) (fs : List FD) (len : Nat) : List (Nat × Operand) → List V → (List V → Prop) → Prop
  | [], acc, K => K acc
  | p :: ps, acc, K => opdK C env p.2 fun x => cellsK obs x fun cs => match fs[p.1]? with
    | some d => match Nat.beq cs.length d.size && Nat.ble (d.off + d.size) len with
      | true => fL (over d.off cs acc) fun acc => bpartsK C env obs fs len ps acc K
      | false => False
    | none => False
theorem bparts_sound (h : SimG C E ⟨env, obs⟩ a w γ I) {fs : List FD} {len : Nat} {K : List V → Prop} : ∀ (ps : List (Nat × Operand)) (acc : List V) (cells : Array Value), acc.length = len → cells.size = len → Rel (VR γ I w (lk obs)) acc cells.toList → bpartsK C env obs fs len ps acc K →
    ∃ ys cells', K ys ∧ ys.length = len ∧ cells'.size = len ∧ Rel (VR γ I w (lk obs)) ys cells'.toList ∧ Instr.fill ((fs.map fun d => (d.off, d.size)).toArray[·]?) cells (ps.map fun p => (p.1, a.eval p.2)) = some cells'
  | [], xs, cells, h1, h2, h3, hK => ⟨xs, cells, hK, h1, h2, h3, rfl⟩
  | p :: ps, xs, cells, h1, h2, h3, hK => by
    rw [bpartsK, opdK_eq] at hK
    obtain ⟨cs, hK, hlen, hrel, hone, hst⟩ := cells_sound (opd_sound h p.2) hK
    split at hK
    · rename_i d hd
      split at hK
      · rename_i hb
        simp only [Bool.and_eq_true] at hb
        have hb1 := Nat.eq_of_beq_eq_true hb.1
        have hb2 := Nat.le_of_ble_eq_true hb.2
        rw [fL_eq] at hK
        have hvs : (a.eval p.2).cells.size = d.size := by have := hlen; simp only [Array.length_toList] at this; omega
        have hov := Rel.over (n := d.off) (new := cs) (vs := (a.eval p.2).cells.toList) (old := xs) (us := cells.toList) hlen (by omega) (by simp; omega) hrel h3
        obtain ⟨ys, cells', hK, h4, h5, h6, h7⟩ := bparts_sound h ps _ (over d.off (a.eval p.2).cells.toList cells.toList).toArray (by rw [over_length (by omega)]; exact h1) (by
          rw [List.size_toArray, over_length (by simp [hvs]; omega)]; simpa using h2) (by simpa using hov) hK
        refine ⟨ys, cells', hK, h4, h5, h6, ?_⟩
        rw [List.map_cons, fill_step (off := d.off) (size := d.size) (by simp [hd]) hvs (by omega)]
        exact h7
      · exact hK.elim
    · exact hK.elim
noncomputable def buildK (C : Cfg) (t : TypeId) (ps : List (Nat × Operand)) (env : List X) (obs : List (Option Ob)) (K : X → Prop) : Prop :=
  match C.td t with
  | .st fs zero => bpartsK C env obs fs zero.length ps zero fun cs => K (.agg cs)
  | _ => False
theorem build_sound (hT : ∀ t, TdOk C.P t (C.td t)) (h : SimG C E ⟨env, obs⟩ a w γ I) {t : TypeId} {ps : Array (Nat × Operand)} {K : X → Prop} (hK : buildK C t ps.toList env obs K) :
    ∃ v x, (Instr.build t (ps.map fun p => (p.1, a.eval p.2))).run C.P w = .ok v w ∧ XR γ I w (lk obs) x v ∧ K x := by
  unfold buildK at hK
  have ht := hT t
  split at hK
  · rename_i fs zero htd
    rw [htd] at ht
    obtain ⟨⟨fields, hu, hfs, hf⟩, i, zs, hi, hs, hz, hzs, hzm⟩ := ht
    obtain ⟨ys, cells', hK, h4, h5, h6, h7⟩ := bparts_sound h ps.toList zero zs rfl hzs (fun j c hj => by obtain ⟨u, h1, h2⟩ := hzm j c hj; exact ⟨u, by simpa using h1, VR.of_match h2⟩) hK
    have hpl := places_ok (P := C.P) fields.toList fs (by simpa using hfs) (fun i d hd => by simpa using hf i d hd)
    have hmap : (ps.map fun p => (p.1, a.eval p.2)).toList = ps.toList.map fun p => (p.1, a.eval p.2) := by simp
    refine ⟨.agg cells', .agg ys, run_build w t _ cells' ?_, ⟨cells', rfl, by omega, fun j c hj => ?_⟩, hK⟩
    · unfold Program.built
      simp only [hi, hu, hz, hpl, hmap]
      exact h7
    · obtain ⟨u, h8, h9⟩ := h6 j c hj; exact ⟨u, by simpa using h8, h9⟩
  · exact hK.elim
/-- To forget an object. -/
theorem Sim.forget {st : St} (h : Sim C E st a w) (k : Nat) : Sim C E ⟨st.env, st.obs.set k none⟩ a w := by
  obtain ⟨γ, I, h⟩ := h
  have hsub : ∀ j o, lk (st.obs.set k none) j = some o → lk st.obs j = some o := fun j o hj => by
    rw [lk_set] at hj; split at hj
    · cases hj
    · exact hj
  have hk : Keep (fun _ => False) γ γ I I w w (lk st.obs) (lk (st.obs.set k none)) := by
    refine ⟨fun _ h => h, fun _ _ => rfl, fun j o hj _ => ⟨by rw [hsub j o hj]; simp, rfl⟩, fun j e T xs hj _ => ?_⟩
    cases hx : lk (st.obs.set k none) j with
    | none => exact .inl rfl
    | some o =>
      have := hsub j o hx
      rw [hj] at this; injection this with this; subst this
      exact .inr ⟨⟨xs, rfl, rfl⟩, fun b cur _ hc => ⟨cur, hc, rfl⟩⟩
  refine ⟨γ, I, h.defers, h.size, fun i x hx => ?_, ⟨fun j o hj => ?_, fun j j' o o' b h1 h2 => h.mr.inj j j' o o' b (hsub _ _ h1) (hsub _ _ h2), fun j o b h1 => h.mr.out j o b (hsub _ _ h1), h.mr.lt⟩, h.fr, h.inc, h.new, fun j o b h1 => h.own j o b (hsub _ _ h1), h.glob, fun j b hb o ho => h.bx j b hb o (hsub _ _ ho)⟩
  · obtain ⟨u, hu, hr⟩ := h.slots i x hx; exact ⟨u, hu, XR.keep hk (fun _ hd => hd.elim) hr⟩
  · exact ObR.keep hk (fun _ hd => hd.elim) rfl (fun _ _ => rfl) (h.mr.ob j o (hsub j o hj))
end
end Go.Proofs.Ytdpgdeaefmghiaa.Sx

/- append. -/
namespace Go.Proofs.Ytdpgdeaefmghiaa.Sx
section
variable {C : Cfg} {E : Entry} {env : List X} {obs : List (Option Ob)} {a : Act} {w : World} {γ : Nat → Option Nat} {I : Nat → Prop} {L : Nat → Option Ob} {P : Program}
theorem setCells_row (b : Nat) (e : TypeId) (fr : Nat × Nat) : ∀ (vs : List Value) (o : Nat) (w : World) (cur : Array Value), w.heap[b]? = some (.cells cur e fr) → o + vs.length ≤ cur.size → w.setCells b o vs = w.setRow b (over o vs cur.toList).toArray
  | [], o, w, cur, hc, _ => by
    simp only [World.setCells, over, List.nil_append, List.length_nil, Nat.add_zero, List.take_append_drop]
    rw [show cur.toList.toArray = cur by simp, setRow_self w b cur e fr hc]
  | v :: vs, o, w, cur, hc, hl => by
    simp only [List.length_cons] at hl
    rw [World.setCells, setCell_eq_setRow w b o cur e fr v hc, setCells_row b e fr vs (o + 1) _ _ (setRow_heap w b cur _ e fr hc) (by simp; omega), setRow_setRow]
    congr 2
    apply List.ext_getElem?
    intro j
    rw [over_get (by simp; omega), over_get (by simp; omega)]
    simp only [Array.toList_setIfInBounds, List.getElem?_set, List.length_cons, Array.length_toList]
    by_cases c1 : j < o
    · rw [if_pos (by omega), if_pos c1, if_neg (by omega)]
    · rw [if_neg c1]
      by_cases c2 : j = o
      · subst c2
        rw [if_pos (by omega), if_pos rfl, if_pos (by omega), if_pos (by omega)]; simp
      · rw [if_neg (by omega)]
        by_cases c3 : j < o + (vs.length + 1)
        · rw [if_pos (by omega), if_pos c3, show j - o = (j - (o + 1)) + 1 by omega]; rfl
        · rw [if_neg (by omega), if_neg c3, if_neg (by omega)]
/-- A row that grows in place, under a new key. -/
theorem inplace_next (h : SimG C E ⟨env, obs⟩ a w γ I) {k key b : Nat} (hkk : k ≠ key) (h1 : key < obs.length) (h2 : fresh key env obs = true) (h3 : lk obs key = none) (h0 : E.bx key = none) {e : TypeId} {T : Ty} {xs ys : List T.D}
    (hl : lk obs k = some (.row e T xs)) (hb : γ k = some b) {cur cur' : Array Value} (hc : w.heap[b]? = some (.cells cur e (0, 0))) {cap : Nat} (hsz : cur'.size = cap * T.size) (hcap : ys.length ≤ cap) (hmax : cap ≤ maxLen)
    (hbig : ys.length * T.bytes ≤ big) (hrel : Rel (VR γ I w (lk obs)) (flat T ys) cur'.toList) (dst : Option Nat) :
    Sim C E ⟨put env dst (.v (.full key)), (obs.set key (some (.row e T ys))).set k none⟩ (a.put dst (.slice (some ⟨b, 0, none⟩) ys.length cap)) (w.setRow b cur') := by
  have hkl : k < obs.length := by
    rcases Nat.lt_or_ge k obs.length with h1 | h1
    · exact h1
    · simp [lk, List.getElem?_eq_none h1] at hl
  have hL : ∀ j, lk ((obs.set key (some (.row e T ys))).set k none) j = if j = k then none else if j = key then some (.row e T ys) else lk obs j := fun j => by
    rw [lk_set, lk_set, List.length_set]
    by_cases e1 : k = j
    · simp [e1, e1 ▸ hkl]
    · by_cases e2 : key = j
      · simp [e1, e2, e2 ▸ h1, Ne.symm e1]
      · simp [e1, e2, Ne.symm e1, Ne.symm e2]
  have hoth : ∀ j, j ≠ b → (w.setRow b cur').heap[j]? = w.heap[j]? := fun j hj => setRow_other w b j cur' hj
  have hne : ∀ j o b', lk obs j = some o → γ j = some b' → j ≠ k → b' ≠ b := fun j o b' q1 q2 hne e => hne (h.mr.inj j k o _ b q1 hl (e ▸ q2) hb)
  have hK : Keep (fun j => j = key) γ (fun j => if j = key then some b else γ j) I I w (w.setRow b cur') (lk obs) (lk ((obs.set key (some (.row e T ys))).set k none)) := by
    refine ⟨fun _ h => h, fun j hj => hoth j (fun e => h.mr.out k _ b hl hb (e ▸ hj)), fun j o hj hn => ?_, fun j e' T' xs' hj hn => ?_⟩
    · rw [hL] at hj
      by_cases e1 : j = k
      · rw [if_pos e1] at hj; cases hj
      · rw [if_neg e1, if_neg hn] at hj; exact ⟨by rw [hj]; simp, by simp [hn]⟩
    · by_cases e1 : j = k
      · exact .inl (by rw [hL, if_pos e1])
      · refine .inr ⟨⟨xs', by rw [hL, if_neg e1, if_neg hn]; exact hj, rfl⟩, fun b' cur0 q1 q2 => ⟨cur0, ?_, rfl⟩⟩
        rw [hoth b' (hne j _ b' hj q1 e1)]; exact q2
  simp only [fresh, Bool.and_eq_true] at h2
  have hnew : (w.setRow b cur').heap[b]? = some (.cells cur' e (0, 0)) := setRow_heap w b cur cur' e (0, 0) hc
  have hLk : lk ((obs.set key (some (.row e T ys))).set k none) key = some (.row e T ys) := by rw [hL, if_neg (Ne.symm hkk), if_pos rfl]
  have hx : XR (fun j => if j = key then some b else γ j) I (w.setRow b cur') (lk ((obs.set key (some (.row e T ys))).set k none)) (.v (.full key)) (.slice (some ⟨b, 0, none⟩) ys.length cap) :=
    VR.full key e T ys _ hLk <| VR.own key 0 ys.length b cap e T.size T ys cur' 0 hLk (by simp) (by omega) hnew rfl (by rw [Nat.zero_add]; exact hsz.symm) (.inr (by simp)) hcap
  refine ⟨_, _, h.next (N := fun j => j = key) hK (fun d' hd' y hy => by subst hd'; exact List.all_eq_true.1 h2.1 y hy) (fun d' hd' => by subst hd'; exact h0) ?_ ?_ (fun b hb => .inl hb) ?_ hx dst⟩
  · constructor
    · intro j o hj
      rw [hL] at hj
      by_cases e1 : j = k
      · rw [if_pos e1] at hj; cases hj
      · rw [if_neg e1] at hj
        by_cases e2 : j = key
        · subst e2; rw [if_pos rfl] at hj; injection hj with hj; subst hj
          refine .inr ⟨b, cur', cap, by simp, hnew, hsz, hcap, hmax, hbig, fun j c hj => ?_⟩
          obtain ⟨u, q1, q2⟩ := hrel j c hj
          exact ⟨u, by simpa using q1, q2.content hK.inc hK.imm (flat_plain hj)⟩
        · rw [if_neg e2] at hj
          exact ObR.keep hK (fun d' hd' => by subst hd'; exact noRefO_lk h2.2 hj) (by simp [e2]) (fun b' hb' => hoth b' (hne j o b' hj hb' e1)) (h.mr.ob j o hj)
    · intro j j' o o' b' q1 q2 q3 q4
      rw [hL] at q1 q2
      by_cases e1 : j = k <;> by_cases e1' : j' = k <;> simp only [e1, e1', if_true, if_false] at q1 q2 <;> try (cases q1; done)
      · cases q2
      · by_cases e2 : j = key <;> by_cases e2' : j' = key <;> simp only [e2, e2', if_true, if_false] at q1 q2 q3 q4
        · rw [e2, e2']
        · injection q3 with q3; exact absurd q3.symm (hne j' o' b' q2 q4 e1')
        · injection q4 with q4; exact absurd q4.symm (hne j o b' q1 q3 e1)
        · exact h.mr.inj j j' o o' b' q1 q2 q3 q4
    · intro j o b' q1 q2
      rw [hL] at q1
      by_cases e1 : j = k
      · rw [if_pos e1] at q1; cases q1
      · rw [if_neg e1] at q1
        by_cases e2 : j = key <;> simp only [e2, if_true, if_false] at q1 q2
        · injection q2 with q2; subst q2; exact h.mr.out k _ b hl hb
        · exact h.mr.out j o b' q1 q2
    · intro b' hb'; have := h.mr.lt b' hb'; simpa [World.setRow] using this
  · exact ⟨rfl, rfl, rfl, by simp [World.setRow], fun j _ hn => hoth j (fun e => hn ⟨k, _, hl, e ▸ hb⟩)⟩
  · intro j o b' q1 q2
    rw [hL] at q1
    by_cases e1 : j = k
    · rw [if_pos e1] at q1; cases q1
    · rw [if_neg e1] at q1
      by_cases e2 : j = key <;> simp only [e2, if_true, if_false] at q1 q2
      · injection q2 with q2; subst q2; exact .inl ⟨k, _, hl, hb⟩
      · exact .inl ⟨j, o, q1, q2⟩
/-- A row without a block yet. -/
theorem virtual_next (h : SimG C E ⟨env, obs⟩ a w γ I) {key : Nat} (h1 : key < obs.length) (h2 : fresh key env obs = true) (h3 : lk obs key = none) (h0 : E.bx key = none) (e : TypeId) (T : Ty) (dst : Option Nat) :
    Sim C E ⟨put env dst (.v (.full key)), obs.set key (some (.row e T []))⟩ (a.put dst (.slice none 0 0)) w := by
  have hL : ∀ j, lk (obs.set key (some (.row e T []))) j = if j = key then some (.row e T []) else lk obs j := fun j => by
    rw [lk_set]; by_cases e : key = j
    · simp [e, e ▸ h1]
    · simp [e, Ne.symm e]
  have hK : Keep (fun j => j = key) γ (fun j => if j = key then none else γ j) I I w w (lk obs) (lk (obs.set key (some (.row e T [])))) := by
    refine ⟨fun _ h => h, fun _ _ => rfl, fun j o hj hn => ?_, fun j e' T' xs' hj hn => .inr ⟨⟨xs', by rw [hL, if_neg hn]; exact hj, rfl⟩, fun b' cur0 q1 q2 => ⟨cur0, q2, rfl⟩⟩⟩
    rw [hL, if_neg hn] at hj; exact ⟨by rw [hj]; simp, by simp [hn]⟩
  simp only [fresh, Bool.and_eq_true] at h2
  have hx : XR (fun j => if j = key then none else γ j) I w (lk (obs.set key (some (.row e T [])))) (.v (.full key)) (.slice none 0 0) := VR.full key e T [] _ (by rw [hL, if_pos rfl]) (VR.ownN key (by simp))
  refine ⟨_, _, h.next (N := fun j => j = key) hK (fun d' hd' y hy => by subst hd'; exact List.all_eq_true.1 h2.1 y hy) (fun d' hd' => by subst hd'; exact h0) ?_ (Fr.refl _ w) (fun b hb => .inl hb) ?_ hx dst⟩
  · constructor
    · intro j o hj
      rw [hL] at hj
      by_cases e2 : j = key
      · subst e2; rw [if_pos rfl] at hj; injection hj with hj; subst hj; exact .inl ⟨by simp, rfl⟩
      · rw [if_neg e2] at hj
        exact ObR.keep hK (fun d' hd' => by subst hd'; exact noRefO_lk h2.2 hj) (by simp [e2]) (fun _ _ => rfl) (h.mr.ob j o hj)
    · intro j j' o o' b' q1 q2 q3 q4
      rw [hL] at q1 q2
      by_cases e2 : j = key <;> by_cases e2' : j' = key <;> simp only [e2, e2', if_true, if_false] at q1 q2 q3 q4
      · rw [e2, e2']
      · cases q3
      · cases q4
      · exact h.mr.inj j j' o o' b' q1 q2 q3 q4
    · intro j o b' q1 q2
      rw [hL] at q1
      by_cases e2 : j = key <;> simp only [e2, if_true, if_false] at q1 q2
      · cases q2
      · exact h.mr.out j o b' q1 q2
    · exact h.mr.lt
  · intro j o b' q1 q2
    rw [hL] at q1
    by_cases e2 : j = key <;> simp only [e2, if_true, if_false] at q1 q2
    · cases q2
    · exact .inl ⟨j, o, q1, q2⟩
def rowAs (T : Ty) : Ob → Option (List T.D)
  | .row _ T' xs => slOf T (.sl T' xs)
  | .box _ => none
theorem slOf_ty {T T' : Ty} {xs : List T'.D} {ys : List T.D} (h : slOf T (.sl T' xs) = some ys) : T' = T ∧ HEq xs ys := by
  generalize hv : V.sl T' xs = c at h
  unfold slOf at h
  split at h
  all_goals first | (simp at h; done) | (cases hv; done) | (cases hv; injection h with h; subst h; exact ⟨rfl, HEq.rfl⟩)
/-- What is appended. -/
noncomputable def srcK (d : TD) (obs : List (Option Ob)) (T : Ty) (x : X) (K : List T.D → Prop) : Prop :=
  match d with
  | .sl _ _ => match x with
    | .v (.full k) => lkK obs k fun ob => match rowAs T ob with
      | some xs => K xs
      | none => False
    | .v (.own k off n) => lkK obs k fun ob => match rowAs T ob with
      | some xs => K ((xs.drop off).take n)
      | none => False
    | .v c => match slOf T c with
      | some ys => K ys
      | none => False
    | _ => False
  | .str => match x with
    | .v (.str s) => match slOf T (.sl .u8 s) with
      | some ys => K ys
      | none => False
    | _ => False
  | _ => False
theorem rowAs_inv {T : Ty} {ob : Ob} {xs : List T.D} (h : rowAs T ob = some xs) : ∃ e, ob = .row e T xs := by
  cases ob with
  | box cells => simp [rowAs] at h
  | row e T' xs' => obtain ⟨rfl, h⟩ := slOf_ty h; cases h; exact ⟨e, rfl⟩
theorem Rel.one {T : Ty} {xs : List T.D} {us : List Value} (h : Rel (VR γ I w L) (flat T xs) us) (hl : us.length = xs.length * T.size) : ∀ u ∈ us, u.oneCell' = true := fun u hu => by
  obtain ⟨j, hj⟩ := List.mem_iff_getElem?.1 hu
  have hjl : j < (flat T xs).length := by rw [flat_length, ← hl]; exact (List.getElem?_eq_some_iff.1 hj).1
  obtain ⟨u', h1, h2⟩ := h j _ (List.getElem?_eq_getElem hjl)
  rw [hj] at h1; injection h1 with h1; subst h1
  have hp : ((flat T xs)[j]).plain := flat_plain (List.getElem?_eq_getElem hjl)
  generalize (flat T xs)[j] = c at h2 hp
  cases h2 <;> first | rfl | exact hp.elim | assumption
theorem At.list {b o : Nat} {T : Ty} {xs : List T.D} (h : At γ I w L b o (flat T xs)) : ∃ us : List Value, us.length = xs.length * T.size ∧ Rel (VR γ I w L) (flat T xs) us ∧ ∀ (j : Nat) (u : Value), us[j]? = some u → at? w b (o + j) = some u := by
  refine ⟨(List.range (xs.length * T.size)).map fun j => (at? w b (o + j)).getD undef, by simp, fun j c hj => ?_, fun j u hj => ?_⟩
  · obtain ⟨x, h1, h2⟩ := h j c hj
    have hjl : j < xs.length * T.size := by rw [← flat_length]; exact (List.getElem?_eq_some_iff.1 hj).1
    exact ⟨x, by simp [hjl, h1], h2⟩
  · have hjl : j < xs.length * T.size := by have := (List.getElem?_eq_some_iff.1 hj).1; simpa using this
    have hc : (flat T xs)[j]? = some ((flat T xs)[j]'(by rw [flat_length]; exact hjl)) := List.getElem?_eq_getElem _
    obtain ⟨x, h1, _⟩ := h j _ hc
    simp [hjl, h1] at hj
    rw [h1, hj]
theorem flat_u8 : ∀ (s : List UInt8), flat .u8 s = s.map fun b => V.int .u8 b.toNat
  | [] => rfl
  | b :: s => by rw [flat_cons, flat_u8 s]; rfl
theorem slOf_inv {T : Ty} {c : V} {u : Value} {ys : List T.D} (h : slOf T c = some ys) (hu : VR γ I w L c u) : VR γ I w L (.sl T ys) u := slOf_le h _ _ _ _ _ hu
theorem src_sound (hm : MR γ I w (lk obs)) {T : Ty} {x : X} {u : Value} {tx : TypeId} {d : TD} (htx : TdOk P tx d) (hx : XR γ I w (lk obs) x u) {K : List T.D → Prop} (hK : srcK d obs T x K) :
    ∃ ys news, K ys ∧ Src P T.size tx u ys.length news w ∧ Rel (VR γ I w (lk obs)) (flat T ys) news ∧ ys.length * T.bytes ≤ big := by
  have content : ∀ (c : V) (e : TypeId) (ys : List T.D), P.underlying tx = some (.slice e) → VR γ I w (lk obs) c u → slOf T c = some ys → K ys → ∃ ys news, K ys ∧ Src P T.size tx u ys.length news w ∧ Rel (VR γ I w (lk obs)) (flat T ys) news ∧ ys.length * T.bytes ≤ big := by
    intro c e ys hu hc hs hK
    obtain ⟨ad, cp, rfl, hle, h⟩ := VR.sl_inv (slOf_inv hs hc)
    rcases h with rfl | ⟨hb, b, o, rfl, hI, hat⟩
    · refine ⟨[], [], hK, ?_, fun j c hj => by simp [flat] at hj, by simp⟩
      cases ad with
      | none => exact Src.ofNil w hu cp
      | some ad => exact Src.ofSlice w hu ad 0 cp [] (by simp) (by simp) (by simp)
    · obtain ⟨us, h1, h2, h3⟩ := hat.list
      exact ⟨ys, us, hK, Src.ofSlice w hu ⟨b, o, none⟩ ys.length cp us h1 (fun j u hj => by rw [Addr.add_lit, cell_at]; exact h3 j u hj) (h2.one h1), h2, hb⟩
  have ofOwn : ∀ (k off n : Nat) (e : TypeId) (xs : List T.D) (e' : TypeId), P.underlying tx = some (.slice e') → VR γ I w (lk obs) (.own k off n) u → lk obs k = some (.row e T xs) → K ((xs.drop off).take n) → ∃ ys news, K ys ∧ Src P T.size tx u ys.length news w ∧ Rel (VR γ I w (lk obs)) (flat T ys) news ∧ ys.length * T.bytes ≤ big := by
    intro k off n e xs e' hu hx hl hK
    rcases VR.own_inv hx hl with ⟨hg, rfl, rfl, rfl⟩ | ⟨b, c, cur, o, hg, rfl, hle, hc, hsz, ho, hnc⟩
    · refine ⟨_, [], hK, ?_, fun j c hj => by simp [flat] at hj, by simp⟩
      simpa using Src.ofNil w hu 0
    · obtain ⟨cur', cap, q1, q2, q3, q4, q5, hat⟩ := hm.row_at hl hg
      have hlen : ((xs.drop off).take n).length = n := by rw [List.length_take, List.length_drop]; omega
      have hat' : At γ I w (lk obs) b (off * T.size) (flat T ((xs.drop off).take n)) := fun j c hj => by
        rw [← flat_take, ← flat_drop, List.getElem?_take] at hj
        split at hj
        · rw [List.getElem?_drop] at hj
          obtain ⟨x, r1, r2⟩ := hat _ c hj
          exact ⟨x, by rw [← r1]; congr 1; omega, r2⟩
        · cases hj
      obtain ⟨us, h1, h2, h3⟩ := hat'.list
      refine ⟨_, us, hK, ?_, h2, ?_⟩
      · rcases ho with ⟨rfl, _⟩ | rfl
        · have : us = [] := List.eq_nil_of_length_eq_zero (by rw [h1, hlen]; simp)
          subst this
          rw [hlen]; exact Src.ofSlice w hu _ 0 c [] (by simp) (by simp) (by simp)
        · have := Src.ofSlice (P := P) (size := T.size) w hu ⟨b, off * T.size, none⟩ ((xs.drop off).take n).length c us h1 (fun j u hj => by rw [Addr.add_lit, cell_at]; exact h3 j u hj) (h2.one h1)
          rw [hlen] at this ⊢; exact this
      · rw [hlen]; exact Nat.le_trans (Nat.mul_le_mul_right _ (by omega)) q5
  unfold srcK at hK
  split at hK
  · obtain ⟨hu, _, _⟩ := htx
    split at hK
    · obtain ⟨ob, hl, hK⟩ := lkK_spec hK
      split at hK
      · rename_i xs hr
        obtain ⟨e, rfl⟩ := rowAs_inv hr
        exact ofOwn _ 0 xs.length e xs _ hu (VR.full_own hx hl) hl (by simpa using hK)
      · exact hK.elim
    · obtain ⟨ob, hl, hK⟩ := lkK_spec hK
      split at hK
      · rename_i xs hr
        obtain ⟨e, rfl⟩ := rowAs_inv hr
        exact ofOwn _ _ _ e xs _ hu hx hl hK
      · exact hK.elim
    · split at hK
      · rename_i ys hs; exact content _ _ ys hu hx hs hK
      · exact hK.elim
    · exact hK.elim
  · obtain ⟨hu, _⟩ := htx
    split at hK
    · rename_i s
      split at hK
      · rename_i ys hs
        obtain ⟨rfl, hh⟩ := slOf_ty hs; cases hh
        cases hx with
        | str _ hb =>
        have hs1 : (⟨s.toArray⟩ : ByteArray).size = s.length := by simp [ByteArray.size]
        refine ⟨s, byteCells ⟨s.toArray⟩, hK, by have := Src.ofString (P := P) w hu ⟨s.toArray⟩; rw [hs1] at this; exact this, fun j c hj => ?_, by simpa [Ty.bytes] using hb⟩
        rw [flat_u8, List.getElem?_map] at hj
        cases hb' : s[j]? with
        | none => rw [hb'] at hj; cases hj
        | some b =>
          rw [hb'] at hj; injection hj with hj; subst hj
          refine ⟨.int .u8 b.toNat, ?_, VR.int _ _ ?_⟩
          · unfold byteCells; rw [List.getElem?_map]; simp [hb']
          · have := b.toNat_lt; exact ⟨by simp [lo], by simp [hi]; omega⟩
      · exact hK.elim
    · exact hK.elim
  · exact hK.elim

noncomputable def growK {T : Ty} (e : TypeId) (key : Nat) (env : List X) (obs : List (Option Ob)) (k n : Nat) (zs : List T.D) (m : Nat) (K : X → List (Option Ob) → Prop) : Prop :=
  Hold ((n + m) * T.bytes ≤ big) ∧ newK key env obs (.row e T zs) fun obs => setK obs k none fun obs => K (.v (.full key)) obs
noncomputable def appendK (C : Cfg) (t tx : TypeId) (key : Nat) (env : List X) (obs : List (Option Ob)) (s x : X) (K : X → List (Option Ob) → Prop) : Prop :=
  match C.td t with
  | .sl e T => srcK (C.td tx) obs T x fun ys => match s with
    | .v .nil => Hold (ys.length * T.bytes ≤ big) ∧ newK key env obs (.row e T ys) fun obs => K (.v (.full key)) obs
    | .v (.full k) => lkK obs k fun ob => match ob with
      | .row e' _ _ => match Nat.beq e e' with
        | true => match rowAs T ob with
          | some xs => growK e key env obs k xs.length (xs ++ ys) ys.length K
          | none => False
        | false => False
      | .box _ => False
    | .v (.own k off n) => match Nat.beq off 0 with
      | true => lkK obs k fun ob => match ob with
        | .row e' _ _ => match Nat.beq e e' with
          | true => match rowAs T ob with
            | some xs => growK e key env obs k n (xs.take n ++ ys) ys.length K
            | none => False
          | false => False
        | .box _ => False
      | false => False
    | _ => False
  | _ => False
theorem run_append_none {t tx ty e : TypeId} {i : TypeInfo} (ht : P.underlying t = some (.slice e)) (hi : P.info? e = some i) {x : Value} {c : Nat} (hs : Src P i.size tx x 0 [] w) :
    (Builtin.append_ #[t, tx] ty #[.slice none 0 c, x]).run P w = .ok (.slice none 0 c) w := by
  rcases hs.kind with ⟨e', hk⟩ | hk <;> simp [Builtin.append_, run_underlying ht, run_underlying hk, sizeOf, typeInfo, hi, hs.len, hs.cells]
theorem rel_append {cs ds : List V} {us vs : List Value} (h1 : Rel (VR γ I w L) cs us) (hl : us.length = cs.length) (h2 : Rel (VR γ I w L) ds vs) : Rel (VR γ I w L) (cs ++ ds) (us ++ vs) := fun j c hj => by
  by_cases hjl : j < cs.length
  · rw [List.getElem?_append_left hjl] at hj
    rw [List.getElem?_append_left (by omega)]; exact h1 j c hj
  · rw [List.getElem?_append_right (by omega)] at hj
    rw [List.getElem?_append_right (by omega), hl]; exact h2 _ c hj
theorem rel_more {cs : List V} {us vs : List Value} (h1 : Rel (VR γ I w L) cs us) : Rel (VR γ I w L) cs (us ++ vs) := fun j c hj => by
  obtain ⟨u, h, r⟩ := h1 j c hj
  exact ⟨u, by rw [List.getElem?_append_left (List.getElem?_eq_some_iff.1 h).1]; exact h, r⟩
theorem append_sound (hT : ∀ t, TdOk C.P t (C.td t)) (h : SimG C E ⟨env, obs⟩ a w γ I) {t tx ty : TypeId} {key : Nat} {s x : X} {vs vx : Value} (hs : XR γ I w (lk obs) s vs) (hx : XR γ I w (lk obs) x vx)
    (hf : fresh key env obs = true → noRefX key s = true) {K : X → List (Option Ob) → Prop} (hK : appendK C t tx key env obs s x K) (hb0 : E.bx key = none) (dst : Option Nat) :
    ∃ v' w' x' obs', (Builtin.append_ #[t, tx] ty #[vs, vx]).run C.P w = .ok v' w' ∧ K x' obs' ∧ Sim C E ⟨put env dst x', obs'⟩ (a.put dst v') w' := by
  unfold appendK at hK
  have ht := hT t
  split at hK
  · rename_i e T htd
    rw [htd] at ht
    obtain ⟨hu, _, ie, zv, hie, hsz, hby, hzv, hzs, hz⟩ := ht
    obtain ⟨ys, news, hK, hsrc, hrel, hyb⟩ := src_sound h.mr (hT tx) hx hK
    rw [← hsz] at hsrc
    have hbp := T.bytes_pos
    have hnl : news.length = ys.length * T.size := by rw [← hsz]; exact hsrc.newsLen
    -- a slice that is none
    have fromNone : vs = .slice none 0 0 → key < obs.length → fresh key env obs = true → lk obs key = none →
        ∃ v' w', (Builtin.append_ #[t, tx] ty #[vs, vx]).run C.P w = .ok v' w' ∧ Sim C E ⟨put env dst (.v (.full key)), obs.set key (some (.row e T ys))⟩ (a.put dst v') w' := by
      intro hv h1 h2 h3
      subst hv
      by_cases h0 : ys.length = 0
      · have hy : ys = [] := List.eq_nil_of_length_eq_zero h0
        subst hy
        have hn0 : news = [] := List.eq_nil_of_length_eq_zero (by simpa using hnl)
        subst hn0
        exact ⟨_, w, run_append_none hu hie hsrc, virtual_next h h1 h2 h3 hb0 e T dst⟩
      · have hle : ys.length ≤ big := by
          have : ys.length * 1 ≤ ys.length * T.bytes := Nat.mul_le_mul_left _ hbp
          omega
        have hr := run_append_grow_src (P := C.P) w t tx ty e ie zv hu hie hzv none 0 0 [] (run_firstCells_none w.drew _ _ _ _) vx ys.length news hsrc (by omega) (by unfold big at hle; omega) (growslice_fits (by omega) (by rw [hby, Nat.zero_add]; exact hyb))
        simp only [Nat.zero_add, List.nil_append] at hr
        have hcg := grownCap_ge w ys.length 0 e
        have hcm := grownCap_le_maxLen w ys.length 0 e (by unfold maxLen; unfold big at hle; omega)
        refine ⟨_, _, hr, rowedF h (.inr rfl) h1 h2 h3 hb0 e rfl ?_ hcg hcm hyb ?_ dst⟩
        · simp only [Array.size_append, List.size_toArray, size_zeroCells, hzs, hnl, ← Nat.add_mul]; congr 1; omega
        · have := rel_more (vs := (Builtin.zeroCells zv.cells (grownCap w ys.length 0 e - ys.length)).toList) hrel
          simpa using this
    -- a row of one's own
    have fromOwn : ∀ (k n : Nat) (xs : List T.D), VR γ I w (lk obs) (.own k 0 n) vs → k ≠ key → lk obs k = some (.row e T xs) → growK e key env obs k n (xs.take n ++ ys) ys.length K →
        ∃ v' w' x' obs', (Builtin.append_ #[t, tx] ty #[vs, vx]).run C.P w = .ok v' w' ∧ K x' obs' ∧ Sim C E ⟨put env dst x', obs'⟩ (a.put dst v') w' := by
      intro k n xs hs hkk hl hK
      obtain ⟨⟨hb⟩, hK⟩ := hK
      obtain ⟨h1, h2, h3, hK⟩ := newK_spec hK
      rw [setK_eq] at hK
      have hle : n + ys.length ≤ big := by
        have : (n + ys.length) * 1 ≤ (n + ys.length) * T.bytes := Nat.mul_le_mul_left _ hbp
        omega
      have hm : MR γ I w (lk obs) := h.mr
      rcases VR.own_inv hs hl with ⟨hg, _, rfl, hv⟩ | ⟨b, c, cur, o, hg, rfl, hnx, hc, hcs, ho, hnc⟩
      · obtain ⟨v', w', r1, r2⟩ := fromNone hv h1 h2 h3
        refine ⟨v', w', _, _, r1, hK, ?_⟩
        have := r2.forget k
        simpa using this
      · have ho0 : o = 0 := by rcases ho with ⟨_, h5⟩ | h5; exact absurd rfl h5; simpa using h5
        subst ho0
        rw [Nat.zero_add] at hcs
        obtain ⟨cur2, cap, q1, q2, q3, q4, q5, hat⟩ := hm.row_at hl hg
        rw [hc] at q1; injection q1 with q1; injection q1 with q1; subst q1
        have hcc : c = cap := Nat.eq_of_mul_eq_mul_right T.size_pos (by omega)
        subst hcc
        have hxs : Rel (VR γ I w (lk obs)) (flat T xs) cur.toList := fun j c hj => by
          obtain ⟨u, r1, r2⟩ := hat j c hj
          rw [at_of_heap hc] at r1
          exact ⟨u, by simpa using r1, r2⟩
        have hntk : (xs.take n).length = n := by rw [List.length_take]; omega
        have hmul : n * T.size ≤ c * T.size := Nat.mul_le_mul_right _ hnc
        have htk : Rel (VR γ I w (lk obs)) (flat T (xs.take n)) (cur.toList.take (n * T.size)) := fun j c hj => by
          rw [← flat_take, List.getElem?_take] at hj
          split at hj
          · rename_i hjn
            obtain ⟨u, r1, r2⟩ := hxs j c hj
            exact ⟨u, by rw [List.getElem?_take, if_pos hjn]; exact r1, r2⟩
          · cases hj
        have htkl : (cur.toList.take (n * T.size)).length = n * T.size := by rw [List.length_take, Array.length_toList]; omega
        have happ : Rel (VR γ I w (lk obs)) (flat T (xs.take n ++ ys)) (cur.toList.take (n * T.size) ++ news) := by
          rw [flat_append]; exact rel_append htk (by rw [htkl, flat_length, hntk]) hrel
        have hlen2 : (xs.take n ++ ys).length = n + ys.length := by rw [List.length_append, hntk]
        by_cases hroom : n + ys.length ≤ c
        · have hmul2 : (n + ys.length) * T.size ≤ c * T.size := Nat.mul_le_mul_right _ hroom
          rw [Nat.add_mul] at hmul2
          have hfit : n * T.size + news.length ≤ cur.size := by rw [hnl, ← hcs]; exact hmul2
          have hr := run_append_room_src (P := C.P) w t tx ty e ie hu hie b 0 n c vx ys.length news hsrc hroom (fun j hj => by
            rw [cell_at, at_of_heap hc, hsz, Array.getElem?_eq_getElem (by omega)]; rfl) (fun j hj => by simp [World.frozen?, hc])
          rw [setCells_row b e (0, 0) news _ w cur hc (by rw [Nat.zero_add, hsz]; exact hfit), Nat.zero_add, hsz] at hr
          refine ⟨_, _, _, _, hr, hK, ?_⟩
          have hgoal := inplace_next (dst := dst) h hkk h1 h2 h3 hb0 hl hg hc (cur' := (over (n * T.size) news cur.toList).toArray) (cap := c) (ys := xs.take n ++ ys) (by
            rw [List.size_toArray, over_length (by simpa using hfit)]; simpa using hcs.symm) (by rw [hlen2]; exact hroom) q4 (by rw [hlen2]; exact hb) (by
            have hov : over (n * T.size) news cur.toList = (cur.toList.take (n * T.size) ++ news) ++ cur.toList.drop (n * T.size + news.length) := by simp [over]
            rw [hov]; exact rel_more happ)
          rw [hlen2] at hgoal
          exact hgoal
        · have hold : (Builtin.firstCells ie.size n (.slice (some ⟨b, 0, none⟩) n c)).run C.P w.drew = .ok (cur.toList.take (n * T.size)).toArray w.drew :=
            run_firstCells_some w.drew ie.size n ⟨b, 0, none⟩ n c _ (by rw [htkl, hsz]) (fun j v hj => by
              rw [World.cell?_drew, Addr.add_lit, Nat.zero_add, cell_at, at_of_heap hc]
              rw [List.getElem?_take] at hj
              split at hj
              · simpa using hj
              · cases hj)
          have hr := run_append_grow_src (P := C.P) w t tx ty e ie zv hu hie hzv (some ⟨b, 0, none⟩) n c _ hold vx ys.length news hsrc (by omega) (by unfold big at hle; omega) (growslice_fits (by omega) (by rw [hby]; exact hb))
          have hcg := grownCap_ge w (n + ys.length) c e
          have hcm := grownCap_le_maxLen w (n + ys.length) c e (by unfold maxLen; unfold big at hle; omega)
          refine ⟨_, _, _, _, hr, hK, ?_⟩
          have hgoal := rowedF (dst := dst) h (.inr rfl) h1 h2 h3 hb0 e (xs := xs.take n ++ ys) (n := n + ys.length) (cap := grownCap w (n + ys.length) c e) (us := (cur.toList.take (n * T.size) ++ news).toArray ++ Builtin.zeroCells zv.cells (grownCap w (n + ys.length) c e - (n + ys.length))) hlen2.symm (by
            simp only [Array.size_append, List.size_toArray, size_zeroCells, hzs, List.length_append, htkl, hnl, ← Nat.add_mul]; congr 1; omega) (by omega) hcm (by rw [hlen2]; exact hb) (by
            have := rel_more (vs := (Builtin.zeroCells zv.cells (grownCap w (n + ys.length) c e - (n + ys.length))).toList) happ
            simpa using this)
          exact hgoal.forget k
    split at hK
    · obtain ⟨⟨hb⟩, hK⟩ := hK
      cases hs with
      | nil =>
      obtain ⟨h1, h2, h3, hK⟩ := newK_spec hK
      obtain ⟨v', w', r1, r2⟩ := fromNone rfl h1 h2 h3
      exact ⟨v', w', _, _, r1, hK, r2⟩
    · rename_i k hK0
      obtain ⟨ob, hl, hK⟩ := lkK_spec hK
      split at hK
      · split at hK
        · rename_i hee
          have hee := Nat.eq_of_beq_eq_true hee
          subst hee
          split at hK
          · rename_i xs hra
            obtain ⟨e2, he2⟩ := rowAs_inv hra
            rw [he2] at hl
            injection he2 with he2
            subst he2
            refine fromOwn k xs.length xs (VR.full_own hs hl) (fun e => ?_) hl (by simpa using hK)
            have := hf (newK_spec hK.2).2.1
            simp [noRefX, noRefX1, noRefV, e] at this
          · exact hK.elim
        · exact hK.elim
      · exact hK.elim
    · rename_i k off n hK0
      split at hK
      · rename_i hoff
        have hoff := Nat.eq_of_beq_eq_true hoff
        subst hoff
        obtain ⟨ob, hl, hK⟩ := lkK_spec hK
        split at hK
        · split at hK
          · rename_i hee
            have hee := Nat.eq_of_beq_eq_true hee
            subst hee
            split at hK
            · rename_i xs hra
              obtain ⟨e2, he2⟩ := rowAs_inv hra
              rw [he2] at hl
              injection he2 with he2
              subst he2
              refine fromOwn k n xs hs (fun e => ?_) hl hK
              have := hf (newK_spec hK.2).2.1
              simp [noRefX, noRefX1, noRefV, e] at this
            · exact hK.elim
          · exact hK.elim
        · exact hK.elim
      · exact hK.elim
    · exact hK.elim
  · exact hK.elim
end
end Go.Proofs.Ytdpgdeaefmghiaa.Sx

/- The rest of the operations that leave memory alone. -/
namespace Go.Proofs.Ytdpgdeaefmghiaa.Sx
section
variable {C : Cfg} {E : Entry} {env : List X} {obs : List (Option Ob)} {a : Act} {w : World} {γ : Nat → Option Nat} {I : Nat → Prop} {L : Nat → Option Ob} {P : Program}
def isOpt (v : Option Value) (dflt n : Nat) : Prop := (v = none ∧ n = dflt) ∨ ∃ k, v = some (.int k (n : Int))
theorem run_slice_opt {t e : TypeId} {ie : TypeInfo} (hu : P.underlying t = some (.slice e)) (hi : P.info? e = some ie) {ad : Option Addr} {len cap l h : Nat} {lo hiv : Option Value} (hlo : isOpt lo 0 l) (hhi : isOpt hiv len h) (h1 : l ≤ h) (h2 : h ≤ cap) :
    (Instr.sliceAt t (.slice ad len cap) lo hiv none).run P w = .ok (.slice (if cap = l then ad else ad.map (·.add (l * ie.size))) (h - l) (cap - l)) w := by
  have hl' : (l : Int) ≤ h := by omega
  have hh' : (h : Int) ≤ cap := by omega
  rcases hlo with ⟨rfl, rfl⟩ | ⟨k1, rfl⟩ <;> rcases hhi with ⟨rfl, rfl⟩ | ⟨k2, rfl⟩ <;>
    simp [Instr.sliceAt, Instr.slice, Instr.sliceBounds, Instr.sliceBound, asIntOf, run_underlying hu, sizeOf, typeInfo, hi, h1, h2, hl', hh'] <;> omega
theorem run_slice_str {t : TypeId} (hu : P.underlying t = some .string) {s : ByteArray} {l h : Nat} {lo hiv : Option Value} (hlo : isOpt lo 0 l) (hhi : isOpt hiv s.size h) (h1 : l ≤ h) (h2 : h ≤ s.size) :
    (Instr.sliceAt t (.string s) lo hiv none).run P w = .ok (.string (s.extract l h)) w := by
  have hl' : (l : Int) ≤ h := by omega
  have hh' : (h : Int) ≤ s.size := by omega
  rcases hlo with ⟨rfl, rfl⟩ | ⟨k1, rfl⟩ <;> rcases hhi with ⟨rfl, rfl⟩ | ⟨k2, rfl⟩ <;>
    simp [Instr.sliceAt, Instr.slice, Instr.sliceBounds, Instr.sliceBound, asIntOf, run_underlying hu, h1, h2, hl', hh'] <;> omega
/-- A slice of what stands. -/
noncomputable def cutK (obs : List (Option Ob)) (x : X) (lo hi : Option Int) (K : X → Prop) : Prop :=
  match x with
  | .v (.str s) => match lo, hi with
    | none, none => K (.v (.str s))
    | some l, none => Hold (0 ≤ l ∧ l ≤ s.length) ∧ K (.v (.str (s.drop l.toNat)))
    | none, some h => Hold (0 ≤ h ∧ h ≤ s.length) ∧ K (.v (.str (s.take h.toNat)))
    | some l, some h => Hold (0 ≤ l ∧ l ≤ h ∧ h ≤ s.length) ∧ K (.v (.str ((s.take h.toNat).drop l.toNat)))
  | .v (.sl T s) => match lo, hi with
    | none, none => K (.v (.sl T s))
    | some l, none => Hold (0 ≤ l ∧ l ≤ s.length) ∧ K (.v (.sl T (s.drop l.toNat)))
    | none, some h => Hold (0 ≤ h ∧ h ≤ s.length) ∧ K (.v (.sl T (s.take h.toNat)))
    | some l, some h => Hold (0 ≤ l ∧ l ≤ h ∧ h ≤ s.length) ∧ K (.v (.sl T ((s.take h.toNat).drop l.toNat)))
  | .v (.own k off n) => lkK obs k fun ob => match ob with
    | .row .. => match lo, hi with
      | none, none => K (.v (.own k off n))
      | some l, none => Hold (0 ≤ l ∧ l ≤ n) ∧ K (.v (.own k (off + l.toNat) (n - l.toNat)))
      | none, some h => Hold (0 ≤ h ∧ h ≤ n) ∧ K (.v (.own k off h.toNat))
      | some l, some h => Hold (0 ≤ l ∧ l ≤ h ∧ h ≤ n) ∧ K (.v (.own k (off + l.toNat) (h.toNat - l.toNat)))
    | .box _ => False
  | _ => False
def optInt (x : Option X) (K : Option Int → Prop) : Prop :=
  match x with
  | none => K none
  | some (.v (.int _ n)) => K (some n)
  | _ => False
def optX (C : Cfg) (env : List X) (o : Option Operand) (K : Option X → Prop) : Prop :=
  match o with
  | none => K none
  | some o => opdK C env o fun x => K (some x)
/-- How the table's type of a slice or a string fits what is cut. -/
def cutOk (d : TD) (obs : List (Option Ob)) (x : X) : Bool :=
  match d, x with
  | .str, .v (.str _) => true
  | .sl _ T0, .v (.sl T _) => Nat.beq T0.size T.size
  | .sl _ T0, .v (.own k _ _) => match lk obs k with
    | some (.row _ T _) => Nat.beq T0.size T.size
    | _ => false
  | _, _ => false
theorem at_own_row {k : Nat} {e : TypeId} {T : Ty} {xs : List T.D} {b : Nat} (hm : MR γ I w L) (hl : L k = some (.row e T xs)) (hb : γ k = some b) : xs.length * T.bytes ≤ big := by
  obtain ⟨_, _, _, _, _, _, h, _⟩ := hm.row_at hl hb; exact h
theorem cut_sound (hT : ∀ t, TdOk C.P t (C.td t)) (hm : MR γ I w (lk obs)) {t : TypeId} {x : X} {u : Value} (hx : XR γ I w (lk obs) x u) {lo hi : Option Int} {vlo vhi : Option Value}
    (hlo : (lo = none ∧ vlo = none) ∨ ∃ k n, lo = some n ∧ vlo = some (.int k n)) (hhi : (hi = none ∧ vhi = none) ∨ ∃ k n, hi = some n ∧ vhi = some (.int k n))
    (hok : cutOk (C.td t) obs x = true) {K : X → Prop} (hK : cutK obs x lo hi K) :
    ∃ v y, (Instr.sliceAt t u vlo vhi none).run C.P w = .ok v w ∧ XR γ I w (lk obs) y v ∧ K y := by
  have ht := hT t
  unfold cutOk at hok
  split at hok
  · rename_i s htd
    rw [htd] at ht
    obtain ⟨hu, _⟩ := ht
    cases hx with
    | str _ hb =>
    have hsz : (⟨s.toArray⟩ : ByteArray).size = s.length := by simp [ByteArray.size]
    have main : ∀ (l h : Nat), isOpt vlo 0 l → isOpt vhi s.length h → l ≤ h → h ≤ s.length → (Instr.sliceAt t (.string ⟨s.toArray⟩) vlo vhi none).run C.P w = .ok (.string ⟨((s.take h).drop l).toArray⟩) w ∧ XR γ I w (lk obs) (.v (.str ((s.take h).drop l))) (.string ⟨((s.take h).drop l).toArray⟩) := by
      intro l h h1 h2 h3 h4
      refine ⟨?_, VR.str _ (by simp; omega)⟩
      rw [run_slice_str hu h1 (by rw [hsz]; exact h2) h3 (by rw [hsz]; exact h4)]
      congr 2
      apply ByteArray.ext
      simp [ByteArray.data_extract, List.drop_take]
    unfold cutK at hK
    rcases hlo with ⟨rfl, rfl⟩ | ⟨k1, l, rfl, rfl⟩ <;> rcases hhi with ⟨rfl, rfl⟩ | ⟨k2, h, rfl, rfl⟩
    · obtain ⟨h1, h2⟩ := main 0 s.length (.inl ⟨rfl, rfl⟩) (.inl ⟨rfl, rfl⟩) (by omega) (by omega)
      exact ⟨_, _, h1, h2, by simpa using hK⟩
    · obtain ⟨⟨h0, h1⟩, hK⟩ := hK
      obtain ⟨h2, h3⟩ := main 0 h.toNat (.inl ⟨rfl, rfl⟩) (.inr ⟨k2, by rw [Int.toNat_of_nonneg h0]⟩) (by omega) (by omega)
      exact ⟨_, _, h2, h3, by simpa using hK⟩
    · obtain ⟨⟨h0, h1⟩, hK⟩ := hK
      obtain ⟨h2, h3⟩ := main l.toNat s.length (.inr ⟨k1, by rw [Int.toNat_of_nonneg h0]⟩) (.inl ⟨rfl, rfl⟩) (by omega) (by omega)
      exact ⟨_, _, h2, h3, by simpa using hK⟩
    · obtain ⟨⟨h0, h1, h4⟩, hK⟩ := hK
      obtain ⟨h2, h3⟩ := main l.toNat h.toNat (.inr ⟨k1, by rw [Int.toNat_of_nonneg h0]⟩) (.inr ⟨k2, by rw [Int.toNat_of_nonneg (by omega)]⟩) (by omega) (by omega)
      exact ⟨_, _, h2, h3, hK⟩
  · rename_i e T0 T s htd
    rw [htd] at ht
    obtain ⟨hu, _, ie, zv, hie, hisz, _⟩ := ht
    have hTs : ie.size = T.size := by rw [hisz]; exact Nat.eq_of_beq_eq_true hok
    obtain ⟨ad, c, rfl, hle, hs⟩ := VR.sl_inv hx
    have main : ∀ (l h : Nat), isOpt vlo 0 l → isOpt vhi s.length h → l ≤ h → h ≤ s.length → ∃ v, (Instr.sliceAt t (.slice ad s.length c) vlo vhi none).run C.P w = .ok v w ∧ XR γ I w (lk obs) (.v (.sl T ((s.take h).drop l))) v := by
      intro l h h1 h2 h3 h4
      refine ⟨_, run_slice_opt hu hie h1 h2 h3 (by omega), ?_⟩
      have hlen : ((s.take h).drop l).length = h - l := by simp; omega
      by_cases hlh : h - l = 0
      · have hnil : (s.take h).drop l = [] := List.eq_nil_of_length_eq_zero (by omega)
        rw [hnil, hlh]; exact VR.slE T _ _
      · rcases hs with rfl | ⟨hb, b, o, rfl, hI, hat⟩
        · simp at h4; omega
        · rw [if_neg (by omega), ← hlen]
          simp only [Option.map_some, Addr.add_lit]
          refine VR.sl_mk (by omega) (by rw [hlen]; exact Nat.le_trans (Nat.mul_le_mul_right _ (by omega)) hb) hI ?_
          rw [hTs]
          have h5 := hat.drop (l * T.size)
          rw [flat_drop] at h5
          intro j cc hj
          rw [List.drop_take, ← flat_take, List.getElem?_take] at hj
          split at hj
          · exact h5 j cc hj
          · cases hj
    unfold cutK at hK
    rcases hlo with ⟨rfl, rfl⟩ | ⟨k1, l, rfl, rfl⟩ <;> rcases hhi with ⟨rfl, rfl⟩ | ⟨k2, h, rfl, rfl⟩
    · obtain ⟨v, h1, h2⟩ := main 0 s.length (.inl ⟨rfl, rfl⟩) (.inl ⟨rfl, rfl⟩) (by omega) (by omega)
      exact ⟨v, _, h1, h2, by simpa using hK⟩
    · obtain ⟨⟨h0, h1⟩, hK⟩ := hK
      obtain ⟨v, h2, h3⟩ := main 0 h.toNat (.inl ⟨rfl, rfl⟩) (.inr ⟨k2, by rw [Int.toNat_of_nonneg h0]⟩) (by omega) (by omega)
      exact ⟨v, _, h2, h3, by simpa using hK⟩
    · obtain ⟨⟨h0, h1⟩, hK⟩ := hK
      obtain ⟨v, h2, h3⟩ := main l.toNat s.length (.inr ⟨k1, by rw [Int.toNat_of_nonneg h0]⟩) (.inl ⟨rfl, rfl⟩) (by omega) (by omega)
      exact ⟨v, _, h2, h3, by simpa using hK⟩
    · obtain ⟨⟨h0, h1, h4⟩, hK⟩ := hK
      obtain ⟨v, h2, h3⟩ := main l.toNat h.toNat (.inr ⟨k1, by rw [Int.toNat_of_nonneg h0]⟩) (.inr ⟨k2, by rw [Int.toNat_of_nonneg (by omega)]⟩) (by omega) (by omega)
      exact ⟨v, _, h2, h3, hK⟩
  · rename_i e T0 k off n htd
    rw [htd] at ht
    obtain ⟨hu, _, ie, zv, hie, hisz, _⟩ := ht
    split at hok
    · rename_i e' T xs hl
      have hTs : ie.size = T.size := by rw [hisz]; exact Nat.eq_of_beq_eq_true hok
      unfold cutK at hK
      obtain ⟨ob, hl', hK⟩ := lkK_spec hK
      rw [hl] at hl'; injection hl' with hl'; subst hl'
      have main : ∀ (l h : Nat), isOpt vlo 0 l → isOpt vhi n h → l ≤ h → h ≤ n → ∃ v, (Instr.sliceAt t u vlo vhi none).run C.P w = .ok v w ∧ XR γ I w (lk obs) (.v (.own k (off + l) (h - l))) v := by
        intro l h h1 h2 h3 h4
        rcases VR.own_inv hx hl with ⟨hg, rfl, rfl, rfl⟩ | ⟨b, c, cur, o, hg, rfl, hle, hc, hsz, ho, hnc⟩
        · have : h = 0 := by omega
          subst this
          have : l = 0 := by omega
          subst this
          exact ⟨_, run_slice_opt hu hie h1 h2 h3 (by omega), VR.ownN k hg⟩
        · refine ⟨_, run_slice_opt hu hie h1 h2 h3 (by omega), ?_⟩
          have hsz' : (off + l + (c - l)) * T.size = cur.size := by rw [← hsz]; congr 1; omega
          by_cases hcl : c = l
          · rw [if_pos hcl]
            refine VR.own k (off + l) (h - l) b (c - l) e' T.size T xs cur o hl hg (by omega) hc rfl hsz' ?_ (by omega)
            by_cases h0 : off + l = 0
            · have : off = 0 := by omega
              subst this
              have : l = 0 := by omega
              subst this
              rcases ho with ⟨_, h5⟩ | h5
              · exact absurd rfl h5
              · exact .inr (by simpa using h5)
            · exact .inl ⟨by omega, h0⟩
          · rw [if_neg hcl]
            simp only [Option.map_some, Addr.add_lit, hTs]
            refine VR.own k (off + l) (h - l) b (c - l) e' T.size T xs cur _ hl hg (by omega) hc rfl hsz' ?_ (by omega)
            rcases ho with ⟨h5, h6⟩ | rfl
            · exact .inl ⟨by omega, by omega⟩
            · exact .inr (by rw [Nat.add_mul])
      rcases hlo with ⟨rfl, rfl⟩ | ⟨k1, l, rfl, rfl⟩ <;> rcases hhi with ⟨rfl, rfl⟩ | ⟨k2, h, rfl, rfl⟩
      · obtain ⟨v, h1, h2⟩ := main 0 n (.inl ⟨rfl, rfl⟩) (.inl ⟨rfl, rfl⟩) (by omega) (by omega)
        exact ⟨v, _, h1, h2, by simpa using hK⟩
      · obtain ⟨⟨h0, h1⟩, hK⟩ := hK
        obtain ⟨v, h2, h3⟩ := main 0 h.toNat (.inl ⟨rfl, rfl⟩) (.inr ⟨k2, by rw [Int.toNat_of_nonneg h0]⟩) (by omega) (by omega)
        exact ⟨v, _, h2, h3, by simpa using hK⟩
      · obtain ⟨⟨h0, h1⟩, hK⟩ := hK
        obtain ⟨v, h2, h3⟩ := main l.toNat n (.inr ⟨k1, by rw [Int.toNat_of_nonneg h0]⟩) (.inl ⟨rfl, rfl⟩) (by omega) (by omega)
        exact ⟨v, _, h2, h3, by simpa using hK⟩
      · obtain ⟨⟨h0, h1, h4⟩, hK⟩ := hK
        obtain ⟨v, h2, h3⟩ := main l.toNat h.toNat (.inr ⟨k1, by rw [Int.toNat_of_nonneg h0]⟩) (.inr ⟨k2, by rw [Int.toNat_of_nonneg (by omega)]⟩) (by omega) (by omega)
        exact ⟨v, _, h2, h3, hK⟩
    · simp at hok
  · simp at hok
end
end Go.Proofs.Ytdpgdeaefmghiaa.Sx

/- More operations that leave memory alone. -/
namespace Go.Proofs.Ytdpgdeaefmghiaa.Sx
section
variable {C : Cfg} {E : Entry} {env : List X} {obs : List (Option Ob)} {a : Act} {w : World} {γ : Nat → Option Nat} {I : Nat → Prop} {L : Nat → Option Ob} {P : Program}
def intX (n : Nat) : X := .v (.int .i64 (n : Int))
def lenK (d : TD) (obs : List (Option Ob)) (x : X) (K : X → Prop) : Prop :=
  match d with
  | .str => match x with
    | .v (.str s) => K (.v (.int .i64 s.length))
    | _ => False
  | .sl _ _ => match x with
    | .v (.sl _ xs) => K (.v (.int .i64 xs.length))
    | .v .nil => K (.v (.int .i64 0))
    | .v (.full k) => lkK obs k fun ob => match ob with
      | .row _ _ xs => K (.v (.int .i64 xs.length))
      | .box _ => False
    | .v (.own k _ n) => lkK obs k fun ob => match ob with
      | .row .. => K (.v (.int .i64 n))
      | .box _ => False
    | _ => False
  | _ => False
theorem inR_nat {n : Nat} (h : n ≤ big) : inR .i64 (n : Int) := ⟨by simp [lo], by simp only [hi]; unfold big at h; omega⟩
theorem VR.own_len (hm : MR γ I w L) {k off n : Nat} {u : Value} (h : VR γ I w L (.own k off n) u) {e : TypeId} {T : Ty} {xs : List T.D} (hl : L k = some (.row e T xs)) : ∃ ad c, u = .slice ad n c ∧ n ≤ big := by
  rcases VR.own_inv h hl with ⟨_, _, rfl, rfl⟩ | ⟨b, c, cur, o, hg, rfl, hle, _⟩
  · exact ⟨none, 0, rfl, by unfold big; omega⟩
  · have h1 := at_own_row hm hl hg
    have h2 : xs.length * 1 ≤ xs.length * T.bytes := Nat.mul_le_mul_left _ T.bytes_pos
    exact ⟨_, c, rfl, by omega⟩
theorem len_sound (hm : MR γ I w (lk obs)) {t : TypeId} {d : TD} (ht : TdOk P t d) {ts : Array TypeId} (hts : ts[0]? = some t) {ty : TypeId} {x : X} {u : Value} (hx : XR γ I w (lk obs) x u) {K : X → Prop} (hK : lenK d obs x K) :
    ∃ v y, (Builtin.len_ ts ty #[u]).run P w = .ok v w ∧ XR γ I w (lk obs) y v ∧ K y := by
  unfold lenK at hK
  split at hK
  · obtain ⟨hu, _⟩ := ht
    split at hK
    · cases hx with
      | str _ hb =>
      rename_i s
      refine ⟨.int .i64 s.length, .v (.int .i64 s.length), ?_, VR.int _ _ (inR_nat hb), hK⟩
      have hsz : (⟨s.toArray⟩ : ByteArray).size = s.length := by simp [ByteArray.size]
      simp [Builtin.len_, hts, run_underlying hu, goInt, hsz]
    · exact hK.elim
  · obtain ⟨hu, _⟩ := ht
    have main : ∀ (ad : Option Addr) (n c : Nat), u = .slice ad n c → n ≤ big → K (.v (.int .i64 n)) → ∃ v y, (Builtin.len_ ts ty #[u]).run P w = .ok v w ∧ XR γ I w (lk obs) y v ∧ K y := by
      intro ad n c hu' hn hK
      subst hu'
      refine ⟨.int .i64 n, .v (.int .i64 n), ?_, VR.int _ _ (inR_nat hn), hK⟩
      simp [Builtin.len_, hts, run_underlying hu, goInt]
    split at hK
    · rename_i T xs
      obtain ⟨ad, c, rfl, _, h⟩ := VR.sl_inv hx
      refine main _ _ _ rfl ?_ hK
      rcases h with rfl | ⟨hb, _⟩
      · simp [big]
      · have h2 : xs.length * 1 ≤ xs.length * T.bytes := Nat.mul_le_mul_left _ T.bytes_pos
        omega
    · cases hx with
      | nil => exact main _ _ _ rfl (by unfold big; omega) hK
    · obtain ⟨ob, hl, hK⟩ := lkK_spec hK
      split at hK
      · obtain ⟨ad, c, h1, h2⟩ := VR.own_len hm (VR.full_own hx hl) hl
        exact main _ _ _ h1 h2 hK
      · exact hK.elim
    · obtain ⟨ob, hl, hK⟩ := lkK_spec hK
      split at hK
      · obtain ⟨ad, c, h1, h2⟩ := VR.own_len hm hx hl
        exact main _ _ _ h1 h2 hK
      · exact hK.elim
    · exact hK.elim
  · exact hK.elim
noncomputable def fieldK (d : TD) (f : Nat) (x : X) (K : X → Prop) : Prop :=
  match d with
  | .st fs _ => match fs[f]? with
    | some d => match x with
      | .agg cs => match d.agg with
        | true => dropK d.off cs fun cs => takeK d.size cs fun cs => match Nat.beq cs.length d.size with
          | true => K (.agg cs)
          | false => False
        | false => dropK d.off cs fun cs => headK cs K
      | _ => False
    | none => False
  | _ => False
theorem field_sound {t : TypeId} {d : TD} (ht : TdOk P t d) {f : Nat} {x : X} {u : Value} (hx : XR γ I w L x u) {K : X → Prop} (hK : fieldK d f x K) :
    ∃ v y, (Instr.field t u f).run P w = .ok v w ∧ XR γ I w L y v ∧ K y := by
  unfold fieldK at hK
  split at hK
  · rename_i fs zero
    obtain ⟨⟨fields, hu, _, hf⟩, _⟩ := ht
    split at hK
    · rename_i d hd
      obtain ⟨fl, h1, h2, ⟨i, h3, h4⟩, h5, h6, dd, hdd⟩ := hf f d hd
      split at hK
      · rename_i cs
        obtain ⟨us, rfl, hz, hr⟩ := hx
        split at hK
        · rename_i hag
          rw [hag] at h6
          simp only [dropK_eq, takeK_eq] at hK
          split at hK
          · rename_i hb
            have hb := Nat.eq_of_beq_eq_true hb
            have hlen : d.off + d.size ≤ us.size := by rw [List.length_take, List.length_drop] at hb; omega
            refine ⟨.agg (us.extract d.off (d.off + d.size)), .agg ((cs.drop d.off).take d.size), ?_, ⟨_, rfl, by simp [hb]; omega, fun j c hj => ?_⟩, hK⟩
            · simp [Instr.field, run_underlying hu, h1, asAgg, part, run_isAgg hdd, h6, h2, sizeOf, typeInfo, h3, h4]
            · rw [List.getElem?_take] at hj
              split at hj
              · rename_i hjs
                rw [List.getElem?_drop] at hj
                obtain ⟨z, q1, q2⟩ := hr _ c hj
                exact ⟨z, by rw [Array.getElem?_extract, if_pos (by omega)]; exact q1, q2⟩
              · cases hj
          · exact hK.elim
        · rename_i hag
          rw [dropK_eq] at hK
          unfold headK at hK
          split at hK
          · rename_i c rest hcs
            have hc : cs[d.off]? = some c := by
              have : (cs.drop d.off)[0]? = some c := by rw [hcs]; rfl
              rw [List.getElem?_drop] at this; simpa using this
            obtain ⟨z, q1, q2⟩ := hr _ c hc
            refine ⟨z, .v c, ?_, q2, hK⟩
            rw [hag] at h6
            simp [Instr.field, run_underlying hu, h1, asAgg, part, run_isAgg hdd, h6, h2, q1]
          · exact hK.elim
      · exact hK.elim
    · exact hK.elim
  · exact hK.elim
end
end Go.Proofs.Ytdpgdeaefmghiaa.Sx

/- Conversions, choices, tuples. -/
namespace Go.Proofs.Ytdpgdeaefmghiaa.Sx
section
variable {C : Cfg} {E : Entry} {env : List X} {obs : List (Option Ob)} {a : Act} {w : World} {γ : Nat → Option Nat} {I : Nat → Prop} {L : Nat → Option Ob} {P : Program}
/-- What a part of a row holds, in memory. -/
theorem own_content (hm : MR γ I w L) {k off n : Nat} {u : Value} (hx : VR γ I w L (.own k off n) u) {e : TypeId} {T : Ty} {xs : List T.D} (hl : L k = some (.row e T xs)) :
    ((xs.drop off).take n).length = n ∧ n * T.bytes ≤ big ∧ ∃ ad c, u = .slice ad n c ∧ n ≤ c ∧ (n = 0 ∨ ∃ b o, γ k = some b ∧ ad = some ⟨b, o, none⟩ ∧ At γ I w L b o (flat T ((xs.drop off).take n))) := by
  rcases VR.own_inv hx hl with ⟨hg, rfl, rfl, rfl⟩ | ⟨b, c, cur, o, hg, rfl, hle, hc, hsz, ho, hnc⟩
  · exact ⟨by simp, by simp, none, 0, rfl, by omega, .inl rfl⟩
  · obtain ⟨cur', cap, q1, q2, q3, q4, q5, hat⟩ := hm.row_at hl hg
    have hlen : ((xs.drop off).take n).length = n := by rw [List.length_take, List.length_drop]; omega
    refine ⟨hlen, Nat.le_trans (Nat.mul_le_mul_right _ (by omega)) q5, _, c, rfl, hnc, ?_⟩
    rcases ho with ⟨h0, _⟩ | rfl
    · exact .inl h0
    · refine .inr ⟨b, _, hg, rfl, fun j c hj => ?_⟩
      rw [← flat_take, ← flat_drop, List.getElem?_take] at hj
      split at hj
      · rw [List.getElem?_drop] at hj
        obtain ⟨x, r1, r2⟩ := hat _ c hj
        exact ⟨x, by rw [← r1]; congr 1; omega, r2⟩
      · cases hj
/-- What a slice holds, whoever owns it. -/
noncomputable def seqK (obs : List (Option Ob)) (T : Ty) (x : X) (K : List T.D → Prop) : Prop :=
  match x with
  | .v (.full k) => lkK obs k fun ob => match rowAs T ob with
    | some xs => K xs
    | none => False
  | .v (.own k off n) => lkK obs k fun ob => match rowAs T ob with
    | some xs => K ((xs.drop off).take n)
    | none => False
  | .v c => match slOf T c with
    | some ys => K ys
    | none => False
  | _ => False
theorem seq_sound (hm : MR γ I w (lk obs)) {T : Ty} {x : X} {u : Value} (hx : XR γ I w (lk obs) x u) {K : List T.D → Prop} (hK : seqK obs T x K) :
    ∃ ys, K ys ∧ ys.length * T.bytes ≤ big ∧ ∃ ad c, u = .slice ad ys.length c ∧ ys.length ≤ c ∧ (ys.length = 0 ∨ ∃ b o, ad = some ⟨b, o, none⟩ ∧ At γ I w (lk obs) b o (flat T ys)) := by
  have ofOwn : ∀ (k off n : Nat) (e : TypeId) (xs : List T.D), VR γ I w (lk obs) (.own k off n) u → lk obs k = some (.row e T xs) → K ((xs.drop off).take n) →
      ∃ ys, K ys ∧ ys.length * T.bytes ≤ big ∧ ∃ ad c, u = .slice ad ys.length c ∧ ys.length ≤ c ∧ (ys.length = 0 ∨ ∃ b o, ad = some ⟨b, o, none⟩ ∧ At γ I w (lk obs) b o (flat T ys)) := by
    intro k off n e xs hx hl hK
    obtain ⟨h1, h2, ad, c, h3, h4, h5⟩ := own_content hm hx hl
    refine ⟨_, hK, by rw [h1]; exact h2, ad, c, by rw [h1]; exact h3, by rw [h1]; exact h4, ?_⟩
    rw [h1]
    rcases h5 with h5 | ⟨b, o, _, h6, h7⟩
    · exact .inl h5
    · exact .inr ⟨b, o, h6, h7⟩
  unfold seqK at hK
  split at hK
  · obtain ⟨ob, hl, hK⟩ := lkK_spec hK
    split at hK
    · rename_i xs hr
      obtain ⟨e, rfl⟩ := rowAs_inv hr
      exact ofOwn _ 0 xs.length e xs (VR.full_own hx hl) hl (by simpa using hK)
    · exact hK.elim
  · obtain ⟨ob, hl, hK⟩ := lkK_spec hK
    split at hK
    · rename_i xs hr
      obtain ⟨e, rfl⟩ := rowAs_inv hr
      exact ofOwn _ _ _ e xs hx hl hK
    · exact hK.elim
  · split at hK
    · rename_i ys hs
      obtain ⟨ad, c, h1, h2, h3⟩ := VR.sl_inv (slOf_inv hs hx)
      refine ⟨ys, hK, ?_, ad, c, h1, h2, ?_⟩
      · rcases h3 with rfl | ⟨h3, _⟩
        · simp
        · exact h3
      · rcases h3 with rfl | ⟨_, b, o, h4, _, h5⟩
        · exact .inl rfl
        · exact .inr ⟨b, o, h4, h5⟩
    · exact hK.elim
  · exact hK.elim
theorem toNat_ofNat (b : UInt8) : UInt8.ofNat ((b.toNat : Int)).toNat = b := by simp
theorem push_all : ∀ (s : List UInt8) (acc : List UInt8), (s.map fun b => (b.toNat : Int)).foldl (fun r n => r.push (UInt8.ofNat n.toNat)) (⟨acc.toArray⟩ : ByteArray) = ⟨(acc ++ s).toArray⟩
  | [], acc => by simp
  | b :: s, acc => by
    have hp : (⟨acc.toArray⟩ : ByteArray).push b = ⟨(acc ++ [b]).toArray⟩ := by apply ByteArray.ext; simp [ByteArray.push]
    simp only [List.map_cons, List.foldl_cons, toNat_ofNat, hp]
    rw [push_all s (acc ++ [b])]; simp
def widens : IntKind → IntKind → Bool
  | .u8, .i64 => true | .u16, .i64 => true | .u32, .i64 => true | .i16, .i64 => true | .i32, .i64 => true | .i8, .i64 => true | .i64, .i64 => true
  | .u8, .u64 => true | .u16, .u64 => true | .u32, .u64 => true | .u64, .u64 => true
  | .u8, .u16 => true | .u16, .u16 => true | .u8, .u32 => true | .u16, .u32 => true | .u32, .u32 => true | .u8, .u8 => true | .i16, .i16 => true
  | .u8, .i32 => true | .i32, .i32 => true | .i16, .i32 => true
  | _, _ => false
theorem widens_in {k k' : IntKind} (h : widens k k' = true) {n : Int} (hn : inR k n) : inR k' n := by
  revert h hn
  cases k <;> cases k' <;> simp [widens, inR, lo, hi] <;> omega
noncomputable def convertK (C : Cfg) (s d : TypeId) (obs : List (Option Ob)) (x : X) (K : X → Prop) : Prop :=
  match C.td d with
  | .int k => match C.td s with
    | .int _ => match x with
      | .v (.int k' n) => match widens k' k with
        | true => K (.v (.int k n))
        | false => K (.v (.int k (k.wrap n)))
      | _ => False
    | _ => False
  | .str => match C.td s with
    | .str => match x with
      | .v (.str s) => K (.v (.str s))
      | _ => False
    | .sl e _ => match C.td e with
      | .int .u8 => seqK obs .u8 x fun s => K (.v (.str s))
      | _ => False
    | _ => False
  | _ => False
theorem convert_sound (hT : ∀ t, TdOk C.P t (C.td t)) (hm : MR γ I w (lk obs)) {s d : TypeId} {x : X} {u : Value} (hx : XR γ I w (lk obs) x u) {K : X → Prop} (hK : convertK C s d obs x K) :
    ∃ v y, (convert s d u).run C.P w = .ok v w ∧ XR γ I w (lk obs) y v ∧ K y := by
  unfold convertK at hK
  have hd := hT d
  have hs := hT s
  split at hK
  · rename_i k hdd
    rw [hdd] at hd
    obtain ⟨hud, _⟩ := hd
    split at hK
    · rename_i ks hss
      rw [hss] at hs
      obtain ⟨hus, _⟩ := hs
      split at hK
      · rename_i k' n
        cases hx with
        | int _ _ hn =>
        have hr : (convert s d (.int k' n)).run C.P w = .ok (.int k (k.wrap n)) w := by simp [convert, run_underlying hus, run_underlying hud, Conv.intToInt]
        split at hK
        · rename_i hw
          have := widens_in hw hn
          exact ⟨.int k n, .v (.int k n), by rw [hr, wrap_in this], VR.int _ _ this, hK⟩
        · exact ⟨_, .v (.int k (k.wrap n)), hr, VR.int _ _ (inR_wrap _ _), hK⟩
      · exact hK.elim
    · exact hK.elim
  · rename_i hdd
    rw [hdd] at hd
    obtain ⟨hud, _⟩ := hd
    split at hK
    · rename_i hss
      rw [hss] at hs
      obtain ⟨hus, _⟩ := hs
      split at hK
      · rename_i l
        cases hx with
        | str _ hn =>
        exact ⟨_, .v (.str l), by simp [convert, run_underlying hus, run_underlying hud], VR.str _ hn, hK⟩
      · exact hK.elim
    · rename_i e T hss
      rw [hss] at hs
      obtain ⟨hus, _⟩ := hs
      have he := hT e
      split at hK
      · rename_i hee
        rw [hee] at he
        obtain ⟨hue, _⟩ := he
        obtain ⟨ys, hK, hb, ad, c, rfl, hc, h⟩ := seq_sound hm hx hK
        have hb' : ys.length ≤ big := by simpa [Ty.bytes] using hb
        refine ⟨.string ⟨ys.toArray⟩, .v (.str ys), ?_, VR.str _ hb', hK⟩
        rw [run_convert_bytes_string w s d e ad ys.length c hus hue hud]
        cases ad with
        | none =>
          rcases h with h | ⟨b, o, h, _⟩
          · have : ys = [] := List.eq_nil_of_length_eq_zero h
            subst this; rfl
          · cases h
        | some ad =>
          have hl : (loadCells ad ys.length).run C.P w = .ok ((ys.map fun b => (b.toNat : Int)).map (Value.int .u8)).toArray w := by
            have hll : ys.length = ((ys.map fun b => (b.toNat : Int)).map (Value.int .u8)).length := by simp
            conv => lhs; rw [hll]
            refine run_loadCells_list (P := C.P) w ad _ (fun j v hj => ?_)
            rcases h with h | ⟨b, o, h1, hat⟩
            · have := (List.getElem?_eq_some_iff.1 hj).1; simp [h] at this
            · injection h1 with h1; subst h1
              simp only [List.map_map, List.getElem?_map] at hj
              cases hy : ys[j]? with
              | none => rw [hy] at hj; cases hj
              | some y =>
                rw [hy] at hj; injection hj with hj; subst hj
                obtain ⟨z, q1, q2⟩ := hat j (.int .u8 y.toNat) (by rw [flat_u8, List.getElem?_map, hy]; rfl)
                rw [Addr.add_lit, cell_at, q1]
                cases q2; rfl
          rw [run_bytesToString w ad ys.length c _ hl]
          have := push_all ys []
          simp only [List.nil_append] at this
          rw [show ByteArray.empty = (⟨([] : List UInt8).toArray⟩ : ByteArray) from rfl, this]
      · exact hK.elim
    · exact hK.elim
  · exact hK.elim
def unK (op : UnOp) (x : X) (K : X → Prop) : Prop :=
  match op with
  | .not => match x with
    | .v .tt => K (.v .ff)
    | .v .ff => K (.v .tt)
    | .v (.bool b) => K (.v (.bool !b))
    | _ => False
  | .neg => match x with
    | .v (.int k n) => arK k (0 - n) K
    | _ => False
  | _ => False
theorem un_sound {op : UnOp} {x : X} {u : Value} (hx : XR γ I w L x u) {K : X → Prop} (hK : unK op x K) : ∃ v y, (Op.unary op u).run P w = .ok v w ∧ XR γ I w L y v ∧ K y := by
  unfold unK at hK
  split at hK
  · split at hK
    · cases hx; exact ⟨_, .v .ff, by simp [Op.unary], VR.ff, hK⟩
    · cases hx; exact ⟨_, .v .tt, by simp [Op.unary], VR.tt, hK⟩
    · rename_i b; cases hx; exact ⟨_, .v (.bool !b), by simp [Op.unary], VR.bool _, hK⟩
    · exact hK.elim
  · split at hK
    · rename_i k n
      cases hx
      obtain ⟨y, h1, h2⟩ := ar_sound (γ := γ) (I := I) (w := w) (L := L) hK
      exact ⟨_, y, by simp [Op.unary, Op.intArith], h1, h2⟩
    · exact hK.elim
  · exact hK.elim
def indexK (d : TD) (x i : X) (K : X → Prop) : Prop :=
  match d with
  | .str => match x with
    | .v (.str s) => match i with
      | .v (.int _ i) => Hold (0 ≤ i ∧ i < s.length) ∧ K (.v (.int .u8 (UInt8.toNat (s.getD i.toNat 0))))
      | _ => False
    | _ => False
  | _ => False
theorem index_sound {t : TypeId} {d : TD} (ht : TdOk P t d) {x i : X} {u ui : Value} (hx : XR γ I w L x u) (hi : XR γ I w L i ui) {K : X → Prop} (hK : indexK d x i K) : ∃ v y, (Instr.index t u ui).run P w = .ok v w ∧ XR γ I w L y v ∧ K y := by
  unfold indexK at hK
  split at hK
  · obtain ⟨hu, _⟩ := ht
    split at hK
    · rename_i s
      cases hx with
      | str _ hb =>
      split at hK
      · rename_i k i
        cases hi with
        | int _ _ hn =>
        obtain ⟨⟨h0, h1⟩, hK⟩ := hK
        have hsz : (⟨s.toArray⟩ : ByteArray).size = s.length := by simp [ByteArray.size]
        have hlt : i.toNat < s.length := by omega
        have hg : (⟨s.toArray⟩ : ByteArray)[i.toNat]? = some (s.getD i.toNat 0) := by
          rw [getElem?_pos _ _ (by rw [hsz]; exact hlt), List.getD_eq_getElem?_getD, List.getElem?_eq_getElem hlt]; rfl
        have hb := (s.getD i.toNat 0).toNat_lt
        refine ⟨_, .v (.int .u8 (UInt8.toNat (s.getD i.toNat 0))), ?_, VR.int _ _ ⟨by simp [lo], by simp only [Sx.hi]; omega⟩, hK⟩
        simp [Instr.index, asIntOf, run_underlying hu, h0, hg]
      · exact hK.elim
    · exact hK.elim
  · exact hK.elim
def extractK (n : Nat) (x : X) (K : X → Prop) : Prop :=
  match x with
  | .tup xs => match xs[n]? with
    | some (.tup _) => False
    | some x => K x
    | none => False
  | _ => False
theorem extract_sound {n : Nat} {x : X} {u : Value} (hx : XR γ I w L x u) {K : X → Prop} (hK : extractK n x K) : ∃ v y, (Instr.extract u n).run P w = .ok v w ∧ XR γ I w L y v ∧ K y := by
  unfold extractK at hK
  split at hK
  · rename_i xs
    obtain ⟨us, rfl, hz, hr⟩ := hx
    split at hK
    · exact hK.elim
    · rename_i y hne hy
      obtain ⟨z, h1, h2⟩ := hr n y hy
      refine ⟨z, y, by simp [Instr.extract, h1], ?_, hK⟩
      cases y with
      | v c => exact h2
      | agg cs => exact h2
      | tup ys => exact absurd rfl (hne ys)
    · exact hK.elim
  · exact hK.elim
end
end Go.Proofs.Ytdpgdeaefmghiaa.Sx

/- Calls. -/
namespace Go.Proofs.Ytdpgdeaefmghiaa.Sx
abbrev Obs := List (Option Ob)
abbrev Spec := List X → Obs → (X → Obs → Prop) → Prop
def renAll (f : Nat → Option Nat) : List Nat → Option (List Nat)
  | [] => some []
  | k :: ks => match f k with
    | some j => match renAll f ks with
      | some js => some (j :: js)
      | none => none
    | none => none
def renV (f : Nat → Option Nat) : V → V
  | .ptr k o => match f k with | some j => .ptr j o | none => .any
  | .own k o n => match f k with | some j => .own j o n | none => .any
  | .full k => match f k with | some j => .full j | none => .any
  | .ep k i o => match f k with | some j => .ep j i o | none => .any
  | .fn g caps => match renAll f caps with | some js => .fn g js | none => .any
  | .tt => .bool true
  | .ff => .bool false
  | c => c
def renX1 (f : Nat → Option Nat) : X → X
  | .v c => .v (renV f c)
  | .agg cs => .agg (cs.map (renV f))
  | .tup xs => .tup xs
def renX (f : Nat → Option Nat) : X → X
  | .tup xs => .tup (xs.map (renX1 f))
  | x => renX1 f x
def renO (f : Nat → Option Nat) : Ob → Ob
  | .box cells => .box (cells.map (renV f))
  | o => o
section
variable {γ γ' : Nat → Option Nat} {I : Nat → Prop} {w : World} {L L' : Nat → Option Ob} {f : Nat → Option Nat}
def RenOk (f : Nat → Option Nat) (γ γ' : Nat → Option Nat) (L L' : Nat → Option Ob) : Prop := ∀ k i, f k = some i → γ' i = γ k ∧ L' i = (L k).map (renO f)
theorem renAll_get {f : Nat → Option Nat} : ∀ {ks js : List Nat}, renAll f ks = some js → js.length = ks.length ∧ ∀ (n j : Nat), js[n]? = some j → ∃ k, ks[n]? = some k ∧ f k = some j
  | [], js, h => by simp [renAll] at h; subst h; simp
  | k :: ks, js, h => by
    simp only [renAll] at h
    split at h
    · rename_i j hj
      split at h
      · rename_i js' hjs
        injection h with h; subst h
        obtain ⟨h1, h2⟩ := renAll_get hjs
        refine ⟨by simp [h1], fun n j' hn => ?_⟩
        cases n with
        | zero => simp at hn; subst hn; exact ⟨k, rfl, hj⟩
        | succ n => simpa using h2 n j' (by simpa using hn)
      · cases h
    · cases h
theorem VR.ren (hf : RenOk f γ γ' L L') {c : V} {u : Value} (h : VR γ I w L c u) : VR γ' I w L' (renV f c) u := by
  induction h with
  | any => exact .any _
  | int k n h => exact .int k n h
  | tt => exact .bool true
  | ff => exact .bool false
  | bool b => exact .bool b
  | str s h => exact .str s h
  | nil => exact .nil
  | slE T a c => exact .slE T a c
  | sl T xs b o c u h1 h2 h3 h4 h5 _ => exact VR.content (fun _ h => h) (fun _ _ => rfl) (.sl T xs b o c u h1 h2 h3 h4 h5) trivial
  | ptr k off b h =>
    simp only [renV]; split
    · rename_i j hj; exact .ptr j off b (by rw [(hf k j hj).1, h])
    · exact .any _
  | ptrD k off _ h =>
    simp only [renV]; split
    · rename_i j hj; exact .ptrD j off _ (by rw [(hf k j hj).2, h]; rfl)
    · exact .any _
  | ownD k off len _ h =>
    simp only [renV]; split
    · rename_i j hj; exact .ownD j off len _ (by rw [(hf k j hj).2, h]; rfl)
    · exact .any _
  | fullD k _ h =>
    simp only [renV]; split
    · rename_i j hj; exact .fullD j _ (by rw [(hf k j hj).2, h]; rfl)
    · exact .any _
  | full k e T xs v h1 _ ih =>
    simp only [renV] at ih ⊢; split
    · rename_i j hj
      rw [hj] at ih
      exact .full j e T xs v (by rw [(hf k j hj).2, h1]; rfl) ih
    · exact .any _
  | ownN k h =>
    simp only [renV]; split
    · rename_i j hj; exact .ownN j (by rw [(hf k j hj).1, h])
    · exact .any _
  | own k off len b c e sz T xs cur o h1 h2 h3 h4 h5 h6 h7 h8 =>
    simp only [renV]; split
    · rename_i j hj; exact .own j off len b c e sz T xs cur o (by rw [(hf k j hj).2, h1]; rfl) (by rw [(hf k j hj).1, h2]) h3 h4 h5 h6 h7 h8
    · exact .any _
  | cp cs b o u hp h3 h4 h5 _ => exact .cp cs b o u hp h3 h4 (fun j c hj => (h5 j c hj).content (fun _ h => h) (fun _ _ => rfl) (hp c (List.mem_of_getElem? hj)))
  | epD k i off _ h =>
    simp only [renV]; split
    · rename_i j hj; exact .epD j i off _ (by rw [(hf k j hj).2, h]; rfl)
    · exact .any _
  | ep k i off b e T xs h1 hi h2 =>
    simp only [renV]; split
    · rename_i j hj; exact .ep j i off b e T xs (by rw [(hf k j hj).2, h1]; rfl) hi (by rw [(hf k j hj).1, h2])
    · exact .any _
  | con _ h => exact .con _ h
  | fn g caps us h1 h2 =>
    simp only [renV]; split
    · rename_i js hjs
      obtain ⟨h3, h4⟩ := renAll_get hjs
      refine .fn g js us (by omega) (fun n j hj => ?_)
      obtain ⟨k, hk, hkj⟩ := h4 n j hj
      rcases h2 n k hk with h | ⟨b, hb, hu⟩
      · exact .inl (by rw [(hf k j hkj).2, h]; rfl)
      · exact .inr ⟨b, by rw [(hf k j hkj).1, hb], hu⟩
    · exact .any _
theorem XR1.ren (hf : RenOk f γ γ' L L') : ∀ {x : X} {u : Value}, XR1 γ I w L x u → XR1 γ' I w L' (renX1 f x) u
  | .v _, _, h => VR.ren hf h
  | .agg _, _, ⟨us, h1, h2, h3⟩ => ⟨us, h1, by simpa [renX1] using h2, fun j c hj => by
      simp only [List.getElem?_map] at hj
      cases hx : (_ : List V)[j]? with
      | none => rw [hx] at hj; cases hj
      | some c0 => rw [hx] at hj; injection hj with hj; subst hj; obtain ⟨x, e, r⟩ := h3 j c0 hx; exact ⟨x, e, VR.ren hf r⟩⟩
  | .tup _, _, _ => trivial
theorem XR.ren (hf : RenOk f γ γ' L L') : ∀ {x : X} {u : Value}, XR γ I w L x u → XR γ' I w L' (renX f x) u
  | .v c, u, h => XR1.ren (x := .v c) hf h
  | .agg cs, u, h => XR1.ren (x := .agg cs) hf h
  | .tup xs, u, ⟨us, h1, h2, h3⟩ => ⟨us, h1, by simpa using h2, fun j c hj => by
      simp only [List.getElem?_map] at hj
      cases hx : xs[j]? with
      | none => rw [hx] at hj; cases hj
      | some c0 => rw [hx] at hj; injection hj with hj; subst hj; obtain ⟨x, e, r⟩ := h3 j c0 hx; exact ⟨x, e, XR1.ren hf r⟩⟩
theorem ObR.ren (hf : RenOk f γ γ' L L') {k i : Nat} (hk : f k = some i) {o : Ob} (h : ObR γ I w L k o) : ObR γ' I w L' i (renO f o) := by
  cases o with
  | box cells =>
    obtain ⟨b, cur, e, h1, h2, h3, h4⟩ := h
    refine ⟨b, cur, e, by rw [(hf k i hk).1, h1], h2, by simpa using h3, fun j c hj => ?_⟩
    simp only [List.getElem?_map] at hj
    cases hx : cells[j]? with
    | none => rw [hx] at hj; cases hj
    | some c0 => rw [hx] at hj; injection hj with hj; subst hj; obtain ⟨x, e, r⟩ := h4 j c0 hx; exact ⟨x, e, VR.ren hf r⟩
  | row e T xs =>
    rcases h with ⟨h1, h2⟩ | ⟨b, cur, cap, h1, h2, h3, h4, h5, h6, h7⟩
    · exact .inl ⟨by rw [(hf k i hk).1, h1], h2⟩
    · exact .inr ⟨b, cur, cap, by rw [(hf k i hk).1, h1], h2, h3, h4, h5, h6, fun j c hj => let ⟨u, e, r⟩ := h7 j c hj; ⟨u, e, VR.content (fun _ h => h) (fun _ _ => rfl) r (flat_plain hj)⟩⟩
end
def isBox (obs : Obs) (k : Nat) : Bool := match lk obs k with | some (.box _) => true | _ => false
/-- A function keeps its word. -/
structure FnPost (γ γ' : Nat → Option Nat) (I I' : Nat → Prop) (w w' : World) (sub sub' : Obs) : Prop where
  mr : MR γ' I' w' (lk sub')
  fr : Fr (fun b => ∃ k o, lk sub k = some o ∧ γ k = some b) w w'
  inc : ∀ b, I b → I' b
  new : ∀ b, I' b → I b ∨ w.heap.size ≤ b ∨ ∃ k o, lk sub k = some o ∧ γ k = some b
  own : ∀ k o b, lk sub' k = some o → γ' k = some b → (∃ k0 o0, lk sub k0 = some o0 ∧ γ k0 = some b) ∨ w.heap.size ≤ b
  box : ∀ k o, isBox sub k = true → lk sub' k = some o → γ' k = γ k
def ArgsR (γ : Nat → Option Nat) (I : Nat → Prop) (w : World) (L : Nat → Option Ob) (args : List X) (us : Array Value) : Prop :=
  us.size = args.length ∧ ∀ (i : Nat) (x : X), args[i]? = some x → ∃ u, us[i]? = some u ∧ XR γ I w L x u
def FnOk (C : Cfg) (f : FuncId) (S : Spec) : Prop :=
  ∀ (args : List X) (sub : Obs) (K : X → Obs → Prop) (γ : Nat → Option Nat) (I : Nat → Prop) (w : World) (us : Array Value), S args sub K → ArgsR γ I w (lk sub) args us → MR γ I w (lk sub) → (∀ g cs, C.glob g = some cs → GR I w g cs) →
    Calls C.P f us w fun e w' => ∃ v x sub' γ' I', e = .returned v ∧ K x sub' ∧ XR γ' I' w' (lk sub') x v ∧ FnPost γ γ' I I' w w' sub sub'
end Go.Proofs.Ytdpgdeaefmghiaa.Sx

/- A call, in the caller. -/
namespace Go.Proofs.Ytdpgdeaefmghiaa.Sx
section
variable {C : Cfg} {E : Entry} {env : List X} {obs : Obs} {a : Act} {w : World} {γ : Nat → Option Nat} {I : Nat → Prop} {L : Nat → Option Ob} {P : Program}
noncomputable def convVK (c : V) (obs : Obs) (K : V → Obs → Prop) : Prop :=
  match c with
  | .full k => lkK obs k fun ob => match ob with
    | .row _ T xs => setK obs k none fun obs => K (.sl T xs) obs
    | .box _ => False
  | .own k off n => lkK obs k fun ob => match ob with
    | .row _ T xs => setK obs k none fun obs => K (.sl T ((xs.drop off).take n)) obs
    | .box _ => False
  | c => K c obs
noncomputable def convLK : List V → Obs → (List V → Obs → Prop) → Prop
  | [], obs, K => K [] obs
  | c :: cs, obs, K => convVK c obs fun c obs => convLK cs obs fun cs obs => K (c :: cs) obs
noncomputable def convXK (x : X) (obs : Obs) (K : X → Obs → Prop) : Prop :=
  match x with
  | .v c => convVK c obs fun c obs => K (.v c) obs
  | .agg cs => convLK cs obs fun cs obs => K (.agg cs) obs
  | .tup xs => K (.tup xs) obs
noncomputable def convAK : List X → Obs → (List X → Obs → Prop) → Prop
  | [], obs, K => K [] obs
  | x :: xs, obs, K => convXK x obs fun x obs => convAK xs obs fun xs obs => K (x :: xs) obs
/-- A state whose row is sealed: what it held never changes from now on. -/
theorem SimG.sealRow (h : SimG C E ⟨env, obs⟩ a w γ I) {k : Nat} {e : TypeId} {T : Ty} {xs : List T.D} (hl : lk obs k = some (.row e T xs)) :
    ∃ I', SimG C E ⟨env, obs.set k none⟩ a w γ I' ∧ Keep (fun _ => False) γ γ I I' w w (lk obs) (lk (obs.set k none)) ∧ ∀ b, γ k = some b → I' b := by
  have hm : MR γ I w (lk obs) := h.mr
  have hsub : ∀ j o, lk (obs.set k none) j = some o → j ≠ k ∧ lk obs j = some o := fun j o hj => by
    rw [lk_set] at hj; split at hj
    · cases hj
    · rename_i hn
      refine ⟨fun e => hn ⟨e.symm, ?_⟩, hj⟩
      subst e
      rcases Nat.lt_or_ge j obs.length with h1 | h1
      · exact h1
      · simp [lk, List.getElem?_eq_none h1] at hl
  have hk : Keep (fun _ => False) γ γ I (fun b => I b ∨ γ k = some b) w w (lk obs) (lk (obs.set k none)) := by
    refine ⟨fun _ h => .inl h, fun _ _ => rfl, fun j o hj _ => ⟨by rw [(hsub j o hj).2]; simp, rfl⟩, fun j e T xs hj _ => ?_⟩
    cases hx : lk (obs.set k none) j with
    | none => exact .inl rfl
    | some o =>
      have := (hsub j o hx).2
      rw [hj] at this; injection this with this; subst this
      exact .inr ⟨⟨xs, rfl, rfl⟩, fun b cur _ hc => ⟨cur, hc, rfl⟩⟩
  refine ⟨_, ⟨h.defers, h.size, fun i x hx => ?_, ⟨fun j o hj => ?_, fun j j' o o' b h1 h2 => h.mr.inj j j' o o' b (hsub _ _ h1).2 (hsub _ _ h2).2, fun j o b h1 h2 hI => ?_, fun b hb => ?_⟩, h.fr, fun b hb => .inl (h.inc b hb), fun b hb => ?_, fun j o b h1 => h.own j o b (hsub _ _ h1).2, fun g cs hg => (h.glob g cs hg).keep (fun _ h => .inl h) (fun _ _ => rfl), fun j b hb o ho => h.bx j b hb o (hsub _ _ ho).2⟩, hk, fun b hb => .inr hb⟩
  · obtain ⟨u, hu, hr⟩ := h.slots i x hx; exact ⟨u, hu, XR.keep hk (fun _ hd => hd.elim) hr⟩
  · exact ObR.keep hk (fun _ hd => hd.elim) rfl (fun _ _ => rfl) (h.mr.ob j o (hsub j o hj).2)
  · obtain ⟨h3, h4⟩ := hsub j o h1
    rcases hI with hI | hI
    · exact h.mr.out j o b h4 h2 hI
    · exact h3 (h.mr.inj j k o _ b h4 hl h2 hI)
  · rcases hb with hb | hb
    · exact h.mr.lt b hb
    · exact (hm.ob k _ hl).lt hb
  · rcases hb with hb | hb
    · exact h.new b hb
    · rcases h.own k _ b hl hb with h1 | h1
      · exact .inr (.inr h1)
      · exact .inr (.inl h1)
theorem sealed_own (hm : MR γ I w L) {k off n : Nat} {u : Value} (hx : VR γ I w L (.own k off n) u) {e : TypeId} {T : Ty} {xs : List T.D} (hl : L k = some (.row e T xs)) {I' : Nat → Prop} {L' : Nat → Option Ob} (hI : ∀ b, I b → I' b) (hk : ∀ b, γ k = some b → I' b) :
    VR γ I' w L' (.sl T ((xs.drop off).take n)) u := by
  obtain ⟨h1, h2, ad, c, rfl, h4, h5⟩ := own_content hm hx hl
  rcases h5 with rfl | ⟨b, o, h6, rfl, hat⟩
  · have : (xs.drop off).take 0 = [] := rfl
    rw [this]; exact VR.slE T _ _
  · have := VR.sl_mk (γ := γ) (I := I') (w := w) (L := L') (T := T) (xs := (xs.drop off).take n) (b := b) (o := o) (c := c) (by rw [h1]; exact h4) (by rw [h1]; exact h2) (hk b h6) (fun j cc hj => by
      obtain ⟨x, q1, q2⟩ := hat j cc hj
      exact ⟨x, q1, q2.content hI (fun _ _ => rfl) (flat_plain hj)⟩)
    rw [h1] at this; exact this
theorem sealed_full (hm : MR γ I w L) {k : Nat} {u : Value} (hx : VR γ I w L (.full k) u) {e : TypeId} {T : Ty} {xs : List T.D} (hl : L k = some (.row e T xs)) {I' : Nat → Prop} {L' : Nat → Option Ob} (hI : ∀ b, I b → I' b) (hk : ∀ b, γ k = some b → I' b) :
    VR γ I' w L' (.sl T xs) u := by
  have := sealed_own (L' := L') hm (VR.full_own hx hl) hl hI hk
  simpa using this
theorem convV_sound (h : SimG C E ⟨env, obs⟩ a w γ I) {c : V} {u : Value} (hx : VR γ I w (lk obs) c u) {K : V → Obs → Prop} (hK : convVK c obs K) :
    ∃ c' obs' I', K c' obs' ∧ SimG C E ⟨env, obs'⟩ a w γ I' ∧ Keep (fun _ => False) γ γ I I' w w (lk obs) (lk obs') ∧ VR γ I' w (lk obs') c' u := by
  unfold convVK at hK
  split at hK
  · obtain ⟨ob, hl, hK⟩ := lkK_spec hK
    split at hK
    · rename_i e T xs
      rw [setK_eq] at hK
      obtain ⟨I', h1, h2, h3⟩ := h.sealRow hl
      exact ⟨_, _, I', hK, h1, h2, sealed_full h.mr hx hl h2.inc h3⟩
    · exact hK.elim
  · obtain ⟨ob, hl, hK⟩ := lkK_spec hK
    split at hK
    · rw [setK_eq] at hK
      obtain ⟨I', h1, h2, h3⟩ := h.sealRow hl
      exact ⟨_, _, I', hK, h1, h2, sealed_own h.mr hx hl h2.inc h3⟩
    · exact hK.elim
  · exact ⟨_, _, I, hK, h, Keep.refl _ _ _ _ _, hx⟩
theorem Keep.trans0 {γ : Nat → Option Nat} {I1 I2 I3 : Nat → Prop} {w1 w2 w3 : World} {L1 L2 L3 : Nat → Option Ob} (h : Keep (fun _ => False) γ γ I1 I2 w1 w2 L1 L2) (h' : Keep (fun _ => False) γ γ I2 I3 w2 w3 L2 L3) : Keep (fun _ => False) γ γ I1 I3 w1 w3 L1 L3 := by
  refine ⟨fun b hb => h'.inc b (h.inc b hb), fun b hb => (h'.imm b (h.inc b hb)).trans (h.imm b hb), fun k o hk _ => ?_, fun k e T xs hk _ => ?_⟩
  · obtain ⟨h1, _⟩ := h'.ptr k o hk (fun h => h)
    cases hx : L2 k with
    | none => exact absurd hx h1
    | some o2 => exact ⟨(h.ptr k o2 hx (fun h => h)).1, rfl⟩
  · rcases h.row k e T xs hk (fun h => h) with h1 | ⟨⟨ys, h1, h2⟩, h3⟩
    · left
      cases hx : L3 k with
      | none => rfl
      | some o => exact absurd h1 (h'.ptr k o hx (fun h => h)).1
    · rcases h'.row k e T ys h1 (fun h => h) with h4 | ⟨⟨zs, h4, h5⟩, h6⟩
      · exact .inl h4
      · refine .inr ⟨⟨zs, h4, h2.trans h5⟩, fun b cur q1 q2 => ?_⟩
        obtain ⟨c2, q3, q4⟩ := h3 b cur q1 q2
        obtain ⟨c3, q5, q6⟩ := h6 b c2 q1 q3
        exact ⟨c3, q5, q6.trans q4⟩
theorem convL_sound : ∀ (cs : List V) {obs : Obs} {I : Nat → Prop} (us : List Value), SimG C E ⟨env, obs⟩ a w γ I → cs.length = us.length → Rel (VR γ I w (lk obs)) cs us → ∀ {K : List V → Obs → Prop}, convLK cs obs K →
    ∃ cs' obs' I', K cs' obs' ∧ SimG C E ⟨env, obs'⟩ a w γ I' ∧ Keep (fun _ => False) γ γ I I' w w (lk obs) (lk obs') ∧ cs'.length = us.length ∧ Rel (VR γ I' w (lk obs')) cs' us
  | [], obs, I, us, h, hl, hr, K, hK => ⟨[], obs, I, hK, h, Keep.refl _ _ _ _ _, hl, hr⟩
  | c :: cs, obs, I, [], h, hl, hr, K, hK => by simp at hl
  | c :: cs, obs, I, u :: us, h, hl, hr, K, hK => by
    rw [convLK] at hK
    obtain ⟨u', hu', hc⟩ := hr 0 c rfl
    simp at hu'; subst hu'
    obtain ⟨c', obs1, I1, hK, h1, k1, hc'⟩ := convV_sound h hc hK
    obtain ⟨cs', obs2, I2, hK, h2, k2, hl2, hr2⟩ := convL_sound cs us h1 (by simpa using hl) (fun j d hj => by
      obtain ⟨z, q1, q2⟩ := hr (j + 1) d (by simpa using hj)
      exact ⟨z, by simpa using q1, VR.keep k1 (fun _ hd => hd.elim) q2⟩) hK
    refine ⟨_, obs2, I2, hK, h2, k1.trans0 k2, by simp [hl2], fun j d hj => ?_⟩
    cases j with
    | zero => simp at hj; subst hj; exact ⟨u, rfl, VR.keep k2 (fun _ hd => hd.elim) hc'⟩
    | succ j => simpa using hr2 j d (by simpa using hj)
theorem convX_sound (h : SimG C E ⟨env, obs⟩ a w γ I) {x : X} {u : Value} (hx : XR γ I w (lk obs) x u) {K : X → Obs → Prop} (hK : convXK x obs K) :
    ∃ x' obs' I', K x' obs' ∧ SimG C E ⟨env, obs'⟩ a w γ I' ∧ Keep (fun _ => False) γ γ I I' w w (lk obs) (lk obs') ∧ XR γ I' w (lk obs') x' u := by
  unfold convXK at hK
  split at hK
  · obtain ⟨c', obs', I', hK, h1, h2, h3⟩ := convV_sound h hx hK
    exact ⟨_, obs', I', hK, h1, h2, h3⟩
  · obtain ⟨us, rfl, hz, hr⟩ := hx
    obtain ⟨cs', obs', I', hK, h1, h2, h3, h4⟩ := convL_sound _ us.toList h (by simpa using hz.symm) (fun j c hj => by obtain ⟨z, q1, q2⟩ := hr j c hj; exact ⟨z, by simpa using q1, q2⟩) hK
    refine ⟨_, obs', I', hK, h1, h2, us, rfl, by simpa using h3.symm, fun j c hj => ?_⟩
    obtain ⟨z, q1, q2⟩ := h4 j c hj
    exact ⟨z, by simpa using q1, q2⟩
  · exact ⟨_, obs, I, hK, h, Keep.refl _ _ _ _ _, hx⟩
theorem convA_sound : ∀ (xs : List X) {obs : Obs} {I : Nat → Prop} (us : List Value), SimG C E ⟨env, obs⟩ a w γ I → xs.length = us.length → (∀ (j : Nat) (x : X), xs[j]? = some x → ∃ u, us[j]? = some u ∧ XR γ I w (lk obs) x u) → ∀ {K : List X → Obs → Prop}, convAK xs obs K →
    ∃ xs' obs' I', K xs' obs' ∧ SimG C E ⟨env, obs'⟩ a w γ I' ∧ Keep (fun _ => False) γ γ I I' w w (lk obs) (lk obs') ∧ xs'.length = us.length ∧ ∀ (j : Nat) (x : X), xs'[j]? = some x → ∃ u, us[j]? = some u ∧ XR γ I' w (lk obs') x u
  | [], obs, I, us, h, hl, hr, K, hK => ⟨[], obs, I, hK, h, Keep.refl _ _ _ _ _, hl, hr⟩
  | c :: cs, obs, I, [], h, hl, hr, K, hK => by simp at hl
  | c :: cs, obs, I, u :: us, h, hl, hr, K, hK => by
    rw [convAK] at hK
    obtain ⟨u', hu', hc⟩ := hr 0 c rfl
    simp at hu'; subst hu'
    obtain ⟨c', obs1, I1, hK, h1, k1, hc'⟩ := convX_sound h hc hK
    obtain ⟨cs', obs2, I2, hK, h2, k2, hl2, hr2⟩ := convA_sound cs us h1 (by simpa using hl) (fun j d hj => by
      obtain ⟨z, q1, q2⟩ := hr (j + 1) d (by simpa using hj)
      exact ⟨z, by simpa using q1, XR.keep k1 (fun _ hd => hd.elim) q2⟩) hK
    refine ⟨_, obs2, I2, hK, h2, k1.trans0 k2, by simp [hl2], fun j d hj => ?_⟩
    cases j with
    | zero => simp at hj; subst hj; exact ⟨u, rfl, XR.keep k2 (fun _ hd => hd.elim) hc'⟩
    | succ j => simpa using hr2 j d (by simpa using hj)

/-! The objects that a call is handed. -/
def keysV : V → List Nat
  | .ptr k _ => [k]
  | .own k _ _ => [k]
  | .full k => [k]
  | .ep k _ _ => [k]
  | .fn _ caps => caps
  | _ => []
def keysX1 : X → List Nat
  | .v c => keysV c
  | .agg cs => cs.flatMap keysV
  | .tup _ => []
def ins (ks : List Nat) (k : Nat) : List Nat := match ks.any (Nat.beq k) with | true => ks | false => ks ++ [k]
def insAll (ks : List Nat) (js : List Nat) : List Nat := js.foldl ins ks
def keysO (obs : Obs) (k : Nat) : List Nat := match lk obs k with | some (.box cells) => cells.flatMap keysV | _ => []
def close (obs : Obs) : Nat → List Nat → List Nat
  | 0, ks => ks
  | n + 1, ks => close obs n (insAll ks (ks.flatMap (keysO obs)))
def posOf (ks : List Nat) (k : Nat) : Option Nat := match ks with | [] => none | j :: js => match Nat.beq j k with | true => some 0 | false => (posOf js k).map (· + 1)
def nodupB : List Nat → Bool
  | [] => true
  | k :: ks => !ks.any (Nat.beq k) && nodupB ks
def findB (bk : List (Option Nat)) (k : Nat) : Option Nat := match bk with | [] => none | some j :: js => (match Nat.beq j k with | true => some 0 | false => (findB js k).map (· + 1)) | none :: js => (findB js k).map (· + 1)
def gOf (bk : List (Option Nat)) (i : Nat) : Option Nat := (bk[i]?).getD none
theorem posOf_some {ks : List Nat} {k i : Nat} (h : posOf ks k = some i) : ks[i]? = some k := by
  induction ks generalizing i with
  | nil => simp [posOf] at h
  | cons j js ih =>
    simp only [posOf] at h
    split at h
    · rename_i hb; injection h with h; subst h; simp [Nat.eq_of_beq_eq_true hb]
    · cases hp : posOf js k with
      | none => rw [hp] at h; cases h
      | some n => rw [hp] at h; injection h with h; subst h; simpa using ih hp
theorem posOf_none {ks : List Nat} {k : Nat} (h : posOf ks k = none) : k ∉ ks := by
  induction ks with
  | nil => simp
  | cons j js ih =>
    simp only [posOf] at h
    split at h
    · cases h
    · rename_i hb
      cases hp : posOf js k with
      | some n => rw [hp] at h; cases h
      | none => 
        have := ih hp
        simp only [List.mem_cons, not_or]; exact ⟨fun e => by subst e; simp at hb, this⟩
theorem findB_some {bk : List (Option Nat)} {k i : Nat} (h : findB bk k = some i) : bk[i]? = some (some k) := by
  induction bk generalizing i with
  | nil => simp [findB] at h
  | cons j js ih =>
    cases j with
    | none =>
      simp only [findB] at h
      cases hp : findB js k with
      | none => rw [hp] at h; cases h
      | some n => rw [hp] at h; injection h with h; subst h; simpa using ih hp
    | some j =>
      simp only [findB] at h
      split at h
      · rename_i hb; injection h with h; subst h; simp [Nat.eq_of_beq_eq_true hb]
      · cases hp : findB js k with
        | none => rw [hp] at h; cases h
        | some n => rw [hp] at h; injection h with h; subst h; simpa using ih hp
/-- The keys that a call gives back, all different. -/
def somes : List (Option Nat) → List Nat
  | [] => []
  | some k :: l => k :: somes l
  | none :: l => somes l
theorem somes_mem : ∀ {bk : List (Option Nat)} {i k : Nat}, bk[i]? = some (some k) → k ∈ somes bk
  | [], i, k, h => by simp at h
  | none :: l, i, k, h => by
    cases i with
    | zero => simp at h
    | succ i => exact somes_mem (bk := l) (i := i) (by simpa using h)
  | some j :: l, i, k, h => by
    cases i with
    | zero => simp at h; subst h; simp [somes]
    | succ i => simp only [somes, List.mem_cons]; exact .inr (somes_mem (bk := l) (i := i) (by simpa using h))
theorem findB_of : ∀ {bk : List (Option Nat)} {i k : Nat}, nodupB (somes bk) = true → bk[i]? = some (some k) → findB bk k = some i
  | [], i, k, _, h => by simp at h
  | none :: l, i, k, hn, h => by
    cases i with
    | zero => simp at h
    | succ i => simp only [findB]; rw [findB_of (bk := l) (i := i) (by simpa [somes] using hn) (by simpa using h)]; rfl
  | some j :: l, i, k, hn, h => by
    simp only [somes, nodupB, Bool.and_eq_true, Bool.not_eq_true'] at hn
    cases i with
    | zero => simp at h; subst h; simp [findB]
    | succ i =>
      simp only [findB]
      have h' : l[i]? = some (some k) := by simpa using h
      have hne : Nat.beq j k = false := by
        cases hb : Nat.beq j k with
        | false => rfl
        | true =>
          have e := Nat.eq_of_beq_eq_true hb
          subst e
          have := somes_mem h'
          have h3 := hn.1
          rw [List.any_eq_false] at h3
          exact absurd (h3 j this) (by simp)
      rw [hne, findB_of (bk := l) (i := i) hn.2 h']; rfl
/-- The objects behind a call. -/
def backO (bk : List (Option Nat)) (ks : List Nat) (sub : Obs) (k : Nat) (o : Option Ob) : Option Ob :=
  match findB bk k with
  | some i => (lk sub i).map (renO (gOf bk))
  | none => match posOf ks k with
    | some _ => none
    | none => o
def backL (bk : List (Option Nat)) (ks : List Nat) (sub : Obs) : Nat → Obs → Obs
  | _, [] => []
  | k, o :: obs => backO bk ks sub k o :: backL bk ks sub (k + 1) obs
theorem backL_get (bk : List (Option Nat)) (ks : List Nat) (sub : Obs) : ∀ (obs : Obs) (n j : Nat), (backL bk ks sub n obs)[j]? = (obs[j]?).map (backO bk ks sub (n + j))
  | [], n, j => by simp [backL]
  | o :: obs, n, 0 => by simp [backL]
  | o :: obs, n, j + 1 => by simp only [backL, List.getElem?_cons_succ, backL_get bk ks sub obs (n + 1) j]; congr 2; omega
theorem lk_backL {bk : List (Option Nat)} {ks : List Nat} {sub obs : Obs} {k : Nat} (hk : k < obs.length) : lk (backL bk ks sub 0 obs) k = backO bk ks sub k (lk obs k) := by
  unfold lk; rw [backL_get, List.getElem?_eq_getElem hk]; simp
theorem lk_backL_out {bk : List (Option Nat)} {ks : List Nat} {sub obs : Obs} {k : Nat} (hk : obs.length ≤ k) : lk (backL bk ks sub 0 obs) k = none := by
  unfold lk; rw [backL_get, List.getElem?_eq_none hk]; rfl
end
end Go.Proofs.Ytdpgdeaefmghiaa.Sx

/- A slice literal, its parts sealed first. -/
namespace Go.Proofs.Ytdpgdeaefmghiaa.Sx
noncomputable section
def evalPK (C : Cfg) (env : List X) : List (Nat × Operand) → (List X → Prop) → Prop
  | [], K => K []
  | p :: ps, K => opdK C env p.2 fun x => evalPK C env ps fun xs => K (x :: xs)
theorem evalPK_eq (C : Cfg) (env : List X) : ∀ (ps : List (Nat × Operand)) (K : List X → Prop), evalPK C env ps K = K (ps.map fun p => opd C env p.2)
  | [], _ => rfl
  | p :: ps, K => by rw [evalPK, opdK_eq, evalPK_eq C env ps]; rfl
def partsVK (obs : Obs) (T : Ty) (len : Nat) : List (Nat × Operand) → List X → List T.D → (List T.D → Prop) → Prop
  | [], _, xs, K => K xs
  | p :: ps, x :: vs, xs, K => cellsK obs x fun cs => match dec T cs with
    | some y => match Nat.blt p.1 len with
      | true => setK xs p.1 y fun xs => partsVK obs T len ps vs xs K
      | false => False
    | none => False
  | _ :: _, [], _, _ => False
def buildSliceCK (C : Cfg) (t : TypeId) (len : Nat) (ps : List (Nat × Operand)) (key : Nat) (env : List X) (obs : Obs) (K : X → Obs → Prop) : Prop :=
  match C.td t with
  | .sl e T => match Nat.ble (len * T.size) 4096 && Nat.ble (len * T.bytes) 65536 with
    | true => evalPK C env ps fun vs => convAK vs obs fun vs obs => partsVK obs T len ps vs (List.replicate len T.dflt) fun xs => newK key env obs (.row e T xs) fun obs => K (.v (.full key)) obs
    | false => False
  | _ => False
end
section
variable {C : Cfg} {E : Entry} {env : List X} {obs : Obs} {a : Act} {w : World} {γ : Nat → Option Nat} {I : Nat → Prop}
theorem partsV_sound {T : Ty} {len : Nat} {K : List T.D → Prop} : ∀ (ps : List (Nat × Operand)) (vs : List X) (xs : List T.D) (cells : Array Value), (∀ (j : Nat) (x : X), vs[j]? = some x → ∃ p, ps[j]? = some p ∧ XR γ I w (lk obs) x (a.eval p.2)) → xs.length = len → cells.size = len * T.size → Rel (VR γ I w (lk obs)) (flat T xs) cells.toList → partsVK obs T len ps vs xs K →
    ∃ ys cells', K ys ∧ ys.length = len ∧ cells'.size = len * T.size ∧ Rel (VR γ I w (lk obs)) (flat T ys) cells'.toList ∧ Instr.fill (fun i => some (i * T.size, T.size)) cells (ps.map fun p => (p.1, a.eval p.2)) = some cells'
  | [], vs, xs, cells, _, h1, h2, h3, hK => ⟨xs, cells, hK, h1, h2, h3, rfl⟩
  | _ :: _, [], _, _, _, _, _, _, hK => by simp [partsVK] at hK
  | p :: ps, x :: vs, xs, cells, hv, h1, h2, h3, hK => by
    rw [partsVK] at hK
    obtain ⟨p', hp', hx⟩ := hv 0 x rfl
    simp at hp'; subst hp'
    obtain ⟨cs, hK, hlen, hrel, hone, hst⟩ := cells_sound hx hK
    split at hK
    · rename_i y hy
      split at hK
      · rename_i hb
        have hb : p.1 < len := Nat.le_of_ble_eq_true hb
        rw [setK_eq] at hK
        obtain ⟨hl, hsz⟩ := dec_le hy
        have hm : (p.1 + 1) * T.size ≤ len * T.size := Nat.mul_le_mul_right _ (by omega)
        rw [Nat.add_mul, Nat.one_mul] at hm
        have hvs : (a.eval p.2).cells.size = T.size := by have := hlen; simp only [Array.length_toList] at this; omega
        have hnew : Rel (VR γ I w (lk obs)) (enc T y) (a.eval p.2).cells.toList := Rel.le hrel hl
        have hov := Rel.over (n := p.1 * T.size) (new := enc T y) (vs := (a.eval p.2).cells.toList) (old := flat T xs) (us := cells.toList) (by rw [enc_length]; simpa using hvs) (by rw [enc_length, flat_length, h1]; omega) (by rw [enc_length]; simp; omega) hnew h3
        rw [← flat_set (by omega)] at hov
        obtain ⟨ys, cells', hK, h4, h5, h6, h7⟩ := partsV_sound ps vs (xs.set p.1 y) (over (p.1 * T.size) (a.eval p.2).cells.toList cells.toList).toArray (fun j x hj => by
          obtain ⟨q, hq, hr⟩ := hv (j + 1) x (by simpa using hj); exact ⟨q, by simpa using hq, hr⟩) (by simpa using h1) (by
          rw [List.size_toArray, over_length (by simp [hvs]; omega)]; simpa using h2) (by simpa using hov) hK
        refine ⟨ys, cells', hK, h4, h5, h6, ?_⟩
        rw [List.map_cons, fill_step rfl hvs (by omega)]
        exact h7
      · exact hK.elim
    · exact hK.elim
theorem buildSliceC_sound (hT : ∀ t, TdOk C.P t (C.td t)) (h : SimG C E ⟨env, obs⟩ a w γ I) {t : TypeId} {len key : Nat} {ps : Array (Nat × Operand)} {K : X → Obs → Prop} (hK : buildSliceCK C t len ps.toList key env obs K) (h0 : E.bx key = none) (dst : Option Nat) :
    ∃ v' w' x' obs', (Instr.buildSlice t len (ps.map fun p => (p.1, a.eval p.2))).run C.P w = .ok v' w' ∧ K x' obs' ∧ Sim C E ⟨put env dst x', obs'⟩ (a.put dst v') w' := by
  unfold buildSliceCK at hK
  have ht := hT t
  split at hK
  · rename_i e T htd
    rw [htd] at ht
    obtain ⟨hu, _, ie, zv, hie, hsz, hby, hzv, hzs, hz⟩ := ht
    split at hK
    · rename_i hb
      simp only [Bool.and_eq_true] at hb
      have hb1 := Nat.le_of_ble_eq_true hb.1
      have hb2 := Nat.le_of_ble_eq_true hb.2
      rw [evalPK_eq] at hK
      obtain ⟨vs, obs', I', hK, h', _, hvl, hvr⟩ := convA_sound (ps.toList.map fun p => opd C env p.2) (ps.toList.map fun p => a.eval p.2) h (by simp) (fun j x hj => by
        rw [List.getElem?_map] at hj
        cases hp : ps.toList[j]? with
        | none => rw [hp] at hj; cases hj
        | some p => rw [hp] at hj; injection hj with hj; subst hj; exact ⟨a.eval p.2, by simp [hp], opd_sound h p.2⟩) hK
      have hz0 : Rel (VR γ I' w (lk obs')) (flat T (List.replicate len T.dflt)) (madeCells zv.cells (len * T.size)).toList := fun j c hj => by
        obtain ⟨hj1, hj2⟩ := flat_replicate_get hj
        obtain ⟨u, h6, h7⟩ := hz _ c hj2
        refine ⟨u, ?_, VR.of_match h7⟩
        have hmod : j % T.size < zv.cells.size := by rw [hzs]; exact Nat.mod_lt _ T.size_pos
        simp only [madeCells, Array.toList_map, Array.toList_range, List.getElem?_map, List.getElem?_range hj1, Option.map_some, hzs]
        rw [← h6, Array.getElem?_eq_getElem hmod]
        simp [hmod]
      obtain ⟨ys, cells', hK, h4, h5, h6, h7⟩ := partsV_sound (a := a) ps.toList vs _ _ (fun j x hj => by
        obtain ⟨u, q1, q2⟩ := hvr j x hj
        rw [List.getElem?_map] at q1
        cases hp : ps.toList[j]? with
        | none => rw [hp] at q1; cases q1
        | some p => rw [hp] at q1; injection q1 with q1; subst q1; exact ⟨p, rfl, q2⟩) (by simp) (size_madeCells _ _) hz0 hK
      obtain ⟨h8, h9, h10, hK⟩ := newK_spec hK
      have hmap : (ps.map fun p => (p.1, a.eval p.2)).toList = ps.toList.map fun p => (p.1, a.eval p.2) := by simp
      have hlen : len ≤ 4096 := by have := T.size_pos; exact Nat.le_trans (Nat.le_mul_of_pos_right len this) hb1
      refine ⟨.slice (some ⟨w.heap.size, 0, none⟩) len len, _, _, _, ?_, hK, rowedF h' (.inl rfl) h8 h9 h10 h0 e h4.symm h5 (by omega) (by unfold maxLen; omega) (by rw [h4]; unfold big; omega) h6 dst⟩
      exact run_buildSlice hu hie hzv (by rw [hsz]; omega) (by rw [hsz, hmap]; exact h7)
    · exact hK.elim
  · exact hK.elim
end
end Go.Proofs.Ytdpgdeaefmghiaa.Sx

/- Behind a call. -/
namespace Go.Proofs.Ytdpgdeaefmghiaa.Sx
section
variable {C : Cfg} {E : Entry} {env : List X} {obs : Obs} {a : Act} {w : World} {γ : Nat → Option Nat} {I : Nat → Prop} {L : Nat → Option Ob} {P : Program}
def subOf (obs : Obs) (ks : List Nat) : Obs := ks.map fun k => (lk obs k).map (renO (posOf ks))
theorem lk_subOf {ks : List Nat} {i : Nat} : lk (subOf obs ks) i = (ks[i]?).bind fun k => (lk obs k).map (renO (posOf ks)) := by
  unfold lk subOf; rw [List.getElem?_map]; cases ks[i]? <;> simp [lk]
theorem nodup_get : ∀ {ks : List Nat} {i j k : Nat}, nodupB ks = true → ks[i]? = some k → ks[j]? = some k → i = j
  | [], i, j, k, _, h, _ => by simp at h
  | x :: xs, i, j, k, hn, hi, hj => by
    simp only [nodupB, Bool.and_eq_true, Bool.not_eq_true', List.any_eq_false] at hn
    cases i with
    | zero =>
      cases j with
      | zero => rfl
      | succ j => simp at hi hj; subst hi; exact absurd (hn.1 x (List.mem_of_getElem? hj)) (by simp)
    | succ i =>
      cases j with
      | zero => simp at hi hj; subst hj; exact absurd (hn.1 x (List.mem_of_getElem? hi)) (by simp)
      | succ j => exact congrArg (· + 1) (nodup_get hn.2 (by simpa using hi) (by simpa using hj))
theorem sub_ren (ks : List Nat) : RenOk (posOf ks) γ (fun i => (ks[i]?).bind γ) (lk obs) (lk (subOf obs ks)) := fun k i hi => by
  have := posOf_some hi
  exact ⟨by simp [this], by rw [lk_subOf, this]; rfl⟩
theorem posOf_of {ks : List Nat} {i k : Nat} (hn : nodupB ks = true) (h : ks[i]? = some k) : posOf ks k = some i := by
  cases hp : posOf ks k with
  | none => exact absurd (List.mem_of_getElem? h) (posOf_none hp)
  | some j => rw [nodup_get hn h (posOf_some hp)]
theorem sub_mr (hm : MR γ I w (lk obs)) {ks : List Nat} (hn : nodupB ks = true) : MR (fun i => (ks[i]?).bind γ) I w (lk (subOf obs ks)) := by
  have inv : ∀ i o, lk (subOf obs ks) i = some o → ∃ k o', ks[i]? = some k ∧ lk obs k = some o' ∧ o = renO (posOf ks) o' := fun i o h => by
    rw [lk_subOf] at h
    cases hk : ks[i]? with
    | none => rw [hk] at h; cases h
    | some k =>
      rw [hk] at h
      cases ho : lk obs k with
      | none => simp [ho] at h
      | some o' => simp [ho] at h; exact ⟨k, o', rfl, ho, h.symm⟩
  constructor
  · intro i o h
    obtain ⟨k, o', h1, h2, rfl⟩ := inv i o h
    exact ObR.ren (sub_ren ks) (posOf_of hn h1) (hm.ob k o' h2)
  · intro i j o o' b h1 h2 h3 h4
    obtain ⟨k, o1, q1, q2, _⟩ := inv i o h1
    obtain ⟨k', o2, q3, q4, _⟩ := inv j o' h2
    simp only [q1, q3, Option.bind_some] at h3 h4
    have := hm.inj k k' o1 o2 b q2 q4 h3 h4
    subst this
    exact nodup_get hn q1 q3
  · intro i o b h1 h2
    obtain ⟨k, o1, q1, q2, _⟩ := inv i o h1
    simp only [q1, Option.bind_some] at h2
    exact hm.out k o1 b q2 h2
  · exact hm.lt
theorem isBox_ren {ks : List Nat} {i k : Nat} (h : ks[i]? = some k) : isBox (subOf obs ks) i = isBox obs k := by
  unfold isBox; rw [lk_subOf, h]; simp only [Option.bind_some]
  cases lk obs k with
  | none => rfl
  | some o => cases o <;> rfl
theorem call_back (h : SimG C E ⟨env, obs⟩ a w γ I) {ks : List Nat} (hn : nodupB ks = true) {γ1 : Nat → Option Nat} {I1 : Nat → Prop} {w1 : World} {sub1 : Obs} {x1 : X} {v : Value} (hp : FnPost (fun i => (ks[i]?).bind γ) γ1 I I1 w w1 (subOf obs ks) sub1)
    (hx : XR γ1 I1 w1 (lk sub1) x1 v) {bk : List (Option Nat)} (hB : ∀ (i k : Nat), bk[i]? = some (some k) → (ks[i]? = some k ∧ isBox obs k = true) ∨ (fresh k env obs = true ∧ lk obs k = none ∧ E.bx k = none)) (hB2 : nodupB (somes bk) = true)
    (hB3 : ∀ (i k : Nat), bk[i]? = some (some k) → k < obs.length) (dst : Option Nat) :
    Sim C E ⟨put env dst (renX (gOf bk) x1), backL bk ks sub1 0 obs⟩ (a.put dst v) w1 := by
  have hm : MR γ I w (lk obs) := h.mr
  -- the objects behind it
  have hL : ∀ k, lk (backL bk ks sub1 0 obs) k = match findB bk k with | some i => (lk sub1 i).map (renO (gOf bk)) | none => if posOf ks k = none then lk obs k else none := fun k => by
    rcases Nat.lt_or_ge k obs.length with hk | hk
    · rw [lk_backL hk]; unfold backO
      cases hf : findB bk k with
      | some i => rfl
      | none => cases hq : posOf ks k <;> simp
    · rw [lk_backL_out hk]
      cases hf : findB bk k with
      | some i => exact absurd (hB3 i k (findB_some hf)) (by omega)
      | none =>
        simp only
        split
        · simp [lk, List.getElem?_eq_none hk]
        · rfl
  let γ2 : Nat → Option Nat := fun k => match findB bk k with | some i => γ1 i | none => γ k
  have hγ2 : ∀ k i, findB bk k = some i → γ2 k = γ1 i := fun k i e => by simp only [γ2, e]
  have hγ2' : ∀ k, findB bk k = none → γ2 k = γ k := fun k e => by simp only [γ2, e]
  let N : Nat → Prop := fun k => ∃ i : Nat, bk[i]? = some (some k) ∧ fresh k env obs = true ∧ lk obs k = none ∧ E.bx k = none
  -- blocks that the callee may have written
  have howned : ∀ b, (∃ k o, lk (subOf obs ks) k = some o ∧ (ks[k]?).bind γ = some b) → ∃ (i k : Nat) (o : Ob), ks[i]? = some k ∧ lk obs k = some o ∧ γ k = some b := by
    intro b ⟨i, o, h1, h2⟩
    rw [lk_subOf] at h1
    cases hk : ks[i]? with
    | none => rw [hk] at h1; cases h1
    | some k =>
      rw [hk] at h1 h2
      cases ho : lk obs k with
      | none => simp [ho] at h1
      | some o' => exact ⟨i, k, o', hk, ho, by simpa using h2⟩
  have hheap : ∀ b : Nat, b < w.heap.size → (¬ ∃ (i k : Nat) (o : Ob), ks[i]? = some k ∧ lk obs k = some o ∧ γ k = some b) → w1.heap[b]? = w.heap[b]? := fun b hb hn' => hp.fr.block b hb (fun h' => hn' (howned b h'))
  have himm : ∀ b, I b → w1.heap[b]? = w.heap[b]? := fun b hb => hheap b (hm.lt b hb) (fun ⟨i, k, o, _, h2, h3⟩ => hm.out k o b h2 h3 hb)
  have hother : ∀ k o b, lk obs k = some o → γ k = some b → posOf ks k = none → w1.heap[b]? = w.heap[b]? := fun k o b h1 h2 h3 => by
    refine hheap b ((hm.ob k o h1).lt h2) (fun ⟨i, k', o', q1, q2, q3⟩ => ?_)
    have := hm.inj k k' o o' b h1 q2 h2 q3
    subst this
    exact posOf_none h3 (List.mem_of_getElem? q1)
  have hK : Keep N γ γ2 I I1 w w1 (lk obs) (lk (backL bk ks sub1 0 obs)) := by
    refine ⟨hp.inc, himm, fun k o hk hnN => ?_, fun k e T xs hk hnN => ?_⟩
    · rw [hL] at hk
      cases hf : findB bk k with
      | some i =>
        rw [hf] at hk
        simp only at hk
        rcases hB i k (findB_some hf) with ⟨q1, q2⟩ | ⟨q1, q2, q0⟩
        · refine ⟨fun e => by unfold isBox at q2; rw [e] at q2; simp at q2, ?_⟩
          rw [hγ2 k i hf]
          cases hs : lk sub1 i with
          | none => rw [hs] at hk; cases hk
          | some o1 =>
            have := hp.box i o1 (by rw [isBox_ren q1]; exact q2) hs
            rw [this]; simp [q1]
        · exact absurd ⟨i, findB_some hf, q1, q2, q0⟩ hnN
      | none =>
        rw [hf] at hk
        simp only at hk
        split at hk
        · exact ⟨by rw [hk]; simp, hγ2' k hf⟩
        · cases hk
    · rw [hL]
      cases hf : findB bk k with
      | some i =>
        rcases hB i k (findB_some hf) with ⟨q1, q2⟩ | ⟨q1, q2, q0⟩
        · unfold isBox at q2; rw [hk] at q2; simp at q2
        · rw [hk] at q2; cases q2
      | none =>
        simp only
        by_cases hq : posOf ks k = none
        · rw [if_pos hq]
          refine .inr ⟨⟨xs, hk, rfl⟩, fun b cur q1 q2 => ⟨cur, ?_, rfl⟩⟩
          rw [hother k _ b hk q1 hq]; exact q2
        · rw [if_neg hq]; exact .inl rfl
  have hren : RenOk (gOf bk) γ1 γ2 (lk sub1) (lk (backL bk ks sub1 0 obs)) := fun i k hi => by
    have hb : bk[i]? = some (some k) := by
      unfold gOf at hi; cases hx : bk[i]? with
      | none => rw [hx] at hi; cases hi
      | some y => rw [hx] at hi; simp at hi; rw [hi]
    have hf := findB_of hB2 hb
    exact ⟨hγ2 k i hf, by rw [hL, hf]⟩
  have hcase : ∀ k o, lk (backL bk ks sub1 0 obs) k = some o → (∃ i o1, findB bk k = some i ∧ lk sub1 i = some o1 ∧ o = renO (gOf bk) o1) ∨ (findB bk k = none ∧ posOf ks k = none ∧ lk obs k = some o) := fun k o hk => by
    rw [hL] at hk
    cases hf : findB bk k with
    | some i =>
      rw [hf] at hk
      cases hs : lk sub1 i with
      | none => simp [hs] at hk
      | some o1 => simp [hs] at hk; exact .inl ⟨i, o1, rfl, hs, hk.symm⟩
    | none =>
      rw [hf] at hk
      simp only at hk
      split at hk
      · rename_i hq; exact .inr ⟨rfl, hq, hk⟩
      · cases hk
  have hg : ∀ k i, findB bk k = some i → gOf bk i = some k := fun k i hf => by unfold gOf; rw [findB_some hf]; rfl
  -- a block of the callee's is no block of another object
  have hapart : ∀ i o1 b k' o', lk sub1 i = some o1 → γ1 i = some b → lk obs k' = some o' → γ k' = some b → posOf ks k' = none → False := fun i o1 b k' o' h1 h2 h3 h4 h5 => by
    rcases hp.own i o1 b h1 h2 with h6 | h6
    · obtain ⟨j, k, o, q1, q2, q3⟩ := howned b h6
      have := hm.inj k k' o o' b q2 h3 q3 h4
      subst this
      exact posOf_none h5 (List.mem_of_getElem? q1)
    · have := (hm.ob k' o' h3).lt h4; omega
  refine ⟨γ2, I1, h.next (N := N) hK (fun d ⟨i, hi, hf, _⟩ y hy => ?_) (fun d ⟨_, _, _, _, h⟩ => h) ?_ ⟨hp.fr.os, hp.fr.tape, hp.fr.output, hp.fr.size, fun b hb hnb => hheap b hb (fun ⟨i, k, o, q1, q2, q3⟩ => hnb ⟨k, o, q2, q3⟩)⟩ ?_ ?_ (XR.ren hren hx) dst⟩
  · simp only [fresh, Bool.and_eq_true] at hf
    exact List.all_eq_true.1 hf.1 y hy
  · constructor
    · intro k o hk
      rcases hcase k o hk with ⟨i, o1, q1, q2, rfl⟩ | ⟨q1, q2, q3⟩
      · exact ObR.ren hren (hg k i q1) (hp.mr.ob i o1 q2)
      · refine ObR.keep hK (fun d ⟨i, hi, hf, _⟩ => ?_) (hγ2' k q1) (fun b hb => hother k o b q3 hb q2) (hm.ob k o q3)
        simp only [fresh, Bool.and_eq_true] at hf
        exact noRefO_lk hf.2 q3
    · intro k k' o o' b h1 h2 h3 h4
      rcases hcase k o h1 with ⟨i, o1, q1, q2, _⟩ | ⟨q1, q2, q3⟩ <;> rcases hcase k' o' h2 with ⟨i', o1', q1', q2', _⟩ | ⟨q1', q2', q3'⟩
      · rw [hγ2 k i q1] at h3; rw [hγ2 k' i' q1'] at h4
        have := hp.mr.inj i i' o1 o1' b q2 q2' h3 h4
        subst this
        have e1 := hg k i q1
        have e2 := hg k' i q1'
        rw [e1] at e2; injection e2
      · rw [hγ2 k i q1] at h3; rw [hγ2' k' q1'] at h4
        exact (hapart i o1 b k' o' q2 h3 q3' h4 q2').elim
      · rw [hγ2' k q1] at h3; rw [hγ2 k' i' q1'] at h4
        exact (hapart i' o1' b k o q2' h4 q3 h3 q2).elim
      · rw [hγ2' k q1] at h3; rw [hγ2' k' q1'] at h4
        exact hm.inj k k' o o' b q3 q3' h3 h4
    · intro k o b h1 h2 hI
      rcases hcase k o h1 with ⟨i, o1, q1, q2, _⟩ | ⟨q1, q2, q3⟩
      · rw [hγ2 k i q1] at h2
        exact hp.mr.out i o1 b q2 h2 hI
      · rw [hγ2' k q1] at h2
        rcases hp.new b hI with r | r | r
        · exact hm.out k o b q3 h2 r
        · have := (hm.ob k o q3).lt h2; omega
        · obtain ⟨j, k', o', r1, r2, r3⟩ := howned b r
          have := hm.inj k k' o o' b q3 r2 h2 r3
          subst this
          exact posOf_none q2 (List.mem_of_getElem? r1)
    · exact hp.mr.lt
  · intro b hb
    rcases hp.new b hb with r | r | r
    · exact .inl r
    · exact .inr (.inl r)
    · obtain ⟨j, k', o', r1, r2, r3⟩ := howned b r
      exact .inr (.inr ⟨k', o', r2, r3⟩)
  · intro k o b h1 h2
    rcases hcase k o h1 with ⟨i, o1, q1, q2, _⟩ | ⟨q1, q2, q3⟩
    · rw [hγ2 k i q1] at h2
      rcases hp.own i o1 b q2 h2 with r | r
      · obtain ⟨j, k', o', r1, r2, r3⟩ := howned b r
        exact .inl ⟨k', o', r2, r3⟩
      · exact .inr r
    · rw [hγ2' k q1] at h2
      exact .inl ⟨k, o, q3, h2⟩
end
end Go.Proofs.Ytdpgdeaefmghiaa.Sx
