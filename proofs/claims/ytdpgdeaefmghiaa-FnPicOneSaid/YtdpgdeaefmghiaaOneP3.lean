/- A part of the proof's own kit: symbolic walks over the model (SxMa, SxQ, SxR, SxS, SxT). No statement of the seat stands here. -/
import Derived.Test.YtdpgdeaefmghiaaOneP2
set_option linter.unusedSimpArgs false
set_option linter.unusedVariables false
/- Equality of structs, of a slice and nil; slices with a bound; cap of nil. -/
namespace Go.Proofs.Ytdpgdeaefmghiaa.Sx
def scalarB (P : Program) (t : TypeId) (k : Nat) : Bool := match P.underlying t with | some (.int _) => k == 1 | some .bool => k == 2 | some .string => k == 3 | _ => false
def eqFs (P : Program) : Nat → List Field → List Nat → Bool
  | _, [], [] => true
  | n, f :: fs, k :: ks => f.offset == n && f.name != "_" && scalarB P f.type k && eqFs P (n + 1) fs ks
  | _, _, _ => false
def eqChk (P : Program) (t : TypeId) (ks : List Nat) : Bool := match P.underlying t with
  | some (.struct fs) => eqFs P 0 fs.toList ks && !P.stoodInHeld t && !P.eqGuardType P.depth t
  | _ => false
noncomputable section
def cellEqK (k : Nat) (c d : V) (K : Bool → Prop) : Prop := match k with
  | 1 => match c with
    | .int k a => match d with
      | .int k' b => match decide (k = k') with | true => K (decide (a = b)) | false => False
      | _ => False
    | _ => False
  | 2 => match c with
    | .tt => match d with | .tt => K true | .ff => K false | .bool b => K b | _ => False
    | .ff => match d with | .tt => K false | .ff => K true | .bool b => K (!b) | _ => False
    | .bool a => match d with | .tt => K a | .ff => K (!a) | .bool b => K (a == b) | _ => False
    | _ => False
  | _ => match c with
    | .str s => match d with | .str t => K (decide (s = t)) | _ => False
    | _ => False
def cellsEqK : List Nat → List V → List V → (Bool → Prop) → Prop
  | [], [], [], K => K true
  | k :: ks, c :: cs, d :: ds, K => cellEqK k c d fun b => match ks with
    | [] => (match cs with | [] => (match ds with | [] => K b | _ => False) | _ => False)
    | _ => cellsEqK ks cs ds fun b' => K (b && b')
  | _, _, _, _ => False
def binTK (C : Cfg) (op : BinOp) (t : TypeId) (x y : X) (K : X → Prop) : Prop := match x with
  | .agg cs => match y with
    | .agg ds => match C.eqt t with
      | [] => False
      | k :: ks => match op with
        | .eql => cellsEqK (k :: ks) cs ds fun b => K (.v (.bool b))
        | .neq => cellsEqK (k :: ks) cs ds fun b => K (.v (.bool (!b)))
        | _ => False
    | _ => False
  | x => binOrF op x y K
 where
  binOrF (op : BinOp) (x y : X) (K : X → Prop) : Prop := binK op x y K
def nb (ng b : Bool) : Bool := match ng with | false => b | true => !b
def opN (ng : Bool) : BinOp := match ng with | false => .eql | true => .neq
def ngK (ng b : Bool) (K : X → Prop) : Prop := match ng with | false => K (.v (.bool b)) | true => K (.v (.bool (!b)))
def nilEqK (d : TD) (ng : Bool) (obs : List (Option Ob)) (x : X) (K : X → Prop) : Prop := match d with
  | .sl _ _ => match x with
    | .v .nil => match ng with | false => K (.v .tt) | true => K (.v .ff)
    | .v (.sl _ xs) => ∀ b : Bool, (b = true → xs = []) → ngK ng b K
    | .v (.own k _ n) => lkK obs k fun ob => match ob with
      | .row .. => ∀ b : Bool, (b = true → n = 0) → ngK ng b K
      | .box _ => False
    | _ => False
  | _ => False
def cut3K (x : X) (lo : Option Int) (h m : Int) (K : X → Prop) : Prop := match x with
  | .v (.sl T s) => match lo with
    | none => Hold (0 ≤ h ∧ h ≤ m ∧ m ≤ s.length) ∧ K (.v (.sl T (s.take h.toNat)))
    | some l => Hold (0 ≤ l ∧ l ≤ h ∧ h ≤ m ∧ m ≤ s.length) ∧ K (.v (.sl T ((s.take h.toNat).drop l.toNat)))
  | _ => False
def capK (x : X) (K : X → Prop) : Prop := match x with
  | .v .nil => K (.v (.int .i64 0))
  | _ => False
end
section
variable {C : Cfg} {E : Entry} {env : List X} {obs : List (Option Ob)} {a : Act} {w : World} {γ : Nat → Option Nat} {I : Nat → Prop} {L : Nat → Option Ob} {P : Program}
theorem cellEq_sound {k : Nat} {c d : V} {u v : Value} (hc : VR γ I w L c u) (hd : VR γ I w L d v) {K : Bool → Prop} (hK : cellEqK k c d K) {n : Nat} {t : TypeId} (ht : scalarB P t k = true) :
    ∃ b, K b ∧ (Op.equalIn (n + 1) t u v).run P w = .ok b w := by
  unfold scalarB at ht
  unfold cellEqK at hK
  split at hK
  · split at hK
    · split at hK
      · split at hK
        · rename_i hk
          have hk := of_decide_eq_true hk
          subst hk
          cases hc; cases hd
          refine ⟨_, hK, ?_⟩
          split at ht
          · rename_i hu; rw [run_equalIn_int w n t _ _ _ _ hu]; congr 1
          all_goals simp at ht
        · exact hK.elim
      · exact hK.elim
    · exact hK.elim
  · have main : ∀ x y : Bool, (Op.equalIn (n + 1) t (.bool x) (.bool y)).run P w = .ok (x == y) w := fun x y => by
      split at ht
      · simp at ht
      · rename_i hu; exact run_equalIn_bool' w n t _ _ hu
      all_goals simp at ht
    split at hK <;> first | exact hK.elim | skip
    all_goals split at hK <;> first | exact hK.elim | skip
    all_goals (cases hc; cases hd; refine ⟨_, hK, ?_⟩; rw [main])
    all_goals simp
  · rename_i h1 h2
    split at hK
    · split at hK
      · cases hc; cases hd
        refine ⟨_, hK, ?_⟩
        split at ht
        · exact absurd (by simpa using ht) h1
        · exact absurd (by simpa using ht) h2
        · rename_i hu; rw [run_equalIn_string w n t _ _ hu, beq_toBytes]
        · simp at ht
      · exact hK.elim
    · exact hK.elim
theorem eqFs_run (d : Nat) (us vs : Array Value) : ∀ (ks : List Nat) (cs ds : List V) (n : Nat) (fs : List Field) {K : Bool → Prop}, eqFs P n fs ks = true →
    (∀ (j : Nat) (c : V), cs[j]? = some c → ∃ u, us[n + j]? = some u ∧ VR γ I w L c u) → (∀ (j : Nat) (c : V), ds[j]? = some c → ∃ u, vs[n + j]? = some u ∧ VR γ I w L c u) → cellsEqK ks cs ds K →
    ∃ b, (Op.eqFields (d + 1) us vs fs).run P w = .ok b w ∧ K b
  | [], [], [], n, [], K, _, _, _, hK => ⟨true, rfl, hK⟩
  | k :: ks, c :: cs, e :: ds, n, f :: fs, K, hf, hc, hd, hK => by
    simp only [eqFs, Bool.and_eq_true, beq_iff_eq, bne_iff_ne, ne_eq] at hf
    obtain ⟨⟨⟨h1, h2⟩, h3⟩, h4⟩ := hf
    simp only [cellsEqK] at hK
    obtain ⟨u, q1, q2⟩ := hc 0 c rfl
    obtain ⟨v, q3, q4⟩ := hd 0 e rfl
    obtain ⟨b, hK, hb⟩ := cellEq_sound (n := d) q2 q4 hK h3
    have hag : ∃ dd, P.underlying f.type = some dd ∧ isAggB P f.type = false := by
      unfold scalarB at h3; unfold isAggB
      cases hu : P.underlying f.type with
      | none => rw [hu] at h3; simp at h3
      | some dd => rw [hu] at h3; cases dd <;> first | exact ⟨_, rfl, rfl⟩ | simp at h3
    obtain ⟨dd, hdd, hag⟩ := hag
    have hp1 : (part f.type us f.offset).run P w = .ok u w := by
      rw [h1]; simp only [Nat.add_zero] at q1; simp [part, run_isAgg hdd, hag, q1]
    have hp2 : (part f.type vs f.offset).run P w = .ok v w := by
      rw [h1]; simp only [Nat.add_zero] at q3; simp [part, run_isAgg hdd, hag, q3]
    have rest : ∀ {K' : Bool → Prop}, cellsEqK ks cs ds K' → ∃ b', (Op.eqFields (d + 1) us vs fs).run P w = .ok b' w ∧ K' b' := fun hK' => eqFs_run d us vs ks cs ds (n + 1) fs h4
      (fun j c hj => by obtain ⟨u, r1, r2⟩ := hc (j + 1) c (by simpa using hj); exact ⟨u, by rw [show n + 1 + j = n + (j + 1) by omega]; exact r1, r2⟩)
      (fun j c hj => by obtain ⟨u, r1, r2⟩ := hd (j + 1) c (by simpa using hj); exact ⟨u, by rw [show n + 1 + j = n + (j + 1) by omega]; exact r1, r2⟩) hK'
    have fin : ∀ b', (Op.eqFields (d + 1) us vs fs).run P w = .ok b' w → (Op.eqFields (d + 1) us vs (f :: fs)).run P w = .ok (b && b') w := fun b' hb' => by
      simp only [Op.eqFields, ne_eq, h2, not_false_eq_true, if_true]
      cases b <;> simp [hp1, hp2, hb, hb']
    cases ks with
    | nil =>
      simp only at hK
      split at hK
      · split at hK
        · obtain ⟨b', r1, r2⟩ := rest (K' := fun b' => b' = true) (by simp [cellsEqK])
          subst r2
          exact ⟨_, fin true r1, by simpa using hK⟩
        · exact hK.elim
      · exact hK.elim
    | cons k' ks =>
      obtain ⟨b', r1, r2⟩ := rest hK
      exact ⟨_, fin b' r1, r2⟩
  | [], [], [], _, _ :: _, _, hf, _, _, _ => by simp [eqFs] at hf
  | [], [], _ :: _, _, _, _, _, _, _, hK => by simp [cellsEqK] at hK
  | [], _ :: _, _, _, _, _, _, _, _, hK => by simp [cellsEqK] at hK
  | _ :: _, [], _, _, _, _, _, _, _, hK => by simp [cellsEqK] at hK
  | _ :: _, _ :: _, [], _, _, _, _, _, _, hK => by simp [cellsEqK] at hK
  | _ :: _, _ :: _, _ :: _, _, [], _, hf, _, _, _ => by simp [eqFs] at hf
theorem binT_sound (he : ∀ t, C.eqt t ≠ [] → eqChk C.P t (C.eqt t) = true) {op : BinOp} {t : TypeId} {x y : X} {u v : Value} (hx : XR γ I w L x u) (hy : XR γ I w L y v) {K : X → Prop} (hK : binTK C op t x y K) :
    ∃ r z, (binOp op t u v).run C.P w = .ok r w ∧ XR γ I w L z r ∧ K z ∧ ∀ (xo yo : Operand), (eqGuard op t xo yo u v).run C.P w = .ok () w := by
  have plain : binK op x y K → ∃ r z, (binOp op t u v).run C.P w = .ok r w ∧ XR γ I w L z r ∧ K z ∧ ∀ (xo yo : Operand), (eqGuard op t xo yo u v).run C.P w = .ok () w := fun hK => by
    obtain ⟨r, z, h1, h2, h3, h4⟩ := bin_sound (P := C.P) (t := t) hx hy hK
    exact ⟨r, z, h1, h2, h3, fun xo yo => by rw [h4 xo yo]; simp⟩
  unfold binTK at hK
  split at hK
  · rename_i cs
    split at hK
    · rename_i ds
      obtain ⟨us, rfl, h1, h2⟩ := hx
      obtain ⟨vs, rfl, h3, h4⟩ := hy
      split at hK
      · exact hK.elim
      · rename_i k ks hks
        have hc := he t (by rw [hks]; simp)
        rw [hks] at hc
        unfold eqChk at hc
        split at hc
        · rename_i fs hu
          simp only [Bool.and_eq_true, Bool.not_eq_true'] at hc
          obtain ⟨⟨c1, c2⟩, c3⟩ := hc
          have hfs : C.P.fieldsOf t = fs := by simp [Program.fieldsOf, hu]
          have hu' : C.P.underlying t = some (.struct (C.P.fieldsOf t)) := by rw [hfs, hu]
          have hrun : ∀ {K' : Bool → Prop}, cellsEqK (k :: ks) cs ds K' → ∃ b, (Op.equalIn 10000 t (.agg us) (.agg vs)).run C.P w = .ok b w ∧ K' b := fun hK' => by
            rw [run_equalIn_agg w 9999 t us vs hu' c2, hfs]
            exact eqFs_run 9998 us vs (k :: ks) cs ds 0 fs.toList c1 (fun j c hj => by simpa using h2 j c hj) (fun j c hj => by simpa using h4 j c hj) hK'
          split at hK
          · obtain ⟨b, r1, r2⟩ := hrun hK
            exact ⟨.bool b, .v (.bool b), by rw [run_eql_struct, r1]; rfl, VR.bool b, r2, fun xo yo => run_eqGuard_agg w _ t xo yo us vs c3⟩
          · obtain ⟨b, r1, r2⟩ := hrun hK
            exact ⟨.bool (!b), .v (.bool (!b)), by rw [run_neq_struct, r1]; rfl, VR.bool _, r2, fun xo yo => run_eqGuard_agg w _ t xo yo us vs c3⟩
          · exact hK.elim
        · simp at hc
    · exact hK.elim
  · exact plain hK
theorem ngK_spec {ng b : Bool} {K : X → Prop} (h : ngK ng b K) : K (.v (.bool (nb ng b))) := by cases ng <;> exact h
theorem nilEq_sound {t : TypeId} {d : TD} (ht : TdOk P t d) {op : BinOp} {ng : Bool} (hop : op = opN ng) {x : X} {u : Value} (hx : XR γ I w (lk obs) x u) {K : X → Prop} (hK : nilEqK d ng obs x K) :
    ∃ r z, (binOp op t u (.slice none 0 0)).run P w = .ok r w ∧ XR γ I w (lk obs) z r ∧ K z ∧ ∀ (xo yo : Operand), eqGuard op t xo yo u (.slice none 0 0) = pure () := by
  unfold nilEqK at hK
  split at hK
  · obtain ⟨hu, _⟩ := ht
    have main : ∀ ad n c, u = .slice ad n c → ∀ z : X, XR γ I w (lk obs) z (.bool (nb ng ad.isNone)) → K z →
        ∃ r z, (binOp op t u (.slice none 0 0)).run P w = .ok r w ∧ XR γ I w (lk obs) z r ∧ K z ∧ ∀ (xo yo : Operand), eqGuard op t xo yo u (.slice none 0 0) = pure () := by
      intro ad n c hu' z hz hk
      subst hu'
      refine ⟨_, z, ?_, hz, hk, fun xo yo => by cases ng <;> (subst hop; rfl)⟩
      have he0 : ∀ d, (Op.equalIn (d + 1) t (.slice ad n c) (.slice none 0 0)).run P w = .ok ad.isNone w := fun d => by
        cases ad <;> simp [Op.equalIn, run_underlying hu]
      have he : (Op.equal t (.slice ad n c) (.slice none 0 0)).run P w = .ok ad.isNone w := he0 9999
      cases ng <;> (subst hop; simp [binOp, opN, nb, he])
    split at hK
    · cases hx
      cases ng with
      | false => exact main _ _ _ rfl (.v .tt) VR.tt hK
      | true => exact main _ _ _ rfl (.v .ff) VR.ff hK
    · rename_i T xs
      cases hx with
      | slE T a c => exact main a 0 c rfl (.v (.bool (nb ng a.isNone))) (VR.bool _) (ngK_spec (hK a.isNone (fun _ => rfl)))
      | sl T xs b o c uu h1 h2 h3 h4 h5 => exact main _ _ _ rfl (.v (.bool (nb ng false))) (VR.bool _) (ngK_spec (hK false (fun e => by cases e)))
    · obtain ⟨ob, hl, hK⟩ := lkK_spec hK
      split at hK
      · rename_i k off n e T xs
        cases hx with
        | ownD k off n v h => rw [hl] at h; cases h
        | ownN k h => exact main none 0 0 rfl (.v (.bool (nb ng true))) (VR.bool _) (ngK_spec (hK true (fun _ => rfl)))
        | own k off len b c e sz T xs cur o h1 h2 h3 h4 h5 h6 h7 h8 => exact main _ _ _ rfl (.v (.bool (nb ng false))) (VR.bool _) (ngK_spec (hK false (fun e => by cases e)))
      · exact hK.elim
    · exact hK.elim
  · exact hK.elim
theorem run_slice_max {t e : TypeId} {ie : TypeInfo} (hu : P.underlying t = some (.slice e)) (hi : P.info? e = some ie) {ad : Option Addr} {len cap l h m : Nat} {lo : Option Value} {k1 k2 : IntKind} (hlo : isOpt lo 0 l) (h1 : l ≤ h) (h2 : h ≤ m) (h3 : m ≤ cap) :
    (Instr.sliceAt t (.slice ad len cap) lo (some (.int k1 (h : Int))) (some (.int k2 (m : Int)))).run P w = .ok (.slice (if m = l then ad else ad.map (·.add (l * ie.size))) (h - l) (m - l)) w := by
  have hl' : (l : Int) ≤ h := by omega
  have hh' : (h : Int) ≤ m := by omega
  have hm' : (m : Int) ≤ cap := by omega
  rcases hlo with ⟨rfl, rfl⟩ | ⟨k1, rfl⟩ <;>
    simp [Instr.sliceAt, Instr.slice, Instr.sliceBounds, Instr.sliceBound, asIntOf, run_underlying hu, sizeOf, typeInfo, hi, h1, h2, h3, hl', hh', hm'] <;> omega
theorem cut3_sound {t : TypeId} (ht : TdOk C.P t (C.td t)) {x : X} {u : Value} (hx : XR γ I w (lk obs) x u) {lo : Option Int} {h m : Int} {vlo : Option Value} {k1 k2 : IntKind}
    (hlo : (lo = none ∧ vlo = none) ∨ ∃ k n, lo = some n ∧ vlo = some (.int k n)) (hok : cutOk (C.td t) obs x = true) {K : X → Prop} (hK : cut3K x lo h m K) :
    ∃ v y, (Instr.sliceAt t u vlo (some (.int k1 h)) (some (.int k2 m))).run C.P w = .ok v w ∧ XR γ I w (lk obs) y v ∧ K y := by
  unfold cut3K at hK
  split at hK
  · rename_i T s
    unfold cutOk at hok
    split at hok
    · rename_i h1 h2; cases h2
    · rename_i e T0 T' s' htd hxx
      cases hxx
      rw [htd] at ht
      obtain ⟨hu, _, ie, zv, hie, hisz, _⟩ := ht
      have hTs : ie.size = T.size := by rw [hisz]; exact Nat.eq_of_beq_eq_true hok
      obtain ⟨ad, c, rfl, hle, hs⟩ := VR.sl_inv hx
      have main : ∀ (l h m : Nat) (k1 k2 : IntKind), isOpt vlo 0 l → l ≤ h → h ≤ m → m ≤ s.length → ∃ v, (Instr.sliceAt t (.slice ad s.length c) vlo (some (.int k1 (h : Int))) (some (.int k2 (m : Int)))).run C.P w = .ok v w ∧ XR γ I w (lk obs) (.v (.sl T ((s.take h).drop l))) v := by
        intro l h m k1 k2 h1 h3 h4 h5
        refine ⟨_, run_slice_max hu hie h1 h3 h4 (by omega), ?_⟩
        have hlen : ((s.take h).drop l).length = h - l := by simp; omega
        by_cases hlh : h - l = 0
        · have hnil : (s.take h).drop l = [] := List.eq_nil_of_length_eq_zero (by omega)
          rw [hnil, hlh]; exact VR.slE T _ _
        · rcases hs with rfl | ⟨hb, b, o, rfl, hI, hat⟩
          · simp at h5; omega
          · rw [if_neg (by omega), ← hlen]
            simp only [Option.map_some, Addr.add_lit]
            refine VR.sl_mk (by omega) (by rw [hlen]; exact Nat.le_trans (Nat.mul_le_mul_right _ (by omega)) hb) hI ?_
            rw [hTs]
            have h5 := hat.drop (l * T.size)
            rw [flat_drop] at h5
            intro j cc hj
            rw [List.drop_take, ← flat_take, List.getElem?_take] at hj
            split at hj
            · exact h5 j cc hj
            · cases hj
      split at hK
      · rcases hlo with ⟨_, rfl⟩ | ⟨k, n, q, _⟩
        · obtain ⟨⟨g0, g1, g2⟩, hK⟩ := hK
          obtain ⟨v, q1, q2⟩ := main 0 h.toNat m.toNat k1 k2 (.inl ⟨rfl, rfl⟩) (by omega) (by omega) (by omega)
          rw [Int.toNat_of_nonneg g0, Int.toNat_of_nonneg (by omega)] at q1
          exact ⟨v, _, q1, q2, by simpa using hK⟩
        · cases q
      · rename_i l
        rcases hlo with ⟨q, _⟩ | ⟨k, n, q, rfl⟩
        · cases q
        · injection q with q; subst q
          obtain ⟨⟨g0, g1, g2, g3⟩, hK⟩ := hK
          obtain ⟨v, q1, q2⟩ := main l.toNat h.toNat m.toNat k1 k2 (.inr ⟨k, by rw [Int.toNat_of_nonneg g0]⟩) (by omega) (by omega) (by omega)
          rw [Int.toNat_of_nonneg (by omega), Int.toNat_of_nonneg (by omega)] at q1
          exact ⟨v, _, q1, q2, hK⟩
    · rename_i hxx; cases hxx
    · simp at hok
  · exact hK.elim
end
end Go.Proofs.Ytdpgdeaefmghiaa.Sx

/- Every operation. -/
namespace Go.Proofs.Ytdpgdeaefmghiaa.Sx
structure Ent where
  spec : Spec
  own : Bool
structure Hy where
  tab : FuncId → Option Ent
  bor : List Nat
def Enter (P : Program) (f : FuncId) : Prop := ∃ fn, P.funcs[f]? = some fn ∧ fn.name ≠ "runtime.NumGoroutine" ∧ fn.body ≠ none
structure HyOk (C : Cfg) (H : Hy) : Prop where
  td : ∀ t, TdOk C.P t (C.td t)
  ok : ∀ f en, H.tab f = some en → FnOk C f en.spec ∧ Enter C.P f
  eq : ∀ t, C.eqt t ≠ [] → eqChk C.P t (C.eqt t) = true
noncomputable section
def fO (o : Option Ob) (k : Option Ob → Prop) : Prop := match o with
  | none => k none
  | some ob => match ob with
    | .box cs => fL cs fun cs => k (some (.box cs))
    | .row e T xs => k (some (.row e T xs))
theorem fO_eq (o : Option Ob) (k : Option Ob → Prop) : fO o k = k o := by
  cases o with
  | none => rfl
  | some ob => cases ob <;> simp [fO, fL_eq]
def fObs : Obs → (Obs → Prop) → Prop
  | [], k => k []
  | o :: os, k => fO o fun o => fObs os fun os => k (o :: os)
theorem fObs_eq : ∀ (l : Obs) (k : Obs → Prop), fObs l k = k l
  | [], _ => rfl
  | c :: cs, k => by rw [fObs, fO_eq, fObs_eq cs]
def fN : List Nat → (List Nat → Prop) → Prop
  | [], k => k []
  | n :: ns, k => fNat n fun n => fN ns fun ns => k (n :: ns)
theorem fN_eq : ∀ (l : List Nat) (k : List Nat → Prop), fN l k = k l
  | [], _ => rfl
  | c :: cs, k => by rw [fN, fNat_eq, fN_eq cs]
def snocK : List Nat → Nat → (List Nat → Prop) → Prop
  | [], n, k => k [n]
  | m :: ms, n, k => snocK ms n fun l => k (m :: l)
theorem snocK_eq : ∀ (l : List Nat) (n : Nat) (k : List Nat → Prop), snocK l n k = k (l ++ [n])
  | [], _, _ => rfl
  | m :: ms, n, k => by rw [snocK, snocK_eq ms]; rfl
def insAllK : List Nat → List Nat → (List Nat → Prop) → Prop
  | [], ks, K => K ks
  | j :: js, ks, K => fNat j fun j => match ks.any (Nat.beq j) with
    | true => insAllK js ks K
    | false => snocK ks j fun ks => insAllK js ks K
theorem insAllK_eq : ∀ (js ks : List Nat) (K : List Nat → Prop), insAllK js ks K = K (insAll ks js)
  | [], _, _ => rfl
  | j :: js, ks, K => by
    rw [insAllK, fNat_eq]
    have e : insAll ks (j :: js) = insAll (ins ks j) js := rfl
    rw [e]
    cases hb : ks.any (Nat.beq j) with
    | true =>
      have h1 : ins ks j = ks := by unfold ins; rw [hb]
      rw [h1]; exact insAllK_eq js ks K
    | false =>
      have h1 : ins ks j = ks ++ [j] := by unfold ins; rw [hb]
      rw [h1]; simp only [snocK_eq]; exact insAllK_eq js _ K
def closeK (obs : Obs) : Nat → List Nat → (List Nat → Prop) → Prop
  | 0, ks, K => K ks
  | n + 1, ks, K => insAllK (ks.flatMap (keysO obs)) ks fun ks => closeK obs n ks K
theorem closeK_eq (obs : Obs) : ∀ (n : Nat) (ks : List Nat) (K : List Nat → Prop), closeK obs n ks K = K (close obs n ks)
  | 0, _, _ => rfl
  | n + 1, ks, K => by rw [closeK, insAllK_eq, closeK_eq obs n]; rfl
def ksK (obs : Obs) (ks js : List Nat) (K : List Nat → Prop) : Prop := fN ks fun ks => insAllK js ks fun ks => closeK obs 3 ks K
theorem ksK_eq (obs : Obs) (ks js : List Nat) (K : List Nat → Prop) : ksK obs ks js K = K (close obs 3 (insAll ks js)) := by rw [ksK, fN_eq, insAllK_eq, closeK_eq]
def fB : List (Option Nat) → (List (Option Nat) → Prop) → Prop
  | [], k => k []
  | o :: ns, k => match o with
    | none => fB ns fun ns => k (none :: ns)
    | some n => fNat n fun n => fB ns fun ns => k (some n :: ns)
theorem fB_eq : ∀ (l : List (Option Nat)) (k : List (Option Nat) → Prop), fB l k = k l
  | [], _ => rfl
  | none :: cs, k => by rw [fB, fB_eq cs]
  | some n :: cs, k => by rw [fB, fNat_eq, fB_eq cs]
def bkChk (ks : List Nat) (env : List X) (obs : Obs) : Nat → List (Option Nat) → Bool
  | _, [] => true
  | i, none :: l => bkChk ks env obs (i + 1) l
  | i, some k :: l => (match ks[i]? with | some k' => Nat.beq k' k && isBox obs k | none => fresh k env obs && (lk obs k).isNone) && Nat.blt k obs.length && bkChk ks env obs (i + 1) l
theorem bkChk_spec {ks : List Nat} {env : List X} {obs : Obs} : ∀ {l : List (Option Nat)} {n : Nat}, bkChk ks env obs n l = true → ∀ (i k : Nat), l[i]? = some (some k) → ((ks[n + i]? = some k ∧ isBox obs k = true) ∨ (fresh k env obs = true ∧ lk obs k = none)) ∧ k < obs.length
  | [], n, _, i, k, h => by simp at h
  | none :: l, n, hc, i, k, h => by
    cases i with
    | zero => simp at h
    | succ i => have := bkChk_spec (l := l) (n := n + 1) hc i k (by simpa using h); rw [show n + (i + 1) = n + 1 + i by omega]; exact this
  | some j :: l, n, hc, i, k, h => by
    simp only [bkChk, Bool.and_eq_true] at hc
    cases i with
    | zero =>
      simp at h; subst h
      refine ⟨?_, Nat.le_of_ble_eq_true hc.1.2⟩
      have := hc.1.1
      split at this
      · rename_i k' hk'
        simp only [Bool.and_eq_true] at this
        exact .inl ⟨by rw [Nat.add_zero, hk', Nat.eq_of_beq_eq_true this.1], this.2⟩
      · simp only [Bool.and_eq_true, Option.isNone_iff_eq_none] at this
        exact .inr this
    | succ i => have := bkChk_spec (l := l) (n := n + 1) hc.2 i k (by simpa using h); rw [show n + (i + 1) = n + 1 + i by omega]; exact this
/-- Places for new objects: the operation's own, then free ones at the end. -/
def frees (obs : Obs) (xb : Nat) : List Nat := (List.range (obs.length - xb)).filterMap fun j => match obs[xb + j]? with | some none => some (xb + j) | _ => none
def newKeys (obs : Obs) (key xb n : Nat) : List Nat := match n with
  | 0 => []
  | 1 => [key]
  | n + 1 => key :: (frees obs xb).take n
def enterK (xb key : Nat) (env : List X) (obs : Obs) (S : Spec) (args : List X) (K : X → Obs → Prop) : Prop :=
  ksK obs [] (args.flatMap keysX1) fun ks => match nodupB ks with
    | false => False
    | true => fXs (args.map (renX (posOf ks))) fun args => fObs (subOf obs ks) fun sub => S args sub fun x sub1 =>
      fB ((ks.map fun k => match isBox obs k with | true => some k | false => none) ++ (newKeys obs key xb (sub1.length - ks.length)).map some) fun bk =>
        match bkChk ks env obs 0 bk && nodupB (somes bk) with
        | true => fObs (backL bk ks sub1 0 obs) fun obs => K (renX (gOf bk) x) obs
        | false => False
/-- A known bool, as any bool. -/
def normX : X → X
  | .v .tt => .v (.bool true)
  | .v .ff => .v (.bool false)
  | x => x
def scrubV : V → V
  | .int k n => .int k n | .tt => .tt | .ff => .ff | .bool b => .bool b | .str s => .str s | .nil => .nil | .con v => .con v
  | _ => .any
def scrubX1 : X → X
  | .v c => .v (scrubV c)
  | .agg cs => .agg (cs.map scrubV)
  | .tup xs => .tup xs
def scrubX : X → X
  | .tup xs => .tup (xs.map scrubX1)
  | x => scrubX1 x
def lendV (obs : Obs) (c : V) : V := match c with
  | .full k => match lk obs k with | some (.row _ T xs) => .sl T xs | _ => .any
  | .own k off n => match lk obs k with | some (.row _ T xs) => .sl T ((xs.drop off).take n) | _ => .any
  | .ptr .. => .any | .ep .. => .any | .fn .. => .any | .cp _ => .any
  | c => c
def lendX (obs : Obs) : X → X
  | .v c => .v (lendV obs c)
  | .agg cs => .agg (cs.map (lendV obs))
  | .tup _ => .v .any
def callK0 (H : Hy) (xb key : Nat) (dst : Option Nat) (env : List X) (obs : Obs) (f : FuncId) (args : List X) (K : X → Obs → Prop) : Prop :=
  match H.tab f with
  | none => False
  | some en => match (match dst with | some d => H.bor.any (Nat.beq d) | none => false) with
    | true => fXs (args.map (lendX obs)) fun args => en.spec args [] fun x _ => K (scrubX x) obs
    | false => match en.own with
      | true => enterK xb key env obs en.spec args K
      | false => convAK args obs fun args obs => enterK xb key env obs en.spec args K
def callK (H : Hy) (xb key : Nat) (dst : Option Nat) (env : List X) (obs : Obs) (f : FuncId) (args : List X) (K : X → Obs → Prop) : Prop :=
  fXs (args.map normX) fun args => callK0 H xb key dst env obs f args K
end
section
variable {C : Cfg} {E : Entry} {env : List X} {obs : Obs} {a : Act} {w : World} {γ : Nat → Option Nat} {I : Nat → Prop} {L : Nat → Option Ob} {H : Hy}
theorem newKeys_mem {obs : Obs} {key xb n k : Nat} (h : k ∈ newKeys obs key xb n) : k = key ∨ xb ≤ k := by
  unfold newKeys at h
  split at h
  · cases h
  · left; simpa using h
  · rcases List.mem_cons.1 h with h | h
    · exact .inl h
    · right
      have := List.mem_of_mem_take h
      unfold frees at this
      obtain ⟨j, _, hj⟩ := List.mem_filterMap.1 this
      split at hj
      · injection hj with hj; omega
      · cases hj
theorem bk_new {ks : List Nat} {obs : Obs} {nk : List Nat} {i k : Nat} (h : ((ks.map fun k => match isBox obs k with | true => some k | false => none) ++ nk.map some)[i]? = some (some k)) :
    (∃ _ : Unit, ks[i]? = some k ∧ isBox obs k = true) ∨ k ∈ nk := by
  by_cases hi : i < ks.length
  · rw [List.getElem?_append_left (by simpa using hi), List.getElem?_map] at h
    cases hk : ks[i]? with
    | none => rw [hk] at h; cases h
    | some k' =>
      rw [hk] at h
      simp only [Option.map_some, Option.some.injEq] at h
      cases hb : isBox obs k' with
      | true => rw [hb] at h; simp at h; subst h; exact .inl ⟨(), rfl, hb⟩
      | false => rw [hb] at h; cases h
  · rw [List.getElem?_append_right (by simpa using hi), List.getElem?_map] at h
    right
    cases hk : nk[i - (ks.map fun k => match isBox obs k with | true => some k | false => none).length]? with
    | none => rw [hk] at h; cases h
    | some k' => rw [hk] at h; simp at h; subst h; exact List.mem_of_getElem? hk
theorem enter_sound (h : SimG C E ⟨env, obs⟩ a w γ I) {xb key : Nat} {f : FuncId} {S : Spec} (hS : FnOk C f S) {args : List X} {us : Array Value} (ha : ArgsR γ I w (lk obs) args us) {K : X → Obs → Prop} (hK : enterK xb key env obs S args K) (h0 : E.bx key = none) (hxb : ∀ k, xb ≤ k → E.bx k = none) (dst : Option Nat) :
    Calls C.P f us w fun e w' => ∃ v, e = .returned v ∧ ∃ x obs', K x obs' ∧ Sim C E ⟨put env dst x, obs'⟩ (a.put dst v) w' := by
  unfold enterK at hK
  rw [ksK_eq] at hK
  generalize hks : close obs 3 (insAll [] (args.flatMap keysX1)) = ks at hK
  split at hK
  · exact hK.elim
  · rename_i hn
    rw [fXs_eq, fObs_eq] at hK
    refine (hS _ _ _ (fun i => (ks[i]?).bind γ) I w us hK ⟨by simpa using ha.1, fun i x hx => ?_⟩ (sub_mr h.mr hn) (fun g cs hg => h.glob g cs hg)).mono ?_
    · rw [List.getElem?_map] at hx
      cases hy : args[i]? with
      | none => rw [hy] at hx; cases hx
      | some y =>
        rw [hy] at hx; injection hx with hx; subst hx
        obtain ⟨u, q1, q2⟩ := ha.2 i y hy
        exact ⟨u, q1, XR.ren (sub_ren ks) q2⟩
    · intro e w' ⟨v, x, sub', γ', I', he, hK, hx, hp⟩
      rw [fB_eq] at hK
      split at hK
      · rename_i hc
        simp only [Bool.and_eq_true] at hc
        rw [fObs_eq] at hK
        have hb := bkChk_spec hc.1
        exact ⟨v, he, _, _, hK, call_back h hn hp hx (fun i k hi => by
          rcases (hb i k hi).1 with q | ⟨q1, q2⟩
          · exact .inl (by simpa using q)
          · rcases bk_new hi with q3 | q3
            · obtain ⟨k0, q4, q5⟩ := q3
              exact .inl ⟨q4, q5⟩
            · rcases newKeys_mem q3 with q4 | q4
              · subst q4; exact .inr ⟨q1, q2, h0⟩
              · exact .inr ⟨q1, q2, hxb k q4⟩) hc.2 (fun i k hi => (hb i k hi).2) dst⟩
      · exact hK.elim
theorem scrub_ok {γ' : Nat → Option Nat} {I' : Nat → Prop} {w' : World} {L' : Nat → Option Ob} {c : V} {u : Value} (h : VR γ' I' w' L' c u) : VR γ I w L (scrubV c) u := by
  cases h <;> first | exact VR.any _ | exact VR.int _ _ (by assumption) | exact VR.tt | exact VR.ff | exact VR.bool _ | exact VR.str _ (by assumption) | exact VR.nil | exact VR.con _ (by assumption)
theorem scrub1_ok {γ' : Nat → Option Nat} {I' : Nat → Prop} {w' : World} {L' : Nat → Option Ob} : ∀ {x : X} {u : Value}, XR1 γ' I' w' L' x u → XR1 γ I w L (scrubX1 x) u
  | .v _, _, h => scrub_ok h
  | .agg cs, _, ⟨us, h1, h2, h3⟩ => ⟨us, h1, by simpa using h2, fun j c hj => by
      simp only [List.getElem?_map] at hj
      cases hx : cs[j]? with
      | none => rw [hx] at hj; cases hj
      | some c0 => rw [hx] at hj; injection hj with hj; subst hj; obtain ⟨x, e, r⟩ := h3 j c0 hx; exact ⟨x, e, scrub_ok r⟩⟩
  | .tup _, _, _ => trivial
theorem scrubX_ok {γ' : Nat → Option Nat} {I' : Nat → Prop} {w' : World} {L' : Nat → Option Ob} : ∀ {x : X} {u : Value}, XR γ' I' w' L' x u → XR γ I w L (scrubX x) u
  | .v c, u, h => scrub1_ok (x := .v c) h
  | .agg cs, u, h => scrub1_ok (x := .agg cs) h
  | .tup xs, u, ⟨us, h1, h2, h3⟩ => ⟨us, h1, by simpa using h2, fun j c hj => by
      simp only [List.getElem?_map] at hj
      cases hx : xs[j]? with
      | none => rw [hx] at hj; cases hj
      | some c0 => rw [hx] at hj; injection hj with hj; subst hj; obtain ⟨x, e, r⟩ := h3 j c0 hx; exact ⟨x, e, scrub1_ok r⟩⟩
theorem lend_ok (hm : MR γ I w (lk obs)) {c : V} {u : Value} (h : VR γ I w (lk obs) c u) : VR γ (fun b => I b ∨ ∃ k o, lk obs k = some o ∧ γ k = some b) w (fun _ => none) (lendV obs c) u := by
  have live : ∀ {c : V}, c.plain → VR γ I w (lk obs) c u → VR γ (fun b => I b ∨ ∃ k o, lk obs k = some o ∧ γ k = some b) w (fun _ => none) c u := fun hp h => h.content (fun _ h => .inl h) (fun _ _ => rfl) hp
  cases c with
  | full k =>
    simp only [lendV]
    split
    · rename_i e T xs hl
      exact sealed_full hm h hl (fun _ h => .inl h) (fun b hb => .inr ⟨k, _, hl, hb⟩)
    · exact VR.any _
  | own k off n =>
    simp only [lendV]
    split
    · rename_i e T xs hl
      exact sealed_own hm h hl (fun _ h => .inl h) (fun b hb => .inr ⟨k, _, hl, hb⟩)
    · exact VR.any _
  | any => exact VR.any _
  | ptr => exact VR.any _
  | ep => exact VR.any _
  | fn => exact VR.any _
  | cp => exact VR.any _
  | _ => exact live trivial h
theorem lendX_ok (hm : MR γ I w (lk obs)) {x : X} {u : Value} (h : XR γ I w (lk obs) x u) : XR γ (fun b => I b ∨ ∃ k o, lk obs k = some o ∧ γ k = some b) w (fun _ => none) (lendX obs x) u := by
  cases x with
  | v c => exact lend_ok hm h
  | agg cs =>
    obtain ⟨us, h1, h2, h3⟩ := h
    refine ⟨us, h1, by simpa using h2, fun j c hj => ?_⟩
    simp only [List.getElem?_map] at hj
    cases hx : cs[j]? with
    | none => rw [hx] at hj; cases hj
    | some c0 => rw [hx] at hj; injection hj with hj; subst hj; obtain ⟨x, e, r⟩ := h3 j c0 hx; exact ⟨x, e, lend_ok hm r⟩
  | tup xs => exact VR.any _
theorem call0_sound (hH : HyOk C H) (h : SimG C E ⟨env, obs⟩ a w γ I) {xb key : Nat} {f : FuncId} {args : List X} {us : Array Value} (ha : ArgsR γ I w (lk obs) args us) {dst : Option Nat} {K : X → Obs → Prop} (hK : callK0 H xb key dst env obs f args K) (h0 : E.bx key = none) (hxb : ∀ k, xb ≤ k → E.bx k = none) :
    Enter C.P f ∧ Calls C.P f us w fun e w' => ∃ v, e = .returned v ∧ ∃ x obs', K x obs' ∧ Sim C E ⟨put env dst x, obs'⟩ (a.put dst v) w' := by
  unfold callK0 at hK
  split at hK
  · exact hK.elim
  · rename_i en hen
    obtain ⟨hS, hE⟩ := hH.ok f en hen
    refine ⟨hE, ?_⟩
    generalize hb : (match dst with | some d => H.bor.any (Nat.beq d) | none => false) = bb at hK
    cases bb with
    | true =>
      simp only [fXs_eq] at hK
      have hm : MR γ I w (lk obs) := h.mr
      have hnone : lk [] = fun _ => none := by funext k; simp [lk]
      refine (hS _ [] _ γ (fun b => I b ∨ ∃ k o, lk obs k = some o ∧ γ k = some b) w us hK ⟨by simpa using ha.1, fun i x hx => ?_⟩ ?_ (fun g cs hg => (h.glob g cs hg).keep (fun _ h => .inl h) (fun _ _ => rfl))).mono ?_
      · rw [List.getElem?_map] at hx
        cases hy : args[i]? with
        | none => rw [hy] at hx; cases hx
        | some y =>
          rw [hy] at hx; injection hx with hx; subst hx
          obtain ⟨u, q1, q2⟩ := ha.2 i y hy
          rw [hnone]
          exact ⟨u, q1, lendX_ok hm q2⟩
      · rw [hnone]
        refine ⟨fun k o h => (by simp at h), fun k k' o o' b h => (by simp at h), fun k o b h => (by simp at h), fun b hb => ?_⟩
        rcases hb with hb | ⟨k, o, h1, h2⟩
        · exact hm.lt b hb
        · exact (hm.ob k o h1).lt h2
      · intro e w' ⟨v, x, sub', γ', I', he, hK, hx, hp⟩
        have hheap : ∀ b, b < w.heap.size → w'.heap[b]? = w.heap[b]? := fun b hb => hp.fr.block b hb (fun ⟨k, o, h1, _⟩ => by rw [hnone] at h1; cases h1)
        have hk : Keep (fun _ => False) γ γ I I w w' (lk obs) (lk obs) :=
          ⟨fun _ h => h, fun b hb => hheap b (hm.lt b hb), fun k ob h _ => ⟨by rw [h]; simp, rfl⟩, fun k e T xs h _ => .inr ⟨⟨xs, h, rfl⟩, fun b cur _ hc => ⟨cur, by rw [hheap b (block_lt hc)]; exact hc, rfl⟩⟩⟩
        refine ⟨v, he, _, _, hK, γ, I, h.next hk (fun _ hd => hd.elim) (fun _ hd => hd.elim) ⟨fun k o hk' => ObR.keep hk (fun _ hd => hd.elim) rfl (fun b hb => hheap b ((hm.ob k o hk').lt hb)) (hm.ob k o hk'), hm.inj, hm.out, fun b hb => Nat.lt_of_lt_of_le (hm.lt b hb) hp.fr.size⟩
          ⟨hp.fr.os, hp.fr.tape, hp.fr.output, hp.fr.size, fun b hb _ => hheap b hb⟩ (fun b hb => .inl hb) (fun k o b h1 h2 => .inl ⟨k, o, h1, h2⟩) (scrubX_ok hx) dst⟩
    | false =>
      simp only at hK
      split at hK
      · exact enter_sound h hS ha hK h0 hxb dst
      · obtain ⟨xs', obs', I', hK, h1, h2, h3, h4⟩ := convA_sound args us.toList h (by simpa using ha.1.symm) (fun j x hx => by obtain ⟨u, q1, q2⟩ := ha.2 j x hx; exact ⟨u, by simpa using q1, q2⟩) hK
        exact enter_sound h1 hS ⟨by simpa using h3.symm, fun i x hx => by obtain ⟨u, q1, q2⟩ := h4 i x hx; exact ⟨u, by simpa using q1, q2⟩⟩ hK h0 hxb dst
theorem XR.norm {x : X} {u : Value} (h : XR γ I w L x u) : XR γ I w L (normX x) u := by
  unfold normX
  split
  · cases h; exact VR.bool true
  · cases h; exact VR.bool false
  · exact h
theorem call_sound (hH : HyOk C H) (h : SimG C E ⟨env, obs⟩ a w γ I) {xb key : Nat} {f : FuncId} {args : List X} {us : Array Value} (ha : ArgsR γ I w (lk obs) args us) {dst : Option Nat} {K : X → Obs → Prop} (hK : callK H xb key dst env obs f args K) (h0 : E.bx key = none) (hxb : ∀ k, xb ≤ k → E.bx k = none) :
    Enter C.P f ∧ Calls C.P f us w fun e w' => ∃ v, e = .returned v ∧ ∃ x obs', K x obs' ∧ Sim C E ⟨put env dst x, obs'⟩ (a.put dst v) w' := by
  unfold callK at hK
  rw [fXs_eq] at hK
  refine call0_sound hH h ⟨by simpa using ha.1, fun i x hx => ?_⟩ hK h0 hxb
  rw [List.getElem?_map] at hx
  cases hy : args[i]? with
  | none => rw [hy] at hx; cases hx
  | some y =>
    rw [hy] at hx; injection hx with hx; subst hx
    obtain ⟨u, q1, q2⟩ := ha.2 i y hy
    exact ⟨u, q1, q2.norm⟩
end
end Go.Proofs.Ytdpgdeaefmghiaa.Sx

/- One operation, whichever it is. -/
namespace Go.Proofs.Ytdpgdeaefmghiaa.Sx
noncomputable section
def keyOf (np : Nat) (dst : Option Nat) : Nat := match dst with | some d => np + d | none => np + 1000000
/-- The key, reckoned first. -/
def keyK (np : Nat) (dst : Option Nat) (K : Nat → Prop) : Prop := Nat.rec (motive := fun _ => Prop) (K 0) (fun n _ => K (n + 1)) (keyOf np dst)
theorem keyK_eq (np : Nat) (dst : Option Nat) (K : Nat → Prop) : keyK np dst K = K (keyOf np dst) := by unfold keyK; cases keyOf np dst <;> rfl
def optOpd (C : Cfg) (env : List X) (o : Option Operand) (K : Option Int → Prop) : Prop :=
  match o with
  | none => K none
  | some o => opdK C env o fun x => match x with | .v (.int _ n) => K (some n) | _ => False
def opdsK (C : Cfg) (env : List X) : List Operand → (List X → Prop) → Prop
  | [], K => K []
  | o :: os, K => opdK C env o fun x => opdsK C env os fun xs => K (x :: xs)
theorem opdsK_eq (C : Cfg) (env : List X) : ∀ (os : List Operand) (K : List X → Prop), opdsK C env os K = K (os.map (opd C env))
  | [], _ => rfl
  | o :: os, K => by rw [opdsK, opdK_eq, opdsK_eq C env os]; rfl
def int? : X → Option (IntKind × Int)
  | .v (.int k n) => some (k, n)
  | _ => none
def ptr? : X → Option Nat
  | .v (.ptr k 0) => some k
  | _ => none
def intsK : List X → (List (IntKind × Int) → Prop) → Prop
  | [], K => K []
  | x :: xs, K => match int? x with | some p => intsK xs fun ns => K (p :: ns) | none => False
def capsK : List X → (List Nat → Prop) → Prop
  | [], K => K []
  | x :: xs, K => match ptr? x with
    | some k => capsK xs fun ks => K (k :: ks)
    | none => False
def pickK (C : Cfg) (env : List X) (obs : Obs) (x y : Operand) (v : X) (K : X → Obs → Prop) : Prop :=
  match v with
  | .v .tt => opdK C env x fun v => K v obs
  | .v .ff => opdK C env y fun v => K v obs
  | .v (.bool t) => (t = true → opdK C env x fun v => K v obs) ∧ (t = false → opdK C env y fun v => K v obs)
  | _ => False
def nilK (obs : Obs) (v : X) (K : X → Obs → Prop) : Prop :=
  match v with
  | .v (.ptr k o) => lkK obs k fun _ => K (.v (.ptr k o)) obs
  | .v (.cp cs) => K (.v (.cp cs)) obs
  | _ => False
def mmK (C : Cfg) (env : List X) (obs : Obs) (mx : Bool) (args : List Operand) (K : X → Obs → Prop) : Prop :=
  opdsK C env args fun xs => intsK xs fun ns => match ns with
    | [(k, a), (k', b)] => match decide (k = k') with
      | true => K (.v (.int k (match mx with | true => max a b | false => min a b))) obs
      | false => False
    | _ => False
def fnK (C : Cfg) (H : Hy) (xb key : Nat) (dst : Option Nat) (env : List X) (obs : Obs) (args : List Operand) (vf : X) (K : X → Obs → Prop) : Prop :=
  match vf with
  | .v (.fn f caps) => opdsK C env args fun args => callK H xb key dst env obs f (args ++ caps.map fun k => .v (.ptr k 0)) K
  | _ => False
def builtinK (C : Cfg) (key : Nat) (env : List X) (obs : Obs) (b : Builtin) (args : List Operand) (ts : List TypeId) (K : X → Obs → Prop) : Prop :=
  match b with
  | .len => match args with
    | [x] => match ts with
      | t :: _ => opdK C env x fun v => lenK (C.td t) obs v fun r => K r obs
      | _ => False
    | _ => False
  | .append => match args with
    | [s, x] => match ts with
      | [t, tx] => opdK C env s fun vs => opdK C env x fun vx => appendK C t tx key env obs vs vx K
      | _ => False
    | _ => False
  | .max => mmK C env obs true args K
  | .min => mmK C env obs false args K
  | .cap => match args with
    | [x] => match ts with
      | t :: _ => match C.td t with
        | .sl _ _ => opdK C env x fun v => capK v fun r => K r obs
        | _ => False
      | _ => False
    | _ => False
  | _ => False
def nilC : BinOp → Operand → Option Bool
  | .eql, .const (.slice none 0 0) => some false
  | .neq, .const (.slice none 0 0) => some true
  | _, _ => none
def opK (C : Cfg) (H : Hy) (np xb : Nat) (o : Oper) (env : List X) (obs : Obs) (K : X → Obs → Prop) : Prop :=
  match o.op with
  | .move x => opdK C env x fun v => K v obs
  | .assign x => opdK C env x fun v => K v obs
  | .pick c a b => opdK C env c fun v => pickK C env obs a b v K
  | .alloc t => keyK np o.dst fun key => allocK C t key env obs K
  | .box _ x => keyK np o.dst fun key => opdK C env x fun v => boxK key env obs v K
  | .build t ps => buildK C t ps.toList env obs fun v => K v obs
  | .buildSlice t len ps => keyK np o.dst fun key => buildSliceCK C t len ps.toList key env obs K
  | .load t x => opdK C env x fun v => loadK C t obs v fun r => K r obs
  | .store t x y => opdK C env x fun vx => opdK C env y fun vy => storeK C t obs vx vy fun obs => K (.v .any) obs
  | .nilCheck x => opdK C env x fun v => nilK obs v K
  | .binOp op t x y _ => match nilC op y with
    | none => opdK C env x fun vx => opdK C env y fun vy => binTK C op t vx vy fun r => K r obs
    | some ng => opdK C env x fun v => unfullK obs v fun v => nilEqK (C.td t) ng obs v fun r => K r obs
  | .unOp op _ x => opdK C env x fun v => unK op v fun r => K r obs
  | .convert s d x => opdK C env x fun v => convertK C s d obs v fun r => K r obs
  | .makeFunc fn first caps => match fn with
    | .func f => match first.toList with
      | [] => opdsK C env caps.toList fun xs => capsK xs fun ks => K (.v (.fn f ks)) obs
      | _ => False
    | _ => False
  | .makeSlice t l c => keyK np o.dst fun key => opdK C env l fun vl => opdK C env c fun vc => makeK C t key env obs vl vc K
  | .slice t x lo hi mx => match mx with
    | none => opdK C env x fun v => unfullK obs v fun v => optOpd C env lo fun l => optOpd C env hi fun h => match cutOk (C.td t) obs v with
      | true => cutK obs v l h fun r => K r obs
      | false => False
    | some mx => opdK C env x fun v => optOpd C env lo fun l => optOpd C env hi fun h => optOpd C env (some mx) fun m => match cutOk (C.td t) obs v with
      | true => match h with
        | some h => match m with | some m => cut3K v l h m fun r => K r obs | none => False
        | none => False
      | false => False
  | .fieldAddr t x f => opdK C env x fun v => fieldAddrK C t f obs v fun r => K r obs
  | .field t x f => opdK C env x fun v => fieldK (C.td t) f v fun r => K r obs
  | .indexAddr t x i => opdK C env x fun v => opdK C env i fun vi => unfullK obs v fun v => indexAddrK C t obs v vi fun r => K r obs
  | .index t x i => opdK C env x fun v => opdK C env i fun vi => indexK (C.td t) v vi fun r => K r obs
  | .extract x n => opdK C env x fun v => extractK n v fun r => K r obs
  | .call c => match c.callee with
    | .builtin b => keyK np o.dst fun key => builtinK C key env obs b c.args.toList c.argTypes.toList K
    | .value f => keyK np o.dst fun key => opdK C env f fun vf => fnK C H xb key o.dst env obs c.args.toList vf K
    | .invoke .. => False
  | _ => False
end
section
variable {ρ : Operand → Value} {o : Oper}
theorem ex_move {x : Operand} (ho : o.op = .move x) : execOp ρ o = pure (.value (ρ x)) := by unfold execOp; rw [ho]
theorem ex_assign {x : Operand} (ho : o.op = .assign x) : execOp ρ o = pure (.value (ρ x)) := by unfold execOp; rw [ho]
theorem ex_pick {c x y : Operand} (ho : o.op = .pick c x y) : execOp ρ o = (do pure (.value (if ← asBool (ρ c) then ρ x else ρ y))) := by unfold execOp; rw [ho]
theorem ex_alloc {t : TypeId} (ho : o.op = .alloc t) : execOp ρ o = (do pure (.value (← Instr.alloc t true (.tuple #[])))) := by unfold execOp; rw [ho]
theorem ex_box {t : TypeId} {x : Operand} (ho : o.op = .box t x) : execOp ρ o = (do pure (.value (← Instr.box t (ρ x)))) := by unfold execOp; rw [ho]
theorem ex_build {t : TypeId} {ps : Array (Nat × Operand)} (ho : o.op = .build t ps) : execOp ρ o = (do pure (.value (← Instr.build t (ps.map fun p => (p.1, ρ p.2))))) := by unfold execOp; rw [ho]
theorem ex_buildSlice {t : TypeId} {len : Nat} {ps : Array (Nat × Operand)} (ho : o.op = .buildSlice t len ps) : execOp ρ o = (do pure (.value (← Instr.buildSlice t len (ps.map fun p => (p.1, ρ p.2))))) := by unfold execOp; rw [ho]
theorem ex_load {t : TypeId} {x : Operand} (ho : o.op = .load t x) : execOp ρ o = (do pure (.value (← Instr.loadAt t (ρ x)))) := by unfold execOp; rw [ho]
theorem ex_store {t : TypeId} {x y : Operand} (ho : o.op = .store t x y) : execOp ρ o = (do Instr.storeAt t (ρ x) (ρ y); pure .skip) := by unfold execOp; rw [ho]
theorem ex_binOp {op : BinOp} {t t' : TypeId} {x y : Operand} (ho : o.op = .binOp op t x y t') : execOp ρ o = (do pure (.value (← (do eqGuard op t x y (ρ x) (ρ y); binOp op t (ρ x) (ρ y) : Sem Value)))) := by unfold execOp; rw [ho]
theorem ex_unOp {op : UnOp} {t : TypeId} {x : Operand} (ho : o.op = .unOp op t x) : execOp ρ o = (do pure (.value (← Op.unary op (ρ x)))) := by unfold execOp; rw [ho]
theorem ex_convert {s d : TypeId} {x : Operand} (ho : o.op = .convert s d x) : execOp ρ o = (do pure (.value (← convert s d (ρ x)))) := by unfold execOp; rw [ho]
theorem ex_makeFunc {fn : Fn} {first caps : Array Operand} (ho : o.op = .makeFunc fn first caps) : execOp ρ o = (do pure (.value (← Instr.makeFunc fn (first.map ρ) (caps.map ρ)))) := by unfold execOp; rw [ho]
theorem ex_makeSlice {t : TypeId} {l c : Operand} (ho : o.op = .makeSlice t l c) : execOp ρ o = (do pure (.value (← Instr.makeSlice t (ρ l) (ρ c)))) := by unfold execOp; rw [ho]
theorem ex_slice {t : TypeId} {x : Operand} {lo hi mx : Option Operand} (ho : o.op = .slice t x lo hi mx) : execOp ρ o = (do pure (.value (← Instr.sliceAt t (ρ x) (lo.map ρ) (hi.map ρ) (mx.map ρ)))) := by unfold execOp; rw [ho]
theorem ex_fieldAddr {t : TypeId} {x : Operand} {f : Nat} (ho : o.op = .fieldAddr t x f) : execOp ρ o = (do pure (.value (← Instr.fieldAt t (ρ x) f))) := by unfold execOp; rw [ho]
theorem ex_field {t : TypeId} {x : Operand} {f : Nat} (ho : o.op = .field t x f) : execOp ρ o = (do pure (.value (← Instr.field t (ρ x) f))) := by unfold execOp; rw [ho]
theorem ex_indexAddr {t : TypeId} {x i : Operand} (ho : o.op = .indexAddr t x i) : execOp ρ o = (do pure (.value (← Instr.indexAt t (ρ x) (ρ i)))) := by unfold execOp; rw [ho]
theorem ex_index {t : TypeId} {x i : Operand} (ho : o.op = .index t x i) : execOp ρ o = (do pure (.value (← Instr.index t (ρ x) (ρ i)))) := by unfold execOp; rw [ho]
theorem ex_extract {x : Operand} {n : Nat} (ho : o.op = .extract x n) : execOp ρ o = (do pure (.value (← Instr.extract (ρ x) n))) := by unfold execOp; rw [ho]
theorem ex_call {c : Call} (ho : o.op = .call c) : execOp ρ o = (do let d ← resolve ρ c o.type; invoke d.target d.args) := by unfold execOp; rw [ho]
end
section
variable {C : Cfg} {E : Entry} {env : List X} {obs : Obs} {a : Act} {w : World} {γ : Nat → Option Nat} {I : Nat → Prop} {L : Nat → Option Ob} {H : Hy}
theorem ofSame {o : Oper} {K : X → Obs → Prop} {Q : Exit → Act → World → Prop} (h : SimG C E ⟨env, obs⟩ a w γ I) {s : Sem Value} (he : execOp a.eval o = (do pure (.value (← s)))) (hs : ∃ v y, s.run C.P w = .ok v w ∧ XR γ I w (lk obs) y v ∧ K y obs) : o.wp C.P a w (After C E env o.dst K) Q := by
  obtain ⟨v, y, h1, h2, h3⟩ := hs
  exact same_value h (by rw [he]; simp [h1]) h2 h3
theorem ofNew {o : Oper} {K : X → Obs → Prop} {Q : Exit → Act → World → Prop} {s : Sem Value} (he : execOp a.eval o = (do pure (.value (← s)))) (hs : ∃ v w' x obs', s.run C.P w = .ok v w' ∧ K x obs' ∧ Sim C E ⟨put env o.dst x, obs'⟩ (a.put o.dst v) w') : o.wp C.P a w (After C E env o.dst K) Q := by
  obtain ⟨v, w', x, obs', h1, h2, h3⟩ := hs
  unfold Oper.wp; rw [he]; simp only [Sem.run_bind, h1, Result.andThen_ok, Sem.run_pure, Oper.upon_value]
  exact ⟨x, obs', h2, h3⟩
theorem opds_sound (h : SimG C E ⟨env, obs⟩ a w γ I) (os : List Operand) : ∀ (j : Nat) (x : X), (os.map (opd C env))[j]? = some x → ∃ u, (os.map a.eval)[j]? = some u ∧ XR γ I w (lk obs) x u := by
  intro j x hx
  rw [List.getElem?_map] at hx
  cases ho : os[j]? with
  | none => rw [ho] at hx; cases hx
  | some o => rw [ho] at hx; injection hx with hx; subst hx; exact ⟨a.eval o, by rw [List.getElem?_map, ho]; rfl, opd_sound h o⟩
theorem noRef_ofVal {d : Nat} (v : Value) : noRefX d (ofVal v) = true := by
  unfold ofVal; split <;> first | rfl | (split <;> rfl)
theorem noRef_opd {d : Nat} (h : fresh d env obs = true) (o : Operand) : noRefX d (opd C env o) = true := by
  simp only [fresh, Bool.and_eq_true] at h
  cases o with
  | tmp t =>
    simp only [opd, List.getD_eq_getElem?_getD]
    cases hx : env[t]? with
    | none => rfl
    | some x => exact List.all_eq_true.1 h.1 x (List.mem_of_getElem? hx)
  | const v =>
    cases v <;> simp only [opd] <;> first | exact noRef_ofVal _ | (split <;> rfl)
  | global g => simp only [opd]; split <;> rfl
  | func f => rfl
theorem int?_spec {x : X} {p : IntKind × Int} (h : int? x = some p) : x = .v (.int p.1 p.2) := by
  unfold int? at h; split at h
  · injection h with h; subst h; rfl
  · cases h
theorem ptr?_spec {x : X} {k : Nat} (h : ptr? x = some k) : x = .v (.ptr k 0) := by
  unfold ptr? at h; split at h
  · injection h with h; subst h; rfl
  · cases h
theorem caps_spec : ∀ {xs : List X} {K : List Nat → Prop}, capsK xs K → ∃ ks, K ks ∧ xs = ks.map fun k => X.v (.ptr k 0)
  | [], K, h => ⟨[], h, rfl⟩
  | x :: xs, K, h => by
    simp only [capsK] at h
    split at h
    · rename_i k hk
      obtain ⟨ks, h1, h2⟩ := caps_spec h
      exact ⟨_, h1, by rw [h2, ptr?_spec hk]; rfl⟩
    · exact h.elim
theorem ints_spec : ∀ {xs : List X} {K : List (IntKind × Int) → Prop}, intsK xs K → ∃ ns, K ns ∧ xs = ns.map fun p => X.v (.int p.1 p.2)
  | [], K, h => ⟨[], h, rfl⟩
  | x :: xs, K, h => by
    simp only [intsK] at h
    split at h
    · rename_i p hp
      obtain ⟨ks, h1, h2⟩ := ints_spec h
      exact ⟨_, h1, by rw [h2, int?_spec hp]; rfl⟩
    · exact h.elim
theorem optOpd_spec (h : SimG C E ⟨env, obs⟩ a w γ I) {o : Option Operand} {K : Option Int → Prop} (hK : optOpd C env o K) : ∃ l, K l ∧ ((l = none ∧ o.map a.eval = none) ∨ ∃ k n, l = some n ∧ o.map a.eval = some (.int k n)) := by
  cases o with
  | none => exact ⟨none, hK, .inl ⟨rfl, rfl⟩⟩
  | some o =>
    unfold optOpd at hK
    simp only [opdK_eq] at hK
    have hs := opd_sound h o
    split at hK
    · rename_i k n he
      rw [he] at hs
      refine ⟨some n, hK, .inr ⟨k, n, rfl, ?_⟩⟩
      simp only [Option.map_some]
      generalize a.eval o = u at hs
      cases hs; rfl
    · exact hK.elim
theorem run_enter {P : Program} {f : FuncId} (h : Enter P f) (args : Array Value) (w : World) : (callFunc f args).run P w = .ok (.enter f args) w := by
  obtain ⟨fn, h1, h2, h3⟩ := h
  simp [callFunc, h1, h2, h3]

variable {K : X → Obs → Prop} {Q : Exit → Act → World → Prop} {o : Oper} {np xb key : Nat}
theorem so_move (h : SimG C E ⟨env, obs⟩ a w γ I) {x : Operand} (ho : o.op = .move x) (hK : opdK C env x fun v => K v obs) : o.wp C.P a w (After C E env o.dst K) Q := by
  rw [opdK_eq] at hK
  exact same_value h (by rw [ex_move ho]; rfl) (opd_sound h x) hK
theorem so_assign (h : SimG C E ⟨env, obs⟩ a w γ I) {x : Operand} (ho : o.op = .assign x) (hK : opdK C env x fun v => K v obs) : o.wp C.P a w (After C E env o.dst K) Q := by
  rw [opdK_eq] at hK
  exact same_value h (by rw [ex_assign ho]; rfl) (opd_sound h x) hK
theorem so_pick (h : SimG C E ⟨env, obs⟩ a w γ I) {c x y : Operand} (ho : o.op = .pick c x y) (hK : opdK C env c fun v => pickK C env obs x y v K) : o.wp C.P a w (After C E env o.dst K) Q := by
  rw [opdK_eq] at hK
  have hc := opd_sound h c
  unfold pickK at hK
  split at hK
  · rename_i he; rw [he] at hc; rw [opdK_eq] at hK
    have : a.eval c = .bool true := by generalize a.eval c = u at hc; cases hc; rfl
    exact same_value h (by rw [ex_pick ho]; simp [this, asBool]) (opd_sound h x) hK
  · rename_i he; rw [he] at hc; rw [opdK_eq] at hK
    have : a.eval c = .bool false := by generalize a.eval c = u at hc; cases hc; rfl
    exact same_value h (by rw [ex_pick ho]; simp [this, asBool]) (opd_sound h y) hK
  · rename_i t he; rw [he] at hc; simp only [opdK_eq] at hK
    have : a.eval c = .bool t := by generalize a.eval c = u at hc; cases hc; rfl
    cases t with
    | true => exact same_value h (by rw [ex_pick ho]; simp [this, asBool]) (opd_sound h x) (hK.1 rfl)
    | false => exact same_value h (by rw [ex_pick ho]; simp [this, asBool]) (opd_sound h y) (hK.2 rfl)
  · exact hK.elim
theorem so_store (hH : HyOk C H) (h : SimG C E ⟨env, obs⟩ a w γ I) {t : TypeId} {x y : Operand} (ho : o.op = .store t x y) (hK : opdK C env x fun vx => opdK C env y fun vy => storeK C t obs vx vy fun obs => K (.v .any) obs) : o.wp C.P a w (After C E env o.dst K) Q := by
  simp only [opdK_eq] at hK
  obtain ⟨w', obs', h1, h2, h3⟩ := store_sound hH.td h (opd_sound h x) (opd_sound h y) hK o.dst
  unfold Oper.wp
  rw [ex_store ho]
  simp only [Sem.run_bind, h1, Result.andThen_ok, Sem.run_pure, Oper.upon_skip]
  exact ⟨_, obs', h2, h3⟩
theorem so_nil (h : SimG C E ⟨env, obs⟩ a w γ I) {x : Operand} (ho : o.op = .nilCheck x) (hK : opdK C env x fun v => nilK obs v K) : o.wp C.P a w (After C E env o.dst K) Q := by
  rw [opdK_eq] at hK
  have hx := opd_sound h x
  have key : ∀ ad, a.eval x = .pointer (some ad) → (execOp a.eval o).run C.P w = .ok (.value (a.eval x)) w := fun ad hu => by
    unfold execOp; rw [ho]; simp [hu]
  unfold nilK at hK
  split at hK
  · rename_i k off he
    rw [he] at hx
    obtain ⟨ob, hl, hK⟩ := lkK_spec hK
    obtain ⟨b, hb, hu⟩ := VR.ptr_live hx (by rw [hl]; simp)
    exact same_value h (key _ hu) hx hK
  · rename_i cs he
    rw [he] at hx
    obtain ⟨b, off, hu, _⟩ := VR.cp_at hx
    exact same_value h (key _ hu) hx hK
  · exact hK.elim
theorem so_bin (hH : HyOk C H) (h : SimG C E ⟨env, obs⟩ a w γ I) {op : BinOp} {t t' : TypeId} {x y : Operand} (ho : o.op = .binOp op t x y t') (hK : match nilC op y with
    | none => opdK C env x fun vx => opdK C env y fun vy => binTK C op t vx vy fun r => K r obs
    | some ng => opdK C env x fun v => unfullK obs v fun v => nilEqK (C.td t) ng obs v fun r => K r obs) : o.wp C.P a w (After C E env o.dst K) Q := by
  split at hK
  · simp only [opdK_eq] at hK
    obtain ⟨r, z, h1, h2, h3, h4⟩ := binT_sound hH.eq (opd_sound h x) (opd_sound h y) hK
    refine same_value h (v := r) ?_ h2 h3
    rw [ex_binOp ho]
    simp [h1, h4 x y]
  · rename_i ng hng
    rw [opdK_eq] at hK
    obtain ⟨y', h1, hK⟩ := unfull_sound (opd_sound h x) hK
    have hop : op = opN ng ∧ y = .const (.slice none 0 0) := by
      unfold nilC at hng
      split at hng <;> first | (injection hng with hng; subst hng; exact ⟨rfl, rfl⟩) | cases hng
    obtain ⟨hop, rfl⟩ := hop
    obtain ⟨r, z, q1, q2, q3, q4⟩ := nilEq_sound (hH.td t) hop h1 hK
    refine same_value h (v := r) ?_ q2 q3
    rw [ex_binOp ho]
    have : a.eval (.const (.slice none 0 0)) = .slice none 0 0 := rfl
    rw [this, q4]
    simp [q1]
theorem so_un (h : SimG C E ⟨env, obs⟩ a w γ I) {op : UnOp} {t : TypeId} {x : Operand} (ho : o.op = .unOp op t x) (hK : opdK C env x fun v => unK op v fun r => K r obs) : o.wp C.P a w (After C E env o.dst K) Q := by
  rw [opdK_eq] at hK
  exact ofSame h (ex_unOp ho) (un_sound (opd_sound h x) hK)
theorem so_fn (h : SimG C E ⟨env, obs⟩ a w γ I) {f : FuncId} {first caps : Array Operand} (ho : o.op = .makeFunc (.func f) first caps) (hf : first.toList = []) (hK : opdsK C env caps.toList fun xs => capsK xs fun ks => K (.v (.fn f ks)) obs) : o.wp C.P a w (After C E env o.dst K) Q := by
  rw [opdsK_eq] at hK
  obtain ⟨ks, hK, hks⟩ := caps_spec hK
  have hfe : first = #[] := by simpa using hf
  have hlen : caps.toList.length = ks.length := by have := congrArg List.length hks; simpa using this
  refine ofSame h (ex_makeFunc ho) ⟨.func (.func f) #[] (caps.map a.eval), .v (.fn f ks), by subst hfe; simp [Instr.makeFunc], VR.fn f ks _ (by simpa using hlen) (fun j k hj => ?_), hK⟩
  have hx : (caps.toList.map (opd C env))[j]? = some (.v (.ptr k 0)) := by rw [hks, List.getElem?_map, hj]; rfl
  obtain ⟨u, h1, h2⟩ := opds_sound h caps.toList j _ hx
  have h1' : (caps.map a.eval)[j]? = some u := by simpa using h1
  by_cases hl : lk obs k = none
  · exact .inl hl
  · obtain ⟨b, hb, rfl⟩ := VR.ptr_live h2 hl
    exact .inr ⟨b, hb, h1'⟩
theorem so_slice (hH : HyOk C H) (h : SimG C E ⟨env, obs⟩ a w γ I) {t : TypeId} {x : Operand} {lo hi : Option Operand} (ho : o.op = .slice t x lo hi none)
    (hK : opdK C env x fun v => unfullK obs v fun v => optOpd C env lo fun l => optOpd C env hi fun r => match cutOk (C.td t) obs v with | true => cutK obs v l r fun r => K r obs | false => False) : o.wp C.P a w (After C E env o.dst K) Q := by
  rw [opdK_eq] at hK
  obtain ⟨y, h1, hK⟩ := unfull_sound (opd_sound h x) hK
  obtain ⟨l, hK, hl⟩ := optOpd_spec h hK
  obtain ⟨r, hK, hr⟩ := optOpd_spec h hK
  split at hK
  · rename_i hok
    exact ofSame h (ex_slice ho) (cut_sound hH.td h.mr h1 hl hr hok hK)
  · exact hK.elim
theorem so_slice3 (hH : HyOk C H) (h : SimG C E ⟨env, obs⟩ a w γ I) {t : TypeId} {x mx : Operand} {lo hi : Option Operand} (ho : o.op = .slice t x lo hi (some mx))
    (hK : opdK C env x fun v => optOpd C env lo fun l => optOpd C env hi fun r => optOpd C env (some mx) fun m => match cutOk (C.td t) obs v with
      | true => match r with
        | some r => match m with | some m => cut3K v l r m fun r => K r obs | none => False
        | none => False
      | false => False) : o.wp C.P a w (After C E env o.dst K) Q := by
  rw [opdK_eq] at hK
  obtain ⟨l, hK, hl⟩ := optOpd_spec h hK
  obtain ⟨r, hK, hr⟩ := optOpd_spec h hK
  obtain ⟨m, hK, hm⟩ := optOpd_spec h hK
  split at hK
  · rename_i hok
    split at hK
    · split at hK
      · rename_i r m
        rcases hr with ⟨q, _⟩ | ⟨k1, n1, q, hr⟩
        · cases q
        · rcases hm with ⟨q', _⟩ | ⟨k2, n2, q', hm⟩
          · cases q'
          · injection q with q; injection q' with q'
            subst q; subst q'
            refine ofSame h (ex_slice ho) ?_
            rw [hr, hm]
            exact cut3_sound (hH.td t) (opd_sound h x) hl hok hK
      · exact hK.elim
    · exact hK.elim
  · exact hK.elim
theorem so_indexAddr (hH : HyOk C H) (h : SimG C E ⟨env, obs⟩ a w γ I) {t : TypeId} {x i : Operand} (ho : o.op = .indexAddr t x i) (hK : opdK C env x fun v => opdK C env i fun vi => unfullK obs v fun v => indexAddrK C t obs v vi fun r => K r obs) : o.wp C.P a w (After C E env o.dst K) Q := by
  simp only [opdK_eq] at hK
  obtain ⟨y, h1, hK⟩ := unfull_sound (opd_sound h x) hK
  exact ofSame h (ex_indexAddr ho) (indexAddr_sound hH.td h1 (opd_sound h i) hK)
theorem so_call (hH : HyOk C H) (h : SimG C E ⟨env, obs⟩ a w γ I) {c : Call} {f : Operand} (ho : o.op = .call c) (hc : c.callee = .value f)
    (hK : opdK C env f fun vf => fnK C H xb key o.dst env obs c.args.toList vf K) (h0 : E.bx key = none) (hxb : ∀ k, xb ≤ k → E.bx k = none) : o.wp C.P a w (After C E env o.dst K) Q := by
  rw [opdK_eq] at hK
  have hf := opd_sound h f
  unfold fnK at hK
  split at hK
  · rename_i g caps he
    rw [he] at hf
    rw [opdsK_eq] at hK
    generalize hu : a.eval f = u at hf
    cases hf with
    | fn _ _ us hz hcap =>
    have hargs : ArgsR γ I w (lk obs) (c.args.toList.map (opd C env) ++ caps.map fun k => .v (.ptr k 0)) (c.args.map a.eval ++ us) := by
      refine ⟨by simp [hz], fun i x hx => ?_⟩
      by_cases hi : i < c.args.toList.length
      · rw [List.getElem?_append_left (by simpa using hi)] at hx
        obtain ⟨u, h1, h2⟩ := opds_sound h c.args.toList i x hx
        exact ⟨u, by rw [Array.getElem?_append_left (by simpa using hi)]; simpa using h1, h2⟩
      · rw [List.getElem?_append_right (by simpa using hi), List.getElem?_map] at hx
        simp only [List.length_map, Array.length_toList] at hx
        cases hk : caps[i - c.args.size]? with
        | none => rw [hk] at hx; cases hx
        | some k =>
          rw [hk] at hx; injection hx with hx; subst hx
          have hge : c.args.size ≤ i := by simpa using hi
          have hil : i - c.args.size < us.size := by rw [hz]; exact (List.getElem?_eq_some_iff.1 hk).1
          refine ⟨us[i - c.args.size], by rw [Array.getElem?_append_right (by simpa using hge)]; simp [Array.getElem?_eq_getElem hil], ?_⟩
          rcases hcap _ k hk with h3 | ⟨b, h3, h4⟩
          · exact VR.ptrD k 0 _ h3
          · rw [Array.getElem?_eq_getElem hil] at h4; injection h4 with h4; rw [h4]; exact VR.ptr k 0 b h3
    obtain ⟨hE, hcall⟩ := call_sound hH h hargs hK h0 hxb
    unfold Oper.wp
    rw [ex_call ho]
    have hr : (do let d ← resolve a.eval c o.type; invoke d.target d.args : Sem Next).run C.P w = .ok (.enter g (c.args.map a.eval ++ us)) w := by
      simp only [resolve, hc, hu, Deferred.ofValue, Sem.run_bind, Sem.run_pure, Result.andThen_ok, invoke, Array.empty_append]
      exact run_enter hE _ w
    rw [hr, Oper.upon_enter]
    refine hcall.mono ?_
    intro e w' ⟨v, he, x, obs', h1, h2⟩
    subst he
    exact ⟨x, obs', h1, h2⟩
  · exact hK.elim
theorem so_builtin {c : Call} {b : Builtin} {s : Sem Value} (ho : o.op = .call c) (hc : c.callee = .builtin b) (hb : builtin b c.argTypes o.type (c.args.map fun | .const _ => true | _ => false) (c.args.map a.eval) = (do pure (.value (← s)))) : execOp a.eval o = (do pure (.value (← s))) := by
  rw [ex_call ho]
  simp only [resolve, hc, invoke]
  exact hb

theorem so_len (hH : HyOk C H) (h : SimG C E ⟨env, obs⟩ a w γ I) {c : Call} {x : Operand} {t : TypeId} {ts : List TypeId} (ho : o.op = .call c) (hc : c.callee = .builtin .len) (ha : c.args.toList = [x]) (ht : c.argTypes.toList = t :: ts)
    (hK : opdK C env x fun v => lenK (C.td t) obs v fun r => K r obs) : o.wp C.P a w (After C E env o.dst K) Q := by
  rw [opdK_eq] at hK
  have hargs : c.args = #[x] := by apply Array.toList_inj.1; simpa using ha
  have ht0 : c.argTypes[0]? = some t := by rw [← Array.getElem?_toList, ht]; rfl
  refine ofSame h (so_builtin (s := Builtin.len_ c.argTypes o.type #[a.eval x]) ho hc (by simp only [builtin, hargs, List.map_toArray, List.map_cons, List.map_nil])) (len_sound h.mr (hH.td t) ht0 (opd_sound h x) hK)
theorem so_cap (hH : HyOk C H) (h : SimG C E ⟨env, obs⟩ a w γ I) {c : Call} {x : Operand} {t e : TypeId} {T : Ty} {ts : List TypeId} (ho : o.op = .call c) (hc : c.callee = .builtin .cap) (ha : c.args.toList = [x]) (ht : c.argTypes.toList = t :: ts)
    (htd : C.td t = .sl e T) (hK : opdK C env x fun v => capK v fun r => K r obs) : o.wp C.P a w (After C E env o.dst K) Q := by
  rw [opdK_eq] at hK
  have hargs : c.args = #[x] := by apply Array.toList_inj.1; simpa using ha
  have ht0 : c.argTypes[0]? = some t := by rw [← Array.getElem?_toList, ht]; rfl
  have hu := hH.td t
  rw [htd] at hu
  obtain ⟨hu, _⟩ := hu
  have hx := opd_sound h x
  unfold capK at hK
  split at hK
  · rename_i hv
    rw [hv] at hx
    generalize hux : a.eval x = u at hx
    cases hx
    refine ofSame h (so_builtin (s := Builtin.cap_ c.argTypes o.type #[a.eval x]) ho hc (by simp only [builtin, hargs, List.map_toArray, List.map_cons, List.map_nil])) ⟨.int .i64 0, .v (.int .i64 0), ?_, VR.int _ _ (inR_zero _), hK⟩
    rw [hux]
    simp [Builtin.cap_, ht0, run_underlying hu, goInt]
  · exact hK.elim
theorem so_append (hH : HyOk C H) (h : SimG C E ⟨env, obs⟩ a w γ I) {c : Call} {s x : Operand} {t tx : TypeId} (ho : o.op = .call c) (hc : c.callee = .builtin .append) (ha : c.args.toList = [s, x]) (ht : c.argTypes.toList = [t, tx])
    (hK : opdK C env s fun vs => opdK C env x fun vx => appendK C t tx key env obs vs vx K) (h0 : E.bx key = none) : o.wp C.P a w (After C E env o.dst K) Q := by
  simp only [opdK_eq] at hK
  have hargs : c.args = #[s, x] := by apply Array.toList_inj.1; simpa using ha
  have htypes : c.argTypes = #[t, tx] := by apply Array.toList_inj.1; simpa using ht
  exact ofNew (so_builtin (s := Builtin.append_ #[t, tx] o.type #[a.eval s, a.eval x]) ho hc (by simp only [builtin, hargs, htypes, List.map_toArray, List.map_cons, List.map_nil])) (append_sound hH.td h (opd_sound h s) (opd_sound h x) (fun hf => noRef_opd hf s) hK h0 o.dst)
theorem so_mm (h : SimG C E ⟨env, obs⟩ a w γ I) {c : Call} {mx : Bool} (ho : o.op = .call c) (hc : c.callee = .builtin (match mx with | true => .max | false => .min))
    (hK : mmK C env obs mx c.args.toList K) : o.wp C.P a w (After C E env o.dst K) Q := by
  unfold mmK at hK
  rw [opdsK_eq] at hK
  obtain ⟨ns, hK, hns⟩ := ints_spec hK
  split at hK
  · rename_i k p k' q
    split at hK
    · rename_i hd
      have hd := of_decide_eq_true hd
      subst hd
      simp only [List.map_cons, List.map_nil] at hns
      have hl : c.args.toList.length = 2 := by have := congrArg List.length hns; simpa using this
      match hargs : c.args.toList, hl with
      | [x, y], _ =>
        rw [hargs] at hns
        simp only [List.map_cons, List.map_nil, List.cons.injEq, and_true] at hns
        have hx := opd_sound h x
        have hy := opd_sound h y
        rw [hns.1] at hx; rw [hns.2] at hy
        generalize hu : a.eval x = u at hx
        generalize hv : a.eval y = v at hy
        cases hx with
        | int _ _ hp =>
        cases hy with
        | int _ _ hq =>
        have hargs' : c.args = #[x, y] := by apply Array.toList_inj.1; simpa using hargs
        cases mx with
        | true =>
          refine ofSame h (so_builtin (s := Builtin.max_ c.argTypes o.type #[a.eval x, a.eval y]) ho hc (by simp only [builtin, hargs', List.map_toArray, List.map_cons, List.map_nil])) ⟨.int k (max p q), .v (.int k (max p q)), ?_, VR.int _ _ ?_, hK⟩
          · simp [Builtin.max_, Builtin.max2, hu, hv, Int.max_def]
            by_cases hpq : p ≤ q <;> by_cases hqp : p < q <;> simp [hpq, hqp] <;> omega
          · rw [Int.max_def]; split <;> assumption
        | false =>
          refine ofSame h (so_builtin (s := Builtin.min_ c.argTypes o.type #[a.eval x, a.eval y]) ho hc (by simp only [builtin, hargs', List.map_toArray, List.map_cons, List.map_nil])) ⟨.int k (min p q), .v (.int k (min p q)), ?_, VR.int _ _ ?_, hK⟩
          · simp [Builtin.min_, Builtin.min2, hu, hv, Int.min_def]
            by_cases hpq : p ≤ q <;> by_cases hqp : q < p <;> simp [hpq, hqp] <;> omega
          · rw [Int.min_def]; split <;> assumption
    · exact hK.elim
  · exact hK.elim

theorem op_sound (hH : HyOk C H) (h : SimG C E ⟨env, obs⟩ a w γ I) (hK : opK C H np xb o env obs K) (hnp : ∀ k, np ≤ k → E.bx k = none) (hxb : ∀ k, xb ≤ k → E.bx k = none) : o.wp C.P a w (After C E env o.dst K) Q := by
  have hT := hH.td
  have hm : MR γ I w (lk obs) := h.mr
  have h0 : E.bx (keyOf np o.dst) = none := hnp _ (by unfold keyOf; split <;> omega)
  cases ho : o.op with
  | move x => unfold opK at hK; rw [ho] at hK; (try simp only [keyK_eq] at hK); exact so_move h ho hK
  | assign x => unfold opK at hK; rw [ho] at hK; (try simp only [keyK_eq] at hK); exact so_assign h ho hK
  | pick c x y => unfold opK at hK; rw [ho] at hK; (try simp only [keyK_eq] at hK); exact so_pick h ho hK
  | alloc t => unfold opK at hK; rw [ho] at hK; (try simp only [keyK_eq] at hK); exact ofNew (ex_alloc ho) (alloc_sound hT h hK h0 o.dst)
  | box t x => unfold opK at hK; rw [ho] at hK; (try simp only [keyK_eq] at hK); simp only [opdK_eq] at hK; exact ofNew (ex_box ho) (box_sound h (opd_sound h x) (fun hf => noRef_opd hf x) hK h0 o.dst)
  | build t ps => unfold opK at hK; rw [ho] at hK; (try simp only [keyK_eq] at hK); exact ofSame h (ex_build ho) (build_sound hT h hK)
  | buildSlice t len ps => unfold opK at hK; rw [ho] at hK; (try simp only [keyK_eq] at hK); exact ofNew (ex_buildSlice ho) (buildSliceC_sound hT h hK h0 o.dst)
  | load t x => unfold opK at hK; rw [ho] at hK; (try simp only [keyK_eq] at hK); simp only [opdK_eq] at hK; exact ofSame h (ex_load ho) (load_sound (hT t) hm (opd_sound h x) hK)
  | store t x y => unfold opK at hK; rw [ho] at hK; (try simp only [keyK_eq] at hK); exact so_store hH h ho hK
  | nilCheck x => unfold opK at hK; rw [ho] at hK; (try simp only [keyK_eq] at hK); exact so_nil h ho hK
  | binOp op t x y t' => unfold opK at hK; rw [ho] at hK; (try simp only [keyK_eq] at hK); exact so_bin hH h ho hK
  | unOp op t x => unfold opK at hK; rw [ho] at hK; (try simp only [keyK_eq] at hK); exact so_un h ho hK
  | convert s d x => unfold opK at hK; rw [ho] at hK; (try simp only [keyK_eq] at hK); simp only [opdK_eq] at hK; exact ofSame h (ex_convert ho) (convert_sound hT hm (opd_sound h x) hK)
  | makeFunc fn first caps =>
    unfold opK at hK; rw [ho] at hK; (try simp only [keyK_eq] at hK)
    (try simp only at hK)
    split at hK
    · split at hK
      · rename_i hf; exact so_fn h ho hf hK
      · exact hK.elim
    · exact hK.elim
  | makeSlice t l c => unfold opK at hK; rw [ho] at hK; (try simp only [keyK_eq] at hK); simp only [opdK_eq] at hK; exact ofNew (ex_makeSlice ho) (make_sound hT h (opd_sound h l) (opd_sound h c) hK h0 o.dst)
  | slice t x lo hi mx =>
    unfold opK at hK; rw [ho] at hK; (try simp only [keyK_eq] at hK)
    cases mx with
    | none => exact so_slice hH h ho hK
    | some m => exact so_slice3 hH h ho hK
  | fieldAddr t x f => unfold opK at hK; rw [ho] at hK; (try simp only [keyK_eq] at hK); simp only [opdK_eq] at hK; exact ofSame h (ex_fieldAddr ho) (fieldAddr_sound hT (opd_sound h x) hK)
  | field t x f => unfold opK at hK; rw [ho] at hK; (try simp only [keyK_eq] at hK); simp only [opdK_eq] at hK; exact ofSame h (ex_field ho) (field_sound (hT t) (opd_sound h x) hK)
  | indexAddr t x i => unfold opK at hK; rw [ho] at hK; (try simp only [keyK_eq] at hK); exact so_indexAddr hH h ho hK
  | index t x i => unfold opK at hK; rw [ho] at hK; (try simp only [keyK_eq] at hK); simp only [opdK_eq] at hK; exact ofSame h (ex_index ho) (index_sound (hT t) (opd_sound h x) (opd_sound h i) hK)
  | extract x n => unfold opK at hK; rw [ho] at hK; (try simp only [keyK_eq] at hK); simp only [opdK_eq] at hK; exact ofSame h (ex_extract ho) (extract_sound (opd_sound h x) hK)
  | call c =>
    unfold opK at hK; rw [ho] at hK; (try simp only [keyK_eq] at hK)
    (try simp only at hK)
    cases hc : c.callee with
    | builtin b =>
      rw [hc] at hK
      simp only [keyK_eq] at hK
      unfold builtinK at hK
      split at hK
      · split at hK
        · rename_i ha
          split at hK
          · rename_i ht; exact so_len hH h ho hc ha ht hK
          · exact hK.elim
        · exact hK.elim
      · split at hK
        · rename_i ha
          split at hK
          · rename_i ht; exact so_append hH h ho hc ha ht hK h0
          · exact hK.elim
        · exact hK.elim
      · exact so_mm h (mx := true) ho hc hK
      · exact so_mm h (mx := false) ho hc hK
      · split at hK
        · rename_i ha
          split at hK
          · rename_i ht
            split at hK
            · rename_i htd; exact so_cap hH h ho hc ha ht htd hK
            · exact hK.elim
          · exact hK.elim
        · exact hK.elim
      · exact hK.elim
    | value f => rw [hc] at hK; simp only [keyK_eq] at hK; exact so_call hH h ho hc hK h0 hxb
    | invoke r m => rw [hc] at hK; exact hK.elim
  | _ => unfold opK at hK; rw [ho] at hK; exact hK.elim
end
end Go.Proofs.Ytdpgdeaefmghiaa.Sx

/- The code: a head-reducing run, and what it is worth. -/
namespace Go.Proofs.Ytdpgdeaefmghiaa.Sx
inductive KI where
  | code (c : Code)
  | blk (id : Nat)
/-- What is left to do, against the model. -/
def hd (P : Program) : List KI → (Exit → Act → World → Prop) → Exit → Act → World → Prop
  | [], B => B
  | .code c :: k, B => Exit.then (fun a w => c.wp P (hd P k B) a w) (hd P k B)
  | .blk id :: k, B => Exit.inBlock id (hd P k B)
def Lift (C : Cfg) (E : Entry) (B : Exit → St → Prop) : Exit → Act → World → Prop := fun e a w => ∃ st, B e st ∧ Sim C E st a w
structure Safe (C : Cfg) (E : Entry) (k : List KI) (B : Exit → St → Prop) (st : St) : Prop where
  go : ∀ a w, Sim C E st a w → hd C.P k (Lift C E B) .normal a w
def popTo (id : Nat) : List KI → Option (List KI)
  | [] => none
  | .code _ :: k => popTo id k
  | .blk j :: k => match Nat.beq id j with | true => some k | false => popTo id k
theorem hd_exit {P : Program} {id : Nat} {B : Exit → Act → World → Prop} {a : Act} {w : World} : ∀ (k : List KI), (match popTo id k with | some k' => hd P k' B .normal a w | none => B (.exit id) a w) → hd P k B (.exit id) a w
  | [], h => h
  | .code c :: k, h => hd_exit k h
  | .blk j :: k, h => by
    simp only [popTo] at h
    simp only [hd, Exit.inBlock]
    split at h
    · rename_i k' hk
      split at hk
      · rename_i hb; injection hk with hk; subst hk; rw [if_pos (Nat.eq_of_beq_eq_true hb)]; exact h
      · rename_i hb
        rw [if_neg (fun e => by subst e; simp at hb)]
        exact hd_exit k (by rw [hk]; exact h)
    · rename_i hk
      split at hk
      · cases hk
      · rename_i hb
        rw [if_neg (fun e => by subst e; simp at hb)]
        exact hd_exit k (by rw [hk]; exact h)
theorem hd_ret {P : Program} {B : Exit → Act → World → Prop} {a : Act} {w : World} : ∀ (k : List KI), B .ret a w → hd P k B .ret a w
  | [], h => h
  | .code _ :: k, h => hd_ret k h
  | .blk _ :: k, h => hd_ret k h
def litX : Bool → X
  | true => .v .tt
  | false => .v .ff
noncomputable section
def isB : X → (Bool → Prop) → (Bool → Prop) → Prop := fun x lit sym => match x with
  | .v .tt => lit true
  | .v .ff => lit false
  | .v (.bool b) => sym b
  | _ => False
/-- The same of a slot that may hold nothing. -/
def isW (x : X) (lit sym : Bool → Prop) (non : Prop) : Prop := match x with
  | .tup _ => non
  | x => isB x lit sym
/-- Whether a guarded operation is wanted: what follows, in either case. -/
def wantK (ops : List Oper) (o : Oper) (env : List X) (K : List X → Bool → Prop) : Prop :=
  match o.guard with
  | none => K env true
  | some g => match ops[g.1]? with
    | none => False
    | some oj => match oj.dst with
      | none => False
      | some d => look (.v .any) env d fun x => isW x (fun b => match Bool.beq' b g.2 with | true => K env true | false => K env false)
        (fun b => (b = true → setK env d (.v .tt) fun env => match Bool.beq' true g.2 with | true => K env true | false => K env false) ∧ (b = false → setK env d (.v .ff) fun env => match Bool.beq' false g.2 with | true => K env true | false => K env false)) (K env false)
 where
  Bool.beq' : Bool → Bool → Bool
    | true, true => true
    | false, false => true
    | _, _ => false
def putK (env : List X) (d : Option Nat) (x : X) (K : List X → Prop) : Prop := match d with | some d => fX x fun x => setK env d x K | none => K env
theorem putK_eq (env : List X) (d : Option Nat) (x : X) (K : List X → Prop) : putK env d x K = K (put env d x) := by
  cases d with
  | none => rfl
  | some d => simp only [putK, fX_eq, setK_eq]; rfl
def opsK (C : Cfg) (H : Hy) (np xb : Nat) (ops : List Oper) : List Oper → List X → Obs → (List X → Obs → Prop) → Prop
  | [], env, obs, K => K env obs
  | o :: l, env, obs, K => wantK ops o env fun env yes => match yes with
    | true => opK C H np xb o env obs fun x obs => putK env o.dst x fun env => opsK C H np xb ops l env obs K
    | false => putK env o.dst (.tup []) fun env => opsK C H np xb ops l env obs K
/-- The run. -/
def ev (C : Cfg) (H : Hy) (np xb : Nat) (E : Entry) (B : Exit → St → Prop) (n : Nat) : List KI → List X → Obs → Prop :=
  Nat.rec (fun k env obs => Safe C E k B ⟨env, obs⟩) (fun _ ih k env obs =>
    match k with
    | [] => B .normal ⟨env, obs⟩
    | .blk _ :: k => ih k env obs
    | .code c :: k => match c with
      | .skip => ih k env obs
      | .seq a b => ih (.code a :: .code b :: k) env obs
      | .region id ops draw => match draw with
        | false => opsK C H np xb ops.toList ops.toList env obs fun env obs => ih k env obs
        | true => Safe C E (.code (.region id ops draw) :: k) B ⟨env, obs⟩
      | .cond c x y => match c with
        | .tmp t => look (.v .any) env t fun v => isB v (fun b => match b with | true => ih (.code x :: k) env obs | false => ih (.code y :: k) env obs)
            (fun b => (b = true → setK env t (.v .tt) fun env => ih (.code x :: k) env obs) ∧ (b = false → setK env t (.v .ff) fun env => ih (.code y :: k) env obs))
        | _ => False
      | .block id c => ih (.code c :: .blk id :: k) env obs
      | .loop body => Safe C E (.code (.loop body) :: k) B ⟨env, obs⟩
      | .exit id => match popTo id k with
        | some k' => ih k' env obs
        | none => B (.exit id) ⟨env, obs⟩
      | .ret => B .ret ⟨env, obs⟩
      | .label _ => ih k env obs
      | _ => False) n
end
section
variable {C : Cfg} {E : Entry} {H : Hy} {np xb : Nat} {B : Exit → St → Prop}
theorem isB_spec {γ : Nat → Option Nat} {I : Nat → Prop} {w : World} {L : Nat → Option Ob} {x : X} {u : Value} (hx : XR γ I w L x u) {lit sym : Bool → Prop} (h : isB x lit sym) : ∃ b, u = .bool b ∧ (lit b ∨ sym b) := by
  unfold isB at h
  split at h
  · cases hx; exact ⟨true, rfl, .inl h⟩
  · cases hx; exact ⟨false, rfl, .inl h⟩
  · cases hx; exact ⟨_, rfl, .inr h⟩
  · exact h.elim
theorem slot_of {env : List X} {obs : Obs} {a : Act} {w : World} {γ : Nat → Option Nat} {I : Nat → Prop} (h : SimG C E ⟨env, obs⟩ a w γ I) (t : Nat) : XR γ I w (lk obs) (env.getD t (.v .any)) (a.tmps.getD t undef) := opd_sound h (.tmp t)
/-- A slot whose bool is known by now. -/
theorem Sim.known {env : List X} {obs : Obs} {a : Act} {w : World} (h : Sim C E ⟨env, obs⟩ a w) {t : Nat} {b : Bool} (hb : a.tmps.getD t undef = .bool b) : Sim C E ⟨env.set t (litX b), obs⟩ a w := by
  obtain ⟨γ, I, h⟩ := h
  have hxr : XR γ I w (lk obs) (litX b) (.bool b) := by
    cases b with
    | true => exact VR.tt
    | false => exact VR.ff
  refine ⟨γ, I, h.defers, by simpa using h.size, fun i y hy => ?_, h.mr, h.fr, h.inc, h.new, h.own, h.glob, h.bx⟩
  simp only [List.getElem?_set] at hy
  by_cases e : t = i
  · subst e
    simp only [if_true] at hy
    split at hy
    · rename_i hl
      injection hy with hy; subst hy
      have hlt : t < a.tmps.size := by rw [h.size]; exact hl
      refine ⟨.bool b, ?_, hxr⟩
      rw [Array.getD_eq_getD_getElem?, Array.getElem?_eq_getElem hlt] at hb
      rw [Array.getElem?_eq_getElem hlt]; simpa using hb
    · cases hy
  · rw [if_neg e] at hy; exact h.slots i y hy
theorem want_sound {env : List X} {obs : Obs} {a : Act} {w : World} (h : Sim C E ⟨env, obs⟩ a w) {ops : Array Oper} {o : Oper} {K : List X → Bool → Prop} (hK : wantK ops.toList o env K) :
    ∃ env', Sim C E ⟨env', obs⟩ a w ∧ K env' (Region.wanted o (yielded ops a.tmps)) := by
  unfold wantK at hK
  unfold Region.wanted
  cases hg : o.guard with
  | none => rw [hg] at hK; exact ⟨env, h, hK⟩
  | some g =>
    rw [hg] at hK
    obtain ⟨j, want⟩ := g
    simp only at hK ⊢
    cases hj : ops.toList[j]? with
    | none => rw [hj] at hK; exact hK.elim
    | some oj =>
      rw [hj] at hK
      simp only at hK
      have hj' : ops[j]? = some oj := by simpa using hj
      cases hd : oj.dst with
      | none => rw [hd] at hK; exact hK.elim
      | some d =>
        rw [hd] at hK
        simp only at hK
        rw [look_eq] at hK
        obtain ⟨γ, I, hs⟩ := h
        have hsd := slot_of hs d
        unfold isW at hK
        split at hK
        · rename_i xs hx
          rw [hx] at hsd
          obtain ⟨us, hu, _⟩ := hsd
          have hy : yielded ops a.tmps j = none := by
            unfold yielded
            rw [hj']; simp only [Option.bind_some, hd]
            rw [Array.getD_eq_getD_getElem?] at hu
            cases ht : a.tmps[d]? with
            | none => rfl
            | some v => rw [ht] at hu; simp at hu; subst hu; rfl
          rw [hy]
          exact ⟨env, ⟨γ, I, hs⟩, hK⟩
        obtain ⟨b, hb, hK⟩ := isB_spec hsd hK
        have hy : yielded ops a.tmps j = some b := by
          unfold yielded
          rw [hj']; simp only [Option.bind_some, hd]
          rw [Array.getD_eq_getD_getElem?] at hb
          cases ht : a.tmps[d]? with
          | none => rw [ht] at hb; simp [undef] at hb
          | some v => rw [ht] at hb; simp at hb; subst hb; rfl
        rw [hy]
        have fin : ∀ env', (match wantK.Bool.beq' b want with | true => K env' true | false => K env' false) → K env' (some b == some want) := fun env' h => by
          cases b <;> cases want <;> exact h
        rcases hK with hK | hK
        · exact ⟨env, ⟨γ, I, hs⟩, fin env hK⟩
        · cases b with
          | true =>
            have := hK.1 rfl
            rw [setK_eq] at this
            exact ⟨_, Sim.known ⟨γ, I, hs⟩ hb, fin _ this⟩
          | false =>
            have := hK.2 rfl
            rw [setK_eq] at this
            exact ⟨_, Sim.known ⟨γ, I, hs⟩ hb, fin _ this⟩
/-- A slot that nothing is known of. -/
theorem Sim.undef {env : List X} {obs : Obs} {a : Act} {w : World} (h : Sim C E ⟨env, obs⟩ a w) (d : Option Nat) : Sim C E ⟨put env d (.tup []), obs⟩ (a.put d Go.undef) w := by
  obtain ⟨γ, I, h⟩ := h
  have hs := slots_put h.size h.slots a rfl d (x := .tup []) (v := Go.undef) ⟨#[], rfl, rfl, by simp⟩
  exact ⟨γ, I, by cases d <;> exact h.defers, hs.1, hs.2, h.mr, h.fr, h.inc, h.new, h.own, h.glob, h.bx⟩
theorem wp_of_after {P : Program} {o : Oper} {a : Act} {w : World} {N N' : Act → World → Prop} {Q : Exit → Act → World → Prop} (h : o.wp P a w N Q) (hn : ∀ a w, N a w → N' a w) : o.wp P a w N' Q := by
  unfold Oper.wp Oper.upon at h ⊢
  split at h
  · exact hn _ _ h
  · exact hn _ _ h
  · exact hn _ _ h
  · refine Calls.mono h (fun e w' he => ?_)
    split at he
    · exact hn _ _ he
    · exact he
    · exact he
  · exact Rows.mono h (fun v w' hv => hn _ _ hv)
  · exact h
  · exact h
theorem ops_sound (hH : HyOk C H) (hnp : ∀ k, np ≤ k → E.bx k = none) (hxb : ∀ k, xb ≤ k → E.bx k = none) {ops : Array Oper} {K : List X → Obs → Prop} {Q : Exit → Act → World → Prop} (hQ : ∀ env obs a w, K env obs → Sim C E ⟨env, obs⟩ a w → Q .normal a w) :
    ∀ (l : List Oper) (ix : List Nat), (ix.map fun i => ops[i]?) = l.map some → ∀ (env : List X) (obs : Obs) (a : Act) (w : World), Sim C E ⟨env, obs⟩ a w → opsK C H np xb ops.toList l env obs K → wpOps C.P ops Q ix a w
  | [], [], _, env, obs, a, w, h, hK => hQ env obs a w hK h
  | [], _ :: _, hl, _, _, _, _, _, _ => by simp at hl
  | _ :: _, [], hl, _, _, _, _, _, _ => by simp at hl
  | o :: l, i :: ix, hl, env, obs, a, w, h, hK => by
    simp only [List.map_cons, List.cons.injEq] at hl
    rw [opsK] at hK
    obtain ⟨env', h', hK⟩ := want_sound h hK
    rw [wpOps, hl.1]
    simp only
    cases hw : Region.wanted o (yielded ops a.tmps) with
    | true =>
      rw [hw] at hK
      simp only at hK
      rw [if_pos rfl]
      obtain ⟨γ, I, hs⟩ := h'
      refine .inl ?_
      have := op_sound hH hs hK hnp hxb (Q := Q)
      refine wp_of_after this (fun a' w' ⟨x, obs', hK', hs'⟩ => ?_)
      simp only [putK_eq] at hK'
      exact ops_sound hH hnp hxb hQ l ix hl.2 _ _ _ _ hs' hK'
    | false =>
      rw [hw] at hK
      simp only at hK
      rw [if_neg (by simp)]
      simp only [putK_eq] at hK
      exact ops_sound hH hnp hxb hQ l ix hl.2 _ _ _ _ (h'.undef o.dst) hK

theorem range_ops (ops : Array Oper) : ((List.range ops.size).map fun i => ops[i]?) = ops.toList.map some := by
  apply List.ext_getElem?
  intro j
  simp only [List.getElem?_map]
  by_cases hj : j < ops.size
  · rw [List.getElem?_range hj]; simp [hj]
  · rw [List.getElem?_eq_none (by simpa using hj), List.getElem?_eq_none (by simpa using hj)]; rfl
/-- The run is worth what it says. -/
theorem ev_sound (hH : HyOk C H) (hnp : ∀ k, np ≤ k → E.bx k = none) (hxb : ∀ k, xb ≤ k → E.bx k = none) : ∀ (n : Nat) (k : List KI) (env : List X) (obs : Obs), ev C H np xb E B n k env obs → Safe C E k B ⟨env, obs⟩
  | 0, k, env, obs, h => h
  | n + 1, k, env, obs, h => by
    have ih := fun k env obs h => (ev_sound hH hnp hxb n k env obs h).go
    refine ⟨fun a w hs => ?_⟩
    cases k with
    | nil => exact ⟨_, h, hs⟩
    | cons x k =>
      cases x with
      | blk id => exact ih k env obs h a w hs
      | code c =>
        show c.wp C.P (hd C.P k (Lift C E B)) a w
        cases c with
        | skip => exact wp_skip (ih k env obs h a w hs)
        | seq x y => exact wp_seq (ih (.code x :: .code y :: k) env obs h a w hs)
        | region id ops draw =>
          cases draw with
          | false =>
            refine wp_region (ops_sound hH hnp hxb (K := fun env obs => ev C H np xb E B n k env obs) (fun env obs a w hK hs => ih k env obs hK a w hs) ops.toList _ (range_ops ops) env obs a w hs h)
          | true => exact (show Safe C E (.code (.region id ops true) :: k) B ⟨env, obs⟩ from h).go a w hs
        | cond c x y =>
          cases c with
          | tmp t =>
            have h' : look (.v .any) env t fun v => isB v (fun b => match b with | true => ev C H np xb E B n (.code x :: k) env obs | false => ev C H np xb E B n (.code y :: k) env obs)
              (fun b => (b = true → setK env t (.v .tt) fun env => ev C H np xb E B n (.code x :: k) env obs) ∧ (b = false → setK env t (.v .ff) fun env => ev C H np xb E B n (.code y :: k) env obs)) := h
            rw [look_eq] at h'
            obtain ⟨γ, I, hg⟩ := hs
            obtain ⟨b, hb, hK⟩ := isB_spec (slot_of hg t) h'
            have hev : a.eval (.tmp t) = .bool b := hb
            refine wp_cond hev ?_
            rcases hK with hK | hK
            · cases b with
              | true => exact ih (.code x :: k) env obs hK a w ⟨γ, I, hg⟩
              | false => exact ih (.code y :: k) env obs hK a w ⟨γ, I, hg⟩
            · cases b with
              | true =>
                have h1 := hK.1 rfl
                rw [setK_eq] at h1
                exact ih (.code x :: k) _ obs h1 a w (Sim.known ⟨γ, I, hg⟩ hb)
              | false =>
                have h1 := hK.2 rfl
                rw [setK_eq] at h1
                exact ih (.code y :: k) _ obs h1 a w (Sim.known ⟨γ, I, hg⟩ hb)
          | const v => exact (show False from h).elim
          | global g => exact (show False from h).elim
          | func f => exact (show False from h).elim
        | block id c => exact wp_block (ih (.code c :: .blk id :: k) env obs h a w hs)
        | loop body => exact (show Safe C E (.code (.loop body) :: k) B ⟨env, obs⟩ from h).go a w hs
        | exit id =>
          have h' : (match popTo id k with | some k' => ev C H np xb E B n k' env obs | none => B (.exit id) ⟨env, obs⟩) := h
          refine wp_exit (hd_exit k ?_)
          split at h'
          · rename_i k' hk; exact ih k' env obs h' a w hs
          · rename_i hk; exact ⟨_, h', hs⟩
        | ret => exact wp_ret (hd_ret k ⟨_, h, hs⟩)
        | label l => exact wp_label (ih k env obs h a w hs)
        | rangeFunc f ps as b => exact (show False from h).elim
        | scope b => exact (show False from h).elim
        | goto l => exact (show False from h).elim
        | refuse s => exact (show False from h).elim
/-- A weaker state. -/
def StLe (C : Cfg) (E : Entry) (st st' : St) : Prop := ∀ a w, Sim C E st a w → Sim C E st' a w
theorem Safe.weaken {k : List KI} {st st' : St} (h : StLe C E st st') (hs : Safe C E k B st') : Safe C E k B st := ⟨fun a w hw => hs.go a w (h a w hw)⟩
/-- What becomes of an exit out of a loop. -/
def outB (C : Cfg) (E : Entry) (k : List KI) (B : Exit → St → Prop) : Exit → St → Prop
  | .normal, _ => False
  | .exit id, st => match popTo id k with | some k' => Safe C E k' B st | none => B (.exit id) st
  | e, st => B e st
theorem out_sound {k : List KI} {e : Exit} {a : Act} {w : World} (h : Lift C E (outB C E k B) e a w) : hd C.P k (Lift C E B) e a w := by
  obtain ⟨st, h, hs⟩ := h
  cases e with
  | normal => exact h.elim
  | exit id =>
    refine hd_exit k ?_
    simp only [outB] at h
    split at h
    · rename_i k' hk; exact h.go a w hs
    · rename_i hk; exact ⟨st, h, hs⟩
  | ret => exact hd_ret k ⟨st, h, hs⟩
  | goto l =>
    have : ∀ k, hd C.P k (Lift C E B) (.goto l) a w := fun k => by
      induction k with
      | nil => exact ⟨st, h, hs⟩
      | cons x k ih => cases x <;> exact ih
    exact this k
  | panic ch =>
    have : ∀ k, hd C.P k (Lift C E B) (.panic ch) a w := fun k => by
      induction k with
      | nil => exact ⟨st, h, hs⟩
      | cons x k ih => cases x <;> exact ih
    exact this k
  | outgrown =>
    have : ∀ k, hd C.P k (Lift C E B) .outgrown a w := fun k => by
      induction k with
      | nil => exact ⟨st, h, hs⟩
      | cons x k ih => cases x <;> exact ih
    exact this k
/-- A loop, by states that a datum names. -/
def loopB (C : Cfg) (E : Entry) {Y : Type} (Iv : Y → St) (μ : Y → Nat) (x : Y) (k : List KI) (B : Exit → St → Prop) : Exit → St → Prop
  | .normal, st => ∃ y, μ y < μ x ∧ StLe C E st (Iv y)
  | e, st => outB C E k B e st
theorem Safe.loop {Y : Type} (Iv : Y → St) (μ : Y → Nat) (x0 : Y) {body : Code} {k : List KI} {st : St} (h0 : StLe C E st (Iv x0)) (round : ∀ x, Safe C E [.code body] (loopB C E Iv μ x k B) (Iv x)) : Safe C E (.code (.loop body) :: k) B st := by
  refine ⟨fun a w hs => ?_⟩
  show (Code.loop body).wp C.P (hd C.P k (Lift C E B)) a w
  intro b kk cs
  have key : ∀ n x a w, μ x = n → Sim C E (Iv x) a w → ∃ e a' w', hd C.P k (Lift C E B) e a' w' ∧ Arrives C.P (lone (b.at a (.code body :: .inLoop body :: kk)) cs w) b kk cs e a' w' := by
    intro n
    induction n using Nat.strongRecOn with
    | _ n ih =>
      intro x a w hn hI
      obtain ⟨e, a₁, w₁, hq, harr⟩ := (round x).go a w hI b (.inLoop body :: kk) cs
      cases e with
      | normal =>
        obtain ⟨st', ⟨y, hlt, hle⟩, hs'⟩ := hq
        obtain ⟨e₂, a₂, w₂, hq₂, harr₂⟩ := ih (μ y) (hn ▸ hlt) y a₁ w₁ rfl (hle _ _ hs')
        exact ⟨e₂, a₂, w₂, hq₂, .of_steps (Steps.trans harr (.one step_inLoop)) harr₂⟩
      | exit id => exact ⟨_, a₁, w₁, out_sound (by obtain ⟨st, h, hs⟩ := hq; exact ⟨st, h, hs⟩), .pass (x := .inLoop body) rfl (fun _ _ => .inl (by simp)) harr⟩
      | goto l => exact ⟨_, a₁, w₁, out_sound (by obtain ⟨st, h, hs⟩ := hq; exact ⟨st, h, hs⟩), .pass (x := .inLoop body) rfl (fun _ _ => .inl (by simp)) harr⟩
      | ret => exact ⟨_, a₁, w₁, out_sound (by obtain ⟨st, h, hs⟩ := hq; exact ⟨st, h, hs⟩), .pass (x := .inLoop body) rfl (fun _ _ => .inl (by simp)) harr⟩
      | panic ch => exact ⟨_, a₁, w₁, out_sound (by obtain ⟨st, h, hs⟩ := hq; exact ⟨st, h, hs⟩), .pass (x := .inLoop body) rfl (fun _ _ => .inl (by simp)) harr⟩
      | outgrown => exact ⟨_, a₁, w₁, out_sound (by obtain ⟨st, h, hs⟩ := hq; exact ⟨st, h, hs⟩), .pass (x := .inLoop body) rfl (fun _ _ => .inl (by simp)) harr⟩
  obtain ⟨e, a', w', hq, harr⟩ := key _ x0 a w rfl (h0 _ _ hs)
  exact ⟨e, a', w', hq, .of_steps (.one step_loop) harr⟩
/-- The same, with what holds of the datum. -/
def loopBP (C : Cfg) (E : Entry) {Y : Type} (Iv : Y → St) (P : Y → Prop) (μ : Y → Nat) (x : Y) (k : List KI) (B : Exit → St → Prop) : Exit → St → Prop
  | .normal, st => ∃ y, P y ∧ μ y < μ x ∧ StLe C E st (Iv y)
  | e, st => outB C E k B e st
theorem Safe.loopP {Y : Type} (Iv : Y → St) (P : Y → Prop) (μ : Y → Nat) (x0 : Y) {body : Code} {k : List KI} {st : St} (hP : P x0) (h0 : StLe C E st (Iv x0)) (round : ∀ x, P x → Safe C E [.code body] (loopBP C E Iv P μ x k B) (Iv x)) : Safe C E (.code (.loop body) :: k) B st := by
  refine ⟨fun a w hs => ?_⟩
  show (Code.loop body).wp C.P (hd C.P k (Lift C E B)) a w
  intro b kk cs
  have key : ∀ n x a w, P x → μ x = n → Sim C E (Iv x) a w → ∃ e a' w', hd C.P k (Lift C E B) e a' w' ∧ Arrives C.P (lone (b.at a (.code body :: .inLoop body :: kk)) cs w) b kk cs e a' w' := by
    intro n
    induction n using Nat.strongRecOn with
    | _ n ih =>
      intro x a w hPx hn hI
      obtain ⟨e, a₁, w₁, hq, harr⟩ := (round x hPx).go a w hI b (.inLoop body :: kk) cs
      cases e with
      | normal =>
        obtain ⟨st', ⟨y, hPy, hlt, hle⟩, hs'⟩ := hq
        obtain ⟨e₂, a₂, w₂, hq₂, harr₂⟩ := ih (μ y) (hn ▸ hlt) y a₁ w₁ hPy rfl (hle _ _ hs')
        exact ⟨e₂, a₂, w₂, hq₂, .of_steps (Steps.trans harr (.one step_inLoop)) harr₂⟩
      | exit id => exact ⟨_, a₁, w₁, out_sound (by obtain ⟨st, h, hs⟩ := hq; exact ⟨st, h, hs⟩), .pass (x := .inLoop body) rfl (fun _ _ => .inl (by simp)) harr⟩
      | goto l => exact ⟨_, a₁, w₁, out_sound (by obtain ⟨st, h, hs⟩ := hq; exact ⟨st, h, hs⟩), .pass (x := .inLoop body) rfl (fun _ _ => .inl (by simp)) harr⟩
      | ret => exact ⟨_, a₁, w₁, out_sound (by obtain ⟨st, h, hs⟩ := hq; exact ⟨st, h, hs⟩), .pass (x := .inLoop body) rfl (fun _ _ => .inl (by simp)) harr⟩
      | panic ch => exact ⟨_, a₁, w₁, out_sound (by obtain ⟨st, h, hs⟩ := hq; exact ⟨st, h, hs⟩), .pass (x := .inLoop body) rfl (fun _ _ => .inl (by simp)) harr⟩
      | outgrown => exact ⟨_, a₁, w₁, out_sound (by obtain ⟨st, h, hs⟩ := hq; exact ⟨st, h, hs⟩), .pass (x := .inLoop body) rfl (fun _ _ => .inl (by simp)) harr⟩
  obtain ⟨e, a', w', hq, harr⟩ := key _ x0 a w hP rfl (h0 _ _ hs)
  exact ⟨e, a', w', hq, .of_steps (.one step_loop) harr⟩
end
end Go.Proofs.Ytdpgdeaefmghiaa.Sx

/- A function, out of the run of its body. -/
namespace Go.Proofs.Ytdpgdeaefmghiaa.Sx
noncomputable section
def resOneK (C : Cfg) (env : List X) (obs : Obs) (r : ResultVar) (K : X → Prop) : Prop :=
  match r with
  | .tmp t => look (.v .any) env t fun x => K (normX x)
  | .cell t ty => look (.v .any) env t fun v => loadK C ty obs v fun x => K (normX x)
def resAllK (C : Cfg) (env : List X) (obs : Obs) : List ResultVar → (List X → Prop) → Prop
  | [], K => K []
  | r :: rs, K => resOneK C env obs r fun x => resAllK C env obs rs fun xs => K (x :: xs)
def keysX : X → List Nat
  | .tup xs => xs.flatMap keysX1
  | x => keysX1 x
def flatX : X → Bool
  | .tup _ => false
  | _ => true
def prefB (np : Nat) (ks : List Nat) : Bool := (List.range np).all fun i => match ks[i]? with | some k => Nat.beq k i | none => false
def finK (np : Nat) (x : X) (obs : Obs) (K : X → Obs → Prop) : Prop :=
  ksK obs (List.range np) (keysX x) fun ks => match nodupB ks && prefB np ks with
    | true => fObs (subOf obs ks) fun sub => fX (renX (posOf ks) x) fun x => K x sub
    | false => False
def convRK (own : Bool) (x : X) (obs : Obs) (K : X → Obs → Prop) : Prop :=
  match own with
  | true => K x obs
  | false => match x with
    | .tup xs => match xs.all flatX with
      | true => convAK xs obs fun xs obs => K (.tup xs) obs
      | false => False
    | x => convXK x obs K
def retK (C : Cfg) (own : Bool) (rs : List ResultVar) (np : Nat) (K : X → Obs → Prop) (env : List X) (obs : Obs) : Prop :=
  resAllK C env obs rs fun xs => match xs with
    | [x] => convRK own x obs fun x obs => finK np x obs K
    | xs => convRK own (.tup xs) obs fun x obs => finK np x obs K
def retB (C : Cfg) (own : Bool) (rs : List ResultVar) (np : Nat) (K : X → Obs → Prop) : Exit → St → Prop
  | .normal, st => retK C own rs np K st.env st.obs
  | .ret, st => retK C own rs np K st.env st.obs
  | _, _ => False
end
section
variable {C : Cfg} {E : Entry} {H : Hy} {env : List X} {obs : Obs} {a : Act} {w : World} {γ : Nat → Option Nat} {I : Nat → Prop}
theorem resOne_sound (hT : ∀ t, TdOk C.P t (C.td t)) (h : SimG C E ⟨env, obs⟩ a w γ I) {r : ResultVar} {K : X → Prop} (hK : resOneK C env obs r K) :
    ∃ v x, ((match r with | .tmp t => pure (a.tmps.getD t undef) | .cell t ty => do loadVar ty (← asAddr (a.tmps.getD t undef)) : Sem Value)).run C.P w = .ok v w ∧ XR γ I w (lk obs) x v ∧ K x := by
  cases r with
  | tmp t =>
    simp only [resOneK, look_eq] at hK
    exact ⟨_, _, rfl, (slot_of h t).norm, hK⟩
  | cell t ty =>
    simp only [resOneK, look_eq] at hK
    have hx := slot_of h t
    obtain ⟨v, y, h1, h2, h3⟩ := load_sound (hT ty) h.mr hx hK
    obtain ⟨b, o, cs, hu, _, _⟩ := under_sound h.mr hx hK
    refine ⟨v, _, ?_, h2.norm, h3⟩
    show (do loadVar ty (← asAddr (a.tmps.getD t undef)) : Sem Value).run C.P w = _
    rw [hu] at h1 ⊢
    simpa [Instr.loadAt, Instr.sureAddr, asAddr] using h1
theorem resAll_sound (hT : ∀ t, TdOk C.P t (C.td t)) (h : SimG C E ⟨env, obs⟩ a w γ I) : ∀ (rs : List ResultVar) {K : List X → Prop}, resAllK C env obs rs K →
    ∃ vs xs, (rs.mapM fun r => (match r with | .tmp t => pure (a.tmps.getD t undef) | .cell t ty => do loadVar ty (← asAddr (a.tmps.getD t undef)) : Sem Value)).run C.P w = .ok vs w ∧ vs.length = xs.length ∧ xs.length = rs.length ∧ (∀ (j : Nat) (x : X), xs[j]? = some x → ∃ v, vs[j]? = some v ∧ XR γ I w (lk obs) x v) ∧ K xs
  | [], K, hK => ⟨[], [], rfl, rfl, rfl, by simp, hK⟩
  | r :: rs, K, hK => by
    rw [resAllK] at hK
    obtain ⟨v, x, h1, h2, hK⟩ := resOne_sound hT h hK
    obtain ⟨vs, xs, h3, h4, h5, h6, hK⟩ := resAll_sound hT h rs hK
    refine ⟨v :: vs, x :: xs, ?_, by simp [h4], by simp [h5], fun j y hj => ?_, hK⟩
    · rw [List.mapM_cons]
      simp only [Sem.run_bind, h1, h3, Result.andThen_ok, Sem.run_pure]
    · cases j with
      | zero => simp at hj; subst hj; exact ⟨v, rfl, h2⟩
      | succ j => simpa using h6 j y (by simpa using hj)
theorem convR_sound (h : SimG C E ⟨env, obs⟩ a w γ I) {own : Bool} {x : X} {u : Value} (hx : XR γ I w (lk obs) x u) {K : X → Obs → Prop} (hK : convRK own x obs K) :
    ∃ x' obs' I', K x' obs' ∧ SimG C E ⟨env, obs'⟩ a w γ I' ∧ XR γ I' w (lk obs') x' u := by
  unfold convRK at hK
  split at hK
  · exact ⟨x, obs, I, hK, h, hx⟩
  · split at hK
    · rename_i xs
      obtain ⟨us, rfl, hz, hr⟩ := hx
      split at hK
      · rename_i hfl
        obtain ⟨xs', obs', I', hK, h1, _, h3, h4⟩ := convA_sound xs us.toList h (by simpa using hz.symm) (fun j x hj => by
          obtain ⟨v, q1, q2⟩ := hr j x hj
          refine ⟨v, by simpa using q1, ?_⟩
          have := List.all_eq_true.1 hfl x (List.mem_of_getElem? hj)
          cases x with
          | v c => exact q2
          | agg cs => exact q2
          | tup ys => simp [flatX] at this) hK
        refine ⟨_, obs', I', hK, h1, us, rfl, by simpa using h3.symm, fun j x hj => ?_⟩
        obtain ⟨v, q1, q2⟩ := h4 j x hj
        refine ⟨v, by simpa using q1, ?_⟩
        cases x with
        | v c => exact q2
        | agg cs => exact q2
        | tup ys => trivial
      · exact hK.elim
    · obtain ⟨x', obs', I', h1, h2, _, h3⟩ := convX_sound h hx hK
      exact ⟨x', obs', I', h1, h2, h3⟩

theorem fin_sound {γ0 : Nat → Option Nat} {w0 : World} {I0 : Nat → Prop} {sub : Obs} (hE : E.w = w0 ∧ E.I = I0 ∧ (∀ b, E.B b → ∃ k o, lk sub k = some o ∧ γ0 k = some b) ∧ (∀ k b, isBox sub k = true → γ0 k = some b → E.bx k = some b))
    (hbox : ∀ k, isBox sub k = true → ∃ b, γ0 k = some b) (h : SimG C E ⟨env, obs⟩ a w γ I) {x : X} {u : Value} (hx : XR γ I w (lk obs) x u) {K : X → Obs → Prop} (hK : finK sub.length x obs K) :
    ∃ x' sub' γ', K x' sub' ∧ XR γ' I w (lk sub') x' u ∧ FnPost γ0 γ' I0 I w0 w sub sub' := by
  obtain ⟨rfl, rfl, hB, hbx⟩ := hE
  unfold finK at hK
  rw [ksK_eq] at hK
  generalize hks : close obs 3 (insAll (List.range sub.length) (keysX x)) = ks at hK
  split at hK
  · rename_i hc
    simp only [Bool.and_eq_true] at hc
    obtain ⟨hn, hpre⟩ := hc
    rw [fObs_eq, fX_eq] at hK
    have hp : ∀ i, i < sub.length → ks[i]? = some i := fun i hi => by
      have := List.all_eq_true.1 hpre i (by simpa using hi)
      split at this
      · rename_i k hk; rw [hk, Nat.eq_of_beq_eq_true this]
      · cases this
    refine ⟨_, _, fun i => (ks[i]?).bind γ, hK, XR.ren (sub_ren ks) hx, sub_mr h.mr hn, ⟨h.fr.os, h.fr.tape, h.fr.output, h.fr.size, fun b hb hnb => h.fr.block b hb (fun hB' => hnb (hB b hB'))⟩, h.inc, fun b hb => ?_, fun i o b h1 h2 => ?_, fun k o hb ho => ?_⟩
    · rcases h.new b hb with q | q | q
      · exact .inl q
      · exact .inr (.inl q)
      · exact .inr (.inr (hB b q))
    · rw [lk_subOf] at h1
      cases hk : ks[i]? with
      | none => rw [hk] at h1; cases h1
      | some k =>
        rw [hk] at h1
        simp only [hk, Option.bind_some] at h2
        cases hl : lk obs k with
        | none => simp [hl] at h1
        | some o' =>
          rcases h.own k o' b hl h2 with q | q
          · exact .inl (hB b q)
          · exact .inr q
    · have hlt : k < sub.length := by
        rcases Nat.lt_or_ge k sub.length with q | q
        · exact q
        · simp [isBox, lk, List.getElem?_eq_none q] at hb
      obtain ⟨b, hb0⟩ := hbox k hb
      have h1 := hbx k b hb hb0
      rw [lk_subOf, hp k hlt] at ho
      simp only [hp k hlt, Option.bind_some] at ho ⊢
      cases hl : lk obs k with
      | none => simp [hl] at ho
      | some o' => rw [h.bx k b h1 o' hl, hb0]
  · exact hK.elim
/-- What is known of a value. -/
def FactV : V → Prop
  | .int k n => inR k n
  | .str s => s.length ≤ big
  | .sl T xs => Ok (.sl T) xs
  | _ => True
theorem okNet_of {n : Net} (h1 : inR .i64 n.kind) (h2 : inR .i64 n.op) (h3 : OkArgs n.args) (h4 : n.kids.length * 64 ≤ big) (h5 : ∀ x ∈ n.kids, OkNet x) : OkNet n := by
  cases n with
  | mk k o a ks => exact .mk k o a ks h1 h2 h3.1 h3.2 h4 h5
theorem flat_fact {T : Ty} {xs : List T.D} (ih : ∀ (j : Nat) (c : V), (flat T xs)[j]? = some c → FactV c) : ∀ x ∈ xs, Ok T x := by
  intro x hx
  obtain ⟨i, hi, rfl⟩ := List.getElem_of_mem hx
  have cell : ∀ (j : Nat) (c : V), (enc T xs[i])[j]? = some c → FactV c := fun j c hj =>
    ih _ c (flat_get hi (by rw [List.getD_eq_getElem?_getD, List.getElem?_eq_getElem hi]; exact hj))
  cases T with
  | i64 => exact cell 0 _ rfl
  | u8 => trivial
  | bool => trivial
  | str => exact cell 0 _ rfl
  | devarg => exact ⟨cell 0 _ rfl, cell 1 _ rfl, cell 2 _ rfl⟩
  | elem => exact ⟨cell 0 _ rfl, cell 1 _ rfl⟩
  | inst => exact ⟨cell 0 _ rfl, cell 1 _ rfl, cell 2 _ rfl⟩
  | pair => exact ⟨cell 0 _ rfl, cell 1 _ rfl⟩
  | net => 
    have hk := cell 3 _ rfl
    exact okNet_of (cell 0 _ rfl) (cell 1 _ rfl) (cell 2 _ rfl) hk.1 hk.2
  | sl t => exact cell 0 _ rfl
theorem VR.fact {γ : Nat → Option Nat} {I : Nat → Prop} {w : World} {L : Nat → Option Ob} {c : V} {u : Value} (h : VR γ I w L c u) : FactV c := by
  induction h with
  | int k n h => exact h
  | str s h => exact h
  | slE T a c => exact ⟨by simp, fun x hx => by cases hx⟩
  | sl T xs b o c u h1 h2 h3 h4 h5 ih => exact ⟨h2, flat_fact ih⟩
  | _ => trivial
def FactX : X → Prop
  | .v c => FactV c
  | .agg cs => ∀ c ∈ cs, FactV c
  | .tup _ => True
def FactO : Ob → Prop
  | .box cells => ∀ c ∈ cells, FactV c
  | .row _ T xs => Ok (.sl T) xs
theorem XR.fact {γ : Nat → Option Nat} {I : Nat → Prop} {w : World} {L : Nat → Option Ob} : ∀ {x : X} {u : Value}, XR γ I w L x u → FactX x
  | .v c, u, h => VR.fact h
  | .agg cs, u, ⟨us, _, _, h⟩ => fun c hc => by
    obtain ⟨j, hj, rfl⟩ := List.getElem_of_mem hc
    obtain ⟨v, _, hv⟩ := h j _ (List.getElem?_eq_getElem hj)
    exact hv.fact
  | .tup _, _, _ => trivial
theorem ObR.fact {γ : Nat → Option Nat} {I : Nat → Prop} {w : World} {L : Nat → Option Ob} {k : Nat} : ∀ {o : Ob}, ObR γ I w L k o → FactO o
  | .box cells, ⟨b, cur, e, _, _, _, h⟩ => fun c hc => by
    obtain ⟨j, hj, rfl⟩ := List.getElem_of_mem hc
    obtain ⟨v, _, hv⟩ := h j _ (List.getElem?_eq_getElem hj)
    exact hv.fact
  | .row e T xs, h => by
    rcases h with ⟨_, rfl⟩ | ⟨b, cur, cap, _, _, _, _, _, h6, h7⟩
    · exact ⟨by simp, fun x hx => by cases hx⟩
    · exact ⟨h6, flat_fact fun j c hj => let ⟨u, _, hv⟩ := h7 j c hj; hv.fact⟩
theorem fn_ok {S : Spec} {own : Bool} {f : FuncId} {fn : Func} {c : Code} {ex : Nat} (hT : ∀ t, TdOk C.P t (C.td t)) (hf : C.P.funcs[f]? = some fn) (hb : fn.body = some c)
    (h : ∀ args sub K, S args sub K → (∀ x ∈ args, FactX x) → (∀ k o, lk sub k = some o → FactO o) →
      args.length ≤ fn.ntmps ∧ ∀ E : Entry, (∀ k, sub.length ≤ k → E.bx k = none) → (∀ k, isBox sub k = false → E.bx k = none) →
        Safe C E [.code c] (retB C own fn.results.toList sub.length K) ⟨args ++ List.replicate (fn.ntmps - args.length) (.v .any), sub ++ List.replicate (fn.ntmps + ex) none⟩) : FnOk C f S := by
  intro args sub K γ I w us hS hA hM hG
  obtain ⟨hsz, hA⟩ := hA
  obtain ⟨hlen, h⟩ := h args sub K hS (fun x hx => by
    obtain ⟨j, hj, rfl⟩ := List.getElem_of_mem hx
    obtain ⟨u, _, hu⟩ := hA j _ (List.getElem?_eq_getElem hj)
    exact hu.fact) (fun k o hk => (hM.ob k o hk).fact)
  let bx : Nat → Option Nat := fun k => if isBox sub k = true then γ k else none
  let E : Entry := ⟨w, I, fun b => ∃ k o, lk sub k = some o ∧ γ k = some b, bx⟩
  have hL : lk (sub ++ List.replicate (fn.ntmps + ex) none) = lk sub := by
    funext k
    unfold lk
    rcases Nat.lt_or_ge k sub.length with q | q
    · rw [List.getElem?_append_left q]
    · rw [List.getElem?_append_right q, List.getElem?_eq_none q, List.getElem?_replicate]
      split <;> rfl
  have hbx : ∀ k, sub.length ≤ k → E.bx k = none := fun k hk => by
    show (if isBox sub k = true then γ k else none) = none
    rw [if_neg]; simp [isBox, lk, List.getElem?_eq_none hk]
  have hbox : ∀ k, isBox sub k = true → ∃ b, γ k = some b := fun k hk => by
    unfold isBox at hk
    split at hk
    · rename_i cs hc; obtain ⟨b, _, _, hb, _⟩ := hM.ob k _ hc; exact ⟨b, hb⟩
    · cases hk
  have hsim : SimG C E ⟨args ++ List.replicate (fn.ntmps - args.length) (.v .any), sub ++ List.replicate (fn.ntmps + ex) none⟩
      { tmps := us ++ Array.replicate (fn.ntmps - us.size) undef, defers := [] } w γ I := by
    refine ⟨rfl, by simp [hsz], fun i x hx => ?_, by rw [hL]; exact hM, Fr.refl _ _, fun _ h => h, fun b h => .inl h, fun k o b h1 h2 => ?_, hG, fun k b h1 o ho => ?_⟩
    · simp only at hx
      rcases Nat.lt_or_ge i args.length with q | q
      · rw [List.getElem?_append_left q] at hx
        obtain ⟨u, hu, hr⟩ := hA i x hx
        refine ⟨u, ?_, by rw [hL]; exact hr⟩
        rw [Array.getElem?_append_left (by omega)]; exact hu
      · rw [List.getElem?_append_right q, List.getElem?_replicate] at hx
        split at hx
        · rename_i hl
          injection hx with hx; subst hx
          refine ⟨undef, ?_, XR.any _⟩
          rw [Array.getElem?_append_right (by omega), Array.getElem?_replicate, if_pos (by omega)]
        · cases hx
    · rw [hL] at h1; exact .inl ⟨k, o, h1, h2⟩
    · have : (if isBox sub k = true then γ k else none) = some b := h1
      split at this
      · exact this
      · cases this
  refine calls_of_wp hf hb (wp_mono ((h E hbx (fun k hk => by show (if isBox sub k = true then γ k else none) = none; rw [if_neg (by simp [hk])])).go _ _ ⟨γ, I, hsim⟩) ?_)
  intro e a w' hL
  obtain ⟨st, hst, γ1, I1, hs⟩ := hL
  have key : retK C own fn.results.toList sub.length K st.env st.obs → bodyPost C.P fn (fun e w' => ∃ v x sub' γ' I', e = .returned v ∧ K x sub' ∧ XR γ' I' w' (lk sub') x v ∧ FnPost γ γ' I I' w w' sub sub') .ret a w' := fun hr => by
    refine ⟨hs.defers, ?_⟩
    unfold retK at hr
    obtain ⟨vs, xs, h1, h2, h3, h4, hr⟩ := resAll_sound hT hs _ hr
    have hres : (results fn a.tmps).run C.P w' = .ok (if h : vs.toArray.size = 1 then vs.toArray[0] else .tuple vs.toArray) w' := by
      unfold results
      rw [Array.mapM_eq_mapM_toList]
      simp only [Sem.run_bind, map_eq_pure_bind, Result.andThen_ok, Sem.run_pure]
      erw [h1]
      rfl
    refine ⟨_, hres, ?_⟩
    have fin : ∀ {x : X} {u : Value} {K' : X → Obs → Prop}, XR γ1 I1 w' (lk st.obs) x u → convRK own x st.obs (fun x obs => finK sub.length x obs K) → ∃ v x sub' γ' I', Ending.returned u = .returned v ∧ K x sub' ∧ XR γ' I' w' (lk sub') x v ∧ FnPost γ γ' I I' w w' sub sub' := fun hx hc => by
      obtain ⟨x', obs', I', hK, h1, h2⟩ := convR_sound hs hx hc
      obtain ⟨x2, sub', γ', hK, h3, h4⟩ := fin_sound (γ0 := γ) (w0 := w) (I0 := I) (sub := sub) ⟨rfl, rfl, fun b hb => hb, fun k b h1 h2 => by
        show (if isBox sub k = true then γ k else none) = some b
        rw [if_pos h1, h2]⟩ hbox h1 h2 hK
      exact ⟨_, x2, sub', γ', I', rfl, hK, h3, h4⟩
    split at hr
    · rename_i x
      obtain ⟨v, hv, hx⟩ := h4 0 x rfl
      match vs, h2, hv with
      | [v0], _, hv =>
        simp at hv; subst hv
        exact fin (K' := K) hx hr
    · rename_i hne
      have hne' : vs.length ≠ 1 := fun e => by
        match xs, h2 with
        | [x], _ => exact hne x rfl
        | [], h2 => simp [h2] at e
        | _ :: _ :: _, h2 => simp [h2] at e
      have : (if h : vs.toArray.size = 1 then vs.toArray[0] else .tuple vs.toArray) = .tuple vs.toArray := by
        rw [dif_neg]; simpa using hne'
      rw [this]
      refine fin (K' := K) (x := .tup xs) ⟨vs.toArray, rfl, by simpa using h2, fun j x hj => ?_⟩ hr
      obtain ⟨v, hv, hx⟩ := h4 j x hj
      refine ⟨v, by simpa using hv, ?_⟩
      cases x with
      | v c => exact hx
      | agg cs => exact hx
      | tup ys => trivial
  cases e with
  | normal => exact key hst
  | ret => exact key hst
  | exit id => exact hst.elim
  | goto l => exact hst.elim
  | panic ch => exact hst.elim
  | outgrown => exact hst.elim
end
end Go.Proofs.Ytdpgdeaefmghiaa.Sx
