/- A part of the proof's own kit: symbolic walks over the model (SeatB11, SeatB4, SeatB12, SeatB13, SeatB24, SeatB25, SeatB6). No statement of the seat stands here. -/
import Derived.Test.YtdpgdeaefmghiaaOneP7
set_option linter.unusedSimpArgs false
set_option linter.unusedVariables false
/- Printed by gen2.py: contracts of functions. -/
namespace Go.Proofs.Ytdpgdeaefmghiaa.Sx
open Go.Proofs
set_option maxRecDepth 20000
set_option maxHeartbeats 4000000
set_option linter.unusedSimpArgs false
set_option linter.unusedVariables false
def FieldOk (k n p : Int) : Prop := (k = 11 ∧ -32768 ≤ n ∧ n ≤ 32767 ∧ p = 0) ∨ (k = 12 ∧ -2147483648 ≤ n ∧ n ≤ 2147483647 ∧ 0 ≤ p ∧ p ≤ 255) ∨ (k = 13 ∧ 0 ≤ n ∧ n ≤ 255 ∧ p = 0) ∨ (1 ≤ k ∧ k ≤ 10 ∧ 0 ≤ n ∧ n ≤ 255 ∧ p = 0)
instance (k n p : Int) : Decidable (FieldOk k n p) := by unfold FieldOk; infer_instance
theorem boolIff {a b : Bool} (h : a = true ↔ b = true) : a = b := Bool.eq_iff_iff.2 h
noncomputable def S_spec_l17Field : Spec := fun args sub K => match args, sub with
  | [.agg [.int .i64 k, .int .i64 n, .int .i64 p]], [] => K (.v (.bool (decide (FieldOk k n p)))) []
  | _, _ => False
theorem S_spec_l17Field_mono : Mono S_spec_l17Field := by
  intro args sub K K' hk h
  unfold S_spec_l17Field at h ⊢
  repeat' first | exact hk _ _ h | exact h.elim | exact ⟨fun hc => hk _ _ (h.1 hc), fun hc => hk _ _ (h.2 hc)⟩ | (refine ⟨h.1, ?_⟩; replace h := h.2) | (intro hc; replace h := h hc) | (refine And.imp ?_ ?_ h <;> clear h <;> intro h) | split at h
noncomputable abbrev E_spec_l17Field : Ent := ⟨nrm [[none, none, none]] S_spec_l17Field, false⟩
theorem g_spec_l17Field : Good CA 60 E_spec_l17Field := by
  refine Good.nrm _ (fn_go (ex := 4) (l := []) (bor := []) CA_td CA_eq CA_mix trivial Try.func60 rfl (by simp [Try.f60]) S_spec_l17Field_mono fun args sub K hS hA hO => ?_)
  unfold S_spec_l17Field at hS
  split at hS
  · rename_i k n p
    refine ⟨by simp [Try.f60], fun E hx hnb => ?_⟩
    replace hx : Fx CA (hyOf [] []) 0 78 E := hx
    refine hx.next 400 rfl ?_
    conv => whnf
    repeat' first | exact SameX.refl _ | exact trivial | (refine And.intro ?_ ?_ <;> first | (intro hb <;> (try simp only [decide_eq_true_eq, decide_eq_false_iff_not, Bool.not_eq_true', Bool.not_eq_false', Bool.and_eq_true, Bool.or_eq_true, Bool.and_eq_false_iff, Bool.or_eq_false_iff, Bool.not_true, Bool.not_false, reduceCtorEq, Bool.true_and, Bool.and_true, Bool.false_and, Bool.and_false, ne_eq, not_or, not_true_eq_false, not_false_eq_true, false_or, or_false, true_and, and_true, false_and, and_false, Int.natCast_zero, Int.natCast_add, Int.natCast_one, List.length_nil, List.length_cons, List.length_take, List.length_drop, List.length_replicate, List.length_append, List.length_set, Nat.zero_add] at hb) <;> (try (exfalso; omega)) <;> (try conv => whnf)) | (conv => whnf) | skip) | (intro hb <;> (try simp only [decide_eq_true_eq, decide_eq_false_iff_not, Bool.not_eq_true', Bool.not_eq_false', Bool.and_eq_true, Bool.or_eq_true, Bool.and_eq_false_iff, Bool.or_eq_false_iff, Bool.not_true, Bool.not_false, reduceCtorEq, Bool.true_and, Bool.and_true, Bool.false_and, Bool.and_false, ne_eq, not_or, not_true_eq_false, not_false_eq_true, false_or, or_false, true_and, and_true, false_and, and_false, Int.natCast_zero, Int.natCast_add, Int.natCast_one, List.length_nil, List.length_cons, List.length_take, List.length_drop, List.length_replicate, List.length_append, List.length_set, Nat.zero_add] at hb) <;> (try (exfalso; omega)) <;> (try conv => whnf)) | (refine hx.draw 400 (by kernel_rfl) ?_ <;> conv => whnf) | (refine hx.next 400 rfl ?_ <;> conv => whnf)
    all_goals try first | exact ⟨by decide⟩ | exact hin (by omega) | exact ⟨by omega⟩ | exact ⟨⟨by omega, by omega⟩⟩ | exact ⟨by omega, by omega⟩ | (exfalso; omega)
    all_goals refine ansB hS (boolIff ?_)
    all_goals simp only [decide_eq_true_eq, Bool.and_eq_true, Bool.false_eq_true, true_iff, false_iff]
    all_goals (unfold FieldOk; omega)
  · exact hS.elim
def wrongN (i : Inst) : Int :=
  if i.code < 1 ∨ 11 < i.code then 2
  else if hasOne i.code = false then (if i.one.op ≠ 0 ∨ 0 < i.one.args.length then 2 else 0)
  else if known i.code i.one.op = false ∨ (i.one.args.length : Int) ≠ arity i.one.op then 2
  else if ∀ a ∈ i.one.args, FieldOk a.kind a.n a.p then 0 else 3
theorem wrongN_args {i : Inst} (h1 : ¬ (i.code < 1 ∨ 11 < i.code)) (h2 : hasOne i.code = true) (h3 : known i.code i.one.op = true) (h4 : (i.one.args.length : Int) = arity i.one.op) : wrongN i = if ∀ a ∈ i.one.args, FieldOk a.kind a.n a.p then 0 else 3 := by
  unfold wrongN; rw [if_neg h1, if_neg (by simp [h2]), if_neg (by simp [h3, h4])]
theorem getD_lt {α : Type} {xs : List α} {i : Nat} (h : i < xs.length) (d : α) : xs.getD i d = xs[i] := by simp [List.getD_eq_getElem?_getD, h]
noncomputable def S_spec_l17Wrong : Spec := fun args sub K => match args, sub with
  | [.agg [.int .i64 code, .int .i64 op, .sl .devarg xs]], [] => K (.v (.int .i64 (wrongN ⟨code, ⟨op, xs⟩⟩))) []
  | _, _ => False
theorem S_spec_l17Wrong_mono : Mono S_spec_l17Wrong := by
  intro args sub K K' hk h
  unfold S_spec_l17Wrong at h ⊢
  repeat' first | exact hk _ _ h | exact h.elim | exact ⟨fun hc => hk _ _ (h.1 hc), fun hc => hk _ _ (h.2 hc)⟩ | (refine ⟨h.1, ?_⟩; replace h := h.2) | (intro hc; replace h := h hc) | (refine And.imp ?_ ?_ h <;> clear h <;> intro h) | split at h
noncomputable abbrev E_spec_l17Wrong : Ent := ⟨nrm [[none, none, some .devarg]] S_spec_l17Wrong, false⟩
theorem g_spec_l17Wrong : Good CA 30 E_spec_l17Wrong := by
  refine Good.nrm _ (fn_go (ex := 4) (l := [(40, E_spec_l17Has), (41, E_spec_l17Known), (42, E_spec_ElemArity), (60, E_spec_l17Field)]) (bor := []) CA_td CA_eq CA_mix ⟨g_spec_l17Has, g_spec_l17Known, g_spec_ElemArity, g_spec_l17Field, trivial⟩ Try.func30 rfl (by simp [Try.f30]) S_spec_l17Wrong_mono fun args sub K hS hA hO => ?_)
  unfold S_spec_l17Wrong at hS
  split at hS
  · rename_i code op xs
    refine ⟨by simp [Try.f30], fun E hx hnb => ?_⟩
    replace hx : Fx CA (hyOf [(40, E_spec_l17Has), (41, E_spec_l17Known), (42, E_spec_ElemArity), (60, E_spec_l17Field)] []) 0 61 E := hx
    refine hx.next 400 rfl ?_
    conv => whnf
    repeat' first | exact SameX.refl _ | exact trivial | (refine And.intro ?_ ?_ <;> first | (intro hb <;> (try simp only [decide_eq_true_eq, decide_eq_false_iff_not, Bool.not_eq_true', Bool.not_eq_false', Bool.and_eq_true, Bool.or_eq_true, Bool.and_eq_false_iff, Bool.or_eq_false_iff, Bool.not_true, Bool.not_false, reduceCtorEq, Bool.true_and, Bool.and_true, Bool.false_and, Bool.and_false, ne_eq, not_or, not_true_eq_false, not_false_eq_true, false_or, or_false, true_and, and_true, false_and, and_false, Int.natCast_zero, Int.natCast_add, Int.natCast_one, List.length_nil, List.length_cons, List.length_take, List.length_drop, List.length_replicate, List.length_append, List.length_set, Nat.zero_add] at hb) <;> (try (exfalso; omega)) <;> (try conv => whnf)) | (conv => whnf) | skip) | (intro hb <;> (try simp only [decide_eq_true_eq, decide_eq_false_iff_not, Bool.not_eq_true', Bool.not_eq_false', Bool.and_eq_true, Bool.or_eq_true, Bool.and_eq_false_iff, Bool.or_eq_false_iff, Bool.not_true, Bool.not_false, reduceCtorEq, Bool.true_and, Bool.and_true, Bool.false_and, Bool.and_false, ne_eq, not_or, not_true_eq_false, not_false_eq_true, false_or, or_false, true_and, and_true, false_and, and_false, Int.natCast_zero, Int.natCast_add, Int.natCast_one, List.length_nil, List.length_cons, List.length_take, List.length_drop, List.length_replicate, List.length_append, List.length_set, Nat.zero_add] at hb) <;> (try (exfalso; omega)) <;> (try conv => whnf)) | (refine hx.draw 400 (by kernel_rfl) ?_ <;> conv => whnf) | (refine hx.next 400 rfl ?_ <;> conv => whnf)
    all_goals try first | exact ⟨by decide⟩ | exact hin (by omega) | exact ⟨by omega⟩ | exact ⟨⟨by omega, by omega⟩⟩ | exact ⟨by omega, by omega⟩ | (exfalso; omega)
    rotate_right
    · have h1 : ¬ (code < 1 ∨ 11 < code) := by omega
      have hw := wrongN_args (i := ⟨code, ⟨op, xs⟩⟩) h1 (by assumption) (by assumption) (by assumption)
      refine Safe.loopUP (Y := Nat) (fun i => [(2, .v .any), (3, N64 (i : Int)), (45, .v .any), (46, .v .any), (47, .v .any), (48, .v .any), (49, .v .any), (50, .v .any), (51, .v .any), (52, .v .any), (53, .v .any), (54, .v .any), (55, .v .any), (56, .v .any), (57, .v .any), (58, .v .any), (59, .v .any), (60, .v .any)]) (fun i => [(2, none), (3, none), (45, none), (46, none), (47, none), (48, none), (49, none), (50, none), (51, none), (52, none), (53, none), (54, none), (55, none), (56, none), (57, none), (58, none), (59, none), (60, none)]) (fun i => i ≤ xs.length ∧ ∀ a ∈ xs.take i, FieldOk a.kind a.n a.p) (fun i => xs.length - i) (0) ?_ (StLe.upd ?_) fun i hP => ?_
      · exact ⟨by omega, by simp⟩
      · conv => whnf
        repeat' first | exact trivial | exact .refl _ | exact .nilsl _ | exact .tt _ rfl | exact .ff _ rfl | exact .tb _ rfl | exact .fb _ rfl | exact .row _ _ _ _ rfl | (refine And.intro ?_ ?_ <;> try conv => whnf)
        all_goals try first | exact sameI (by omega) | exact sameI rfl | (refine sameI ?_; simp only [List.length_append, List.length_cons, List.length_nil]; omega)
      · try dsimp only at hP
        obtain ⟨q1, q2⟩ := hP
        have har := arity_bd op
        refine hx.next 400 rfl ?_
        conv => whnf
        repeat' first | exact SameX.refl _ | exact trivial | (refine And.intro ?_ ?_ <;> first | (intro hb <;> (try simp only [decide_eq_true_eq, decide_eq_false_iff_not, Bool.not_eq_true', Bool.not_eq_false', Bool.and_eq_true, Bool.or_eq_true, Bool.and_eq_false_iff, Bool.or_eq_false_iff, Bool.not_true, Bool.not_false, reduceCtorEq, Bool.true_and, Bool.and_true, Bool.false_and, Bool.and_false, ne_eq, not_or, not_true_eq_false, not_false_eq_true, false_or, or_false, true_and, and_true, false_and, and_false, Int.natCast_zero, Int.natCast_add, Int.natCast_one, List.length_nil, List.length_cons, List.length_take, List.length_drop, List.length_replicate, List.length_append, List.length_set, Nat.zero_add] at hb) <;> (try (exfalso; omega)) <;> (try conv => whnf)) | (conv => whnf) | skip) | (intro hb <;> (try simp only [decide_eq_true_eq, decide_eq_false_iff_not, Bool.not_eq_true', Bool.not_eq_false', Bool.and_eq_true, Bool.or_eq_true, Bool.and_eq_false_iff, Bool.or_eq_false_iff, Bool.not_true, Bool.not_false, reduceCtorEq, Bool.true_and, Bool.and_true, Bool.false_and, Bool.and_false, ne_eq, not_or, not_true_eq_false, not_false_eq_true, false_or, or_false, true_and, and_true, false_and, and_false, Int.natCast_zero, Int.natCast_add, Int.natCast_one, List.length_nil, List.length_cons, List.length_take, List.length_drop, List.length_replicate, List.length_append, List.length_set, Nat.zero_add] at hb) <;> (try (exfalso; omega)) <;> (try conv => whnf)) | (refine hx.draw 400 (by kernel_rfl) ?_ <;> conv => whnf) | (refine hx.next 400 rfl ?_ <;> conv => whnf)
        all_goals try first | exact ⟨by decide⟩ | exact hin (by omega) | exact ⟨by omega⟩ | exact ⟨⟨by omega, by omega⟩⟩ | exact ⟨by omega, by omega⟩ | (exfalso; omega)
        · have hlt : i < xs.length := by omega
          refine ansI hS ?_
          rw [hw, if_neg fun h => ?_]
          rw [nat_toNat, getD_lt hlt] at hb
          exact hb (h _ (List.getElem_mem hlt))
        · have hlt : i < xs.length := by omega
          refine ⟨i + 1, ?_, by first | omega | ((try dsimp only); (try simp only [List.length_append, List.length_cons, List.length_nil]); omega), StLe.upd ?_⟩
          · refine ⟨by omega, fun a ha => ?_⟩
            rw [List.take_succ_eq_append_getElem hlt, List.mem_append] at ha
            rcases ha with ha | ha
            · exact q2 a ha
            · simp only [List.mem_cons, List.not_mem_nil, or_false] at ha
              rw [nat_toNat, getD_lt hlt] at hb
              rw [ha]; exact hb
          conv => whnf
          repeat' first | exact trivial | exact .refl _ | exact .nilsl _ | exact .tt _ rfl | exact .ff _ rfl | exact .tb _ rfl | exact .fb _ rfl | exact .row _ _ _ _ rfl | (refine And.intro ?_ ?_ <;> try conv => whnf)
          all_goals try first | exact sameI (by omega) | exact sameI rfl | (refine sameI ?_; simp only [List.length_append, List.length_cons, List.length_nil]; omega)
        · have : i = xs.length := by omega
          subst this
          rw [List.take_length] at q2
          refine ansI hS ?_
          rw [hw, if_pos q2]
    all_goals refine ansI hS ?_
    all_goals unfold wrongN
    all_goals dsimp only
    · rw [if_pos (by omega)]
    · rw [if_pos (by omega)]
    · rw [if_neg (by omega), if_pos (by assumption), if_pos (by omega)]
    · rw [if_neg (by omega), if_pos (by assumption), if_pos (by omega)]
    · rw [if_neg (by omega), if_pos (by assumption), if_neg (by omega)]
    · rename_i hh
      rw [if_neg (by omega), if_neg (by simp [hh]), if_pos (.inl hb)]
    · rename_i hh _
      rw [if_neg (by omega), if_neg (by simp [hh]), if_pos (.inr hb)]
  · exact hS.elim
end Go.Proofs.Ytdpgdeaefmghiaa.Sx

/- Printed by gen2.py: contracts of functions. -/
namespace Go.Proofs.Ytdpgdeaefmghiaa.Sx
open Go.Proofs
set_option maxRecDepth 20000
set_option maxHeartbeats 4000000
set_option linter.unusedSimpArgs false
set_option linter.unusedVariables false
theorem sval_one {r : List UInt8} (h : 1 ≤ r.length) : sval (r.take 1) = (((r.take 1).getD 0 (0 : UInt8)).toNat : Int) := by
  rcases r with _ | ⟨x, r⟩
  · simp at h
  · simp [sval, beN]
theorem argR_w1 {k : UInt8} {r : List UInt8} (h : 1 ≤ (k.toNat : Int) ∧ (k.toNat : Int) ≤ 13) (h1 : ¬ (k.toNat : Int) = 11) (h2 : ¬ (k.toNat : Int) = 12) (hr : 1 ≤ r.length) :
    argR (k :: r) = .ok (⟨k.toNat, (((r.take (Int.toNat 1)).getD (Int.toNat 0) Ty.u8.dflt : UInt8).toNat : Int), 0⟩, r.drop (Int.toNat 1)) := by
  have hw : wideN k.toNat = 1 := by unfold wideN; rw [if_neg h1, if_neg h2]
  have := argR_5 (k := k) (r := r) (by omega) (by omega) h2
  rw [hw, sval_one hr] at this
  exact this
theorem argR_w2 {k : UInt8} {r : List UInt8} (h : (k.toNat : Int) = 11) (hr : 2 ≤ r.length) : argR (k :: r) = .ok (⟨k.toNat, sval (r.take (Int.toNat 2)), 0⟩, r.drop (Int.toNat 2)) := by
  have hw : wideN k.toNat = 2 := by unfold wideN; rw [if_pos h]
  have := argR_5 (k := k) (r := r) (by omega) (by omega) (by omega)
  rw [hw] at this; exact this
theorem argR_w4 {k : UInt8} {r : List UInt8} (h : (k.toNat : Int) = 12) (hr : 5 ≤ r.length) :
    argR (k :: r) = .ok (⟨k.toNat, sval (r.take (Int.toNat 4)), (((List.take (Int.toNat 1) (r.drop (Int.toNat 4))).getD (Int.toNat 0) Ty.u8.dflt : UInt8).toNat : Int)⟩, List.drop (Int.toNat 1) (r.drop (Int.toNat 4))) := by
  have hw := wideN_12 h
  rcases h7 : r.drop 4 with _ | ⟨q, r'⟩
  · have : (r.drop 4).length = 0 := by rw [h7]; rfl
    rw [List.length_drop] at this; omega
  · have h8 : r.drop (Int.toNat 4) = q :: r' := h7
    rw [argR_4 (by omega) (by omega) h h7, h8]; rfl
theorem wideN_all (k : Int) : (k = 11 → wideN k = 2) ∧ (k = 12 → wideN k = 4) ∧ (¬ k = 11 → ¬ k = 12 → wideN k = 1) := by
  unfold wideN; refine ⟨fun h => if_pos h, fun h => by rw [if_neg (by omega), if_pos h], fun h h2 => by rw [if_neg h, if_neg h2]⟩
noncomputable def S_p_impl_picReader_arg : Spec := fun args sub K => match args, sub with
  | [.v (.ptr 0 0)], [some (.box [.sl .u8 b, .int .i64 c])] => Hold (c = 0) ∧ (∀ (k n q e : Int) (b' : List UInt8), argR b = .error e → 0 < e → K (.agg [.int .i64 k, .int .i64 n, .int .i64 q]) [some (.box [.sl .u8 b', .int .i64 e])]) ∧ (∀ (a : DevArg) (r : List UInt8), argR b = .ok (a, r) → K (.agg [.int .i64 a.kind, .int .i64 a.n, .int .i64 a.p]) [some (.box [.sl .u8 r, .int .i64 0])])
  | _, _ => False
theorem S_p_impl_picReader_arg_mono : Mono S_p_impl_picReader_arg := by
  intro args sub K K' hk h
  unfold S_p_impl_picReader_arg at h ⊢
  repeat' first | exact hk _ _ h | exact h.elim | exact ⟨fun hc => hk _ _ (h.1 hc), fun hc => hk _ _ (h.2 hc)⟩ | (refine ⟨h.1, ?_⟩; replace h := h.2) | (intro hc; replace h := h hc) | (refine And.imp ?_ ?_ h <;> clear h <;> intro h) | split at h
noncomputable abbrev E_p_impl_picReader_arg : Ent := ⟨nrm [[none]] S_p_impl_picReader_arg, false⟩
theorem g_p_impl_picReader_arg : Good CA 48 E_p_impl_picReader_arg := by
  refine Good.nrm _ (fn_go (ex := 4) (l := [(19, E_impl_in), (44, E_p_impl_picReader_take), (64, E_impl_signed)]) (bor := []) CA_td CA_eq CA_mix ⟨g_impl_in, g_p_impl_picReader_take, g_impl_signed, trivial⟩ Try.func48 rfl (by simp [Try.f48]) S_p_impl_picReader_arg_mono fun args sub K hS hA hO => ?_)
  unfold S_p_impl_picReader_arg at hS
  split at hS
  · rename_i b c
    refine ⟨by simp [Try.f48], fun E hx hnb => ?_⟩
    replace hx : Fx CA (hyOf [(19, E_impl_in), (44, E_p_impl_picReader_take), (64, E_impl_signed)] []) 1 58 E := hx
    obtain ⟨⟨hc⟩, hE, hS⟩ := hS
    subst hc
    have hO0 := hO 0 _ rfl
    have hbl : b.length ≤ big := by have h := (hO0 (.sl .u8 b) (by simp) : Ok (.sl .u8) b).1; exact Nat.le_trans (Nat.le_mul_of_pos_right _ Ty.u8.bytes_pos) h
    unfold big at hbl
    rcases hl : b with _ | ⟨k, r⟩
    · rw [hl] at hE hS
      refine hx.next 400 rfl ?_
      conv => whnf
      repeat' first | exact SameX.refl _ | exact trivial | (refine And.intro ?_ ?_ <;> first | (intro hb <;> (try simp only [decide_eq_true_eq, decide_eq_false_iff_not, Bool.not_eq_true', Bool.not_eq_false', Bool.and_eq_true, Bool.or_eq_true, Bool.and_eq_false_iff, Bool.or_eq_false_iff, Bool.not_true, Bool.not_false, reduceCtorEq, Bool.true_and, Bool.and_true, Bool.false_and, Bool.and_false, ne_eq, not_or, not_true_eq_false, not_false_eq_true, false_or, or_false, true_and, and_true, false_and, and_false, Int.natCast_zero, Int.natCast_add, Int.natCast_one, List.length_nil, List.length_cons, List.length_take, List.length_drop, List.length_replicate, List.length_append, List.length_set, Nat.zero_add] at hb) <;> (try (exfalso; omega)) <;> (try conv => whnf)) | (conv => whnf) | skip) | (intro hb <;> (try simp only [decide_eq_true_eq, decide_eq_false_iff_not, Bool.not_eq_true', Bool.not_eq_false', Bool.and_eq_true, Bool.or_eq_true, Bool.and_eq_false_iff, Bool.or_eq_false_iff, Bool.not_true, Bool.not_false, reduceCtorEq, Bool.true_and, Bool.and_true, Bool.false_and, Bool.and_false, ne_eq, not_or, not_true_eq_false, not_false_eq_true, false_or, or_false, true_and, and_true, false_and, and_false, Int.natCast_zero, Int.natCast_add, Int.natCast_one, List.length_nil, List.length_cons, List.length_take, List.length_drop, List.length_replicate, List.length_append, List.length_set, Nat.zero_add] at hb) <;> (try (exfalso; omega)) <;> (try conv => whnf)) | (refine hx.draw 400 (by kernel_rfl) ?_ <;> conv => whnf) | (refine hx.next 400 rfl ?_ <;> conv => whnf)
      all_goals try first | exact ⟨by decide⟩ | exact hin (by omega) | exact ⟨by omega⟩ | exact ⟨⟨by omega, by omega⟩⟩ | exact ⟨by omega, by omega⟩ | (exfalso; omega)
      all_goals (try exact ⟨by omega, by decide⟩)
      exact hE _ _ _ 6 _ rfl (by omega)
    · have ek : (List.take (Int.toNat 1) (k :: r)).getD (Int.toNat 0) Ty.u8.dflt = k := rfl
      have e1 : List.drop (Int.toNat 1) (k :: r) = r := rfl
      rw [hl] at hE hS
      have hk := UInt8.toNat_lt k
      refine hx.next 400 rfl ?_
      conv => whnf
      repeat' first | exact SameX.refl _ | exact trivial | (refine And.intro ?_ ?_ <;> first | (intro hb <;> (try simp only [decide_eq_true_eq, decide_eq_false_iff_not, Bool.not_eq_true', Bool.not_eq_false', Bool.and_eq_true, Bool.or_eq_true, Bool.and_eq_false_iff, Bool.or_eq_false_iff, Bool.not_true, Bool.not_false, reduceCtorEq, Bool.true_and, Bool.and_true, Bool.false_and, Bool.and_false, ne_eq, not_or, not_true_eq_false, not_false_eq_true, false_or, or_false, true_and, and_true, false_and, and_false, Int.natCast_zero, Int.natCast_add, Int.natCast_one, List.length_nil, List.length_cons, List.length_take, List.length_drop, List.length_replicate, List.length_append, List.length_set, Nat.zero_add] at hb) <;> (try (exfalso; omega)) <;> (try conv => whnf)) | (conv => whnf) | skip) | (intro hb <;> (try simp only [decide_eq_true_eq, decide_eq_false_iff_not, Bool.not_eq_true', Bool.not_eq_false', Bool.and_eq_true, Bool.or_eq_true, Bool.and_eq_false_iff, Bool.or_eq_false_iff, Bool.not_true, Bool.not_false, reduceCtorEq, Bool.true_and, Bool.and_true, Bool.false_and, Bool.and_false, ne_eq, not_or, not_true_eq_false, not_false_eq_true, false_or, or_false, true_and, and_true, false_and, and_false, Int.natCast_zero, Int.natCast_add, Int.natCast_one, List.length_nil, List.length_cons, List.length_take, List.length_drop, List.length_replicate, List.length_append, List.length_set, Nat.zero_add] at hb) <;> (try (exfalso; omega)) <;> (try conv => whnf)) | (refine hx.draw 400 (by kernel_rfl) ?_ <;> conv => whnf) | (refine hx.next 400 rfl ?_ <;> conv => whnf)
      all_goals try simp only [ek, e1] at *
      all_goals try first | exact ⟨by decide⟩ | exact hin (by omega) | exact ⟨by omega⟩ | exact ⟨⟨by omega, by omega⟩⟩ | exact ⟨by omega, by omega⟩ | (exfalso; omega)
      all_goals try (simp only [List.length_take, List.length_drop, List.length_append, List.length_cons, List.length_nil, List.length_replicate, List.length_set, Ty.bytes, big, Nat.zero_add, Nat.add_zero]; first | exact hin (by omega) | exact ⟨by omega⟩ | exact ⟨⟨by omega, by omega⟩⟩ | exact ⟨by omega, by omega⟩)
      all_goals (clear ek e1)
      all_goals (have hw := wideN_all k.toNat)
      all_goals first
        | exact hE _ _ _ 6 _ (argR_2 (by omega) (by omega)) (by omega)
        | exact hE _ _ _ 6 _ (argR_3 (by omega) (by omega) (by omega) (List.drop_eq_nil_of_le (by omega))) (by omega)
        | exact hS ⟨_, _, _⟩ _ (argR_w1 (by omega) (by omega) (by omega) (by omega))
        | exact hS ⟨_, _, _⟩ _ (argR_w2 (by omega) (by omega))
        | exact hS ⟨_, _, _⟩ _ (argR_w4 (by omega) (by omega))
        | exact hE _ _ _ 3 _ (argR_1 (by omega)) (by omega)
  · exact hS.elim
end Go.Proofs.Ytdpgdeaefmghiaa.Sx

/- Printed by gen2.py: contracts of functions. -/
namespace Go.Proofs.Ytdpgdeaefmghiaa.Sx
open Go.Proofs
set_option maxRecDepth 20000
set_option maxHeartbeats 4000000
set_option linter.unusedSimpArgs false
set_option linter.unusedVariables false
theorem lenOk {T : Ty} {xs : List T.D} (h : Ok (.sl T) xs) : xs.length ≤ 140737488355328 := Nat.le_trans (Nat.le_mul_of_pos_right _ T.bytes_pos) h.1
theorem lenA {args : List X} (h : ∀ x ∈ args, FactX x) {T : Ty} {xs : List T.D} (hm : X.v (.sl T xs) ∈ args) : xs.length ≤ 140737488355328 := lenOk (h _ hm : Ok (.sl T) xs)
theorem lenG {args : List X} (h : ∀ x ∈ args, FactX x) {cs : List V} (hm : X.agg cs ∈ args) {T : Ty} {xs : List T.D} (hc : V.sl T xs ∈ cs) : xs.length ≤ 140737488355328 := lenOk ((h _ hm : ∀ c ∈ cs, FactV c) _ hc : Ok (.sl T) xs)
theorem lenO {sub : Obs} (h : ∀ k o, lk sub k = some o → FactO o) {k : Nat} {cs : List V} (hm : lk sub k = some (.box cs)) {T : Ty} {xs : List T.D} (hc : V.sl T xs ∈ cs) : xs.length ≤ 140737488355328 := lenOk ((h _ _ hm : ∀ c ∈ cs, FactV c) _ hc : Ok (.sl T) xs)
theorem lenR {sub : Obs} (h : ∀ k o, lk sub k = some o → FactO o) {k : Nat} {e : TypeId} {T : Ty} {xs : List T.D} (hm : lk sub k = some (.row e T xs)) : xs.length ≤ 140737488355328 := lenOk (h _ _ hm : Ok (.sl T) xs)
def u8 (n : Int) : UInt8 := UInt8.ofNat (IntKind.u8.wrap n).toNat
def argB (a : DevArg) : List UInt8 := u8 a.kind :: (toBE a.n (wideN a.kind) ++ if a.kind = 12 then [u8 a.p] else [])
def instB (i : Inst) : List UInt8 := if hasOne i.code = true then u8 i.code :: u8 i.one.op :: i.one.args.flatMap argB else [u8 i.code]
theorem argB_len (a : DevArg) : (argB a).length ≤ 6 ∧ 2 ≤ (argB a).length := by
  have h := wideN_all a.kind
  unfold argB
  split <;> simp only [List.length_cons, List.length_append, List.length_nil, toBE_length] <;> omega
theorem flat_len : ∀ (xs : List DevArg), (xs.flatMap argB).length ≤ xs.length * 6
  | [] => by simp
  | a :: xs => by have h1 := argB_len a; have := flat_len xs; simp only [List.flatMap_cons, List.length_append, List.length_cons]; omega
noncomputable def S_spec_l17Inst : Spec := fun args sub K => match args, sub with
  | [.agg [.int .i64 code, .int .i64 op, .sl .devarg xs]], [] => Hold (xs.length ≤ 1000) ∧ K (.v (.sl .u8 (instB ⟨code, ⟨op, xs⟩⟩))) []
  | _, _ => False
theorem S_spec_l17Inst_mono : Mono S_spec_l17Inst := by
  intro args sub K K' hk h
  unfold S_spec_l17Inst at h ⊢
  repeat' first | exact hk _ _ h | exact h.elim | exact ⟨fun hc => hk _ _ (h.1 hc), fun hc => hk _ _ (h.2 hc)⟩ | (refine ⟨h.1, ?_⟩; replace h := h.2) | (intro hc; replace h := h hc) | (refine And.imp ?_ ?_ h <;> clear h <;> intro h) | split at h
noncomputable abbrev E_spec_l17Inst : Ent := ⟨nrm [[none, none, some .devarg]] S_spec_l17Inst, false⟩
theorem g_spec_l17Inst : Good CA 31 E_spec_l17Inst := by
  refine Good.nrm _ (fn_go (ex := 4) (l := [(32, E_spec_l17Num), (40, E_spec_l17Has), (61, E_spec_l17Wide)]) (bor := []) CA_td CA_eq CA_mix ⟨g_spec_l17Num, g_spec_l17Has, g_spec_l17Wide, trivial⟩ Try.func31 rfl (by simp [Try.f31]) S_spec_l17Inst_mono fun args sub K hS hA hO => ?_)
  unfold S_spec_l17Inst at hS
  split at hS
  · rename_i code op xs
    refine ⟨by simp [Try.f31], fun E hx hnb => ?_⟩
    replace hx : Fx CA (hyOf [(32, E_spec_l17Num), (40, E_spec_l17Has), (61, E_spec_l17Wide)] []) 0 60 E := hx
    obtain ⟨⟨hl⟩, hS⟩ := hS
    refine hx.next 400 rfl ?_
    conv => whnf
    repeat' first | exact SameX.refl _ | exact trivial | (refine And.intro ?_ ?_ <;> first | (intro hb <;> (try simp only [decide_eq_true_eq, decide_eq_false_iff_not, Bool.not_eq_true', Bool.not_eq_false', Bool.and_eq_true, Bool.or_eq_true, Bool.and_eq_false_iff, Bool.or_eq_false_iff, Bool.not_true, Bool.not_false, reduceCtorEq, Bool.true_and, Bool.and_true, Bool.false_and, Bool.and_false, ne_eq, not_or, not_true_eq_false, not_false_eq_true, false_or, or_false, true_and, and_true, false_and, and_false, Int.natCast_zero, Int.natCast_add, Int.natCast_one, List.length_nil, List.length_cons, List.length_take, List.length_drop, List.length_replicate, List.length_append, List.length_set, Nat.zero_add] at hb) <;> (try (exfalso; omega)) <;> (try conv => whnf)) | (conv => whnf) | skip) | (intro hb <;> (try simp only [decide_eq_true_eq, decide_eq_false_iff_not, Bool.not_eq_true', Bool.not_eq_false', Bool.and_eq_true, Bool.or_eq_true, Bool.and_eq_false_iff, Bool.or_eq_false_iff, Bool.not_true, Bool.not_false, reduceCtorEq, Bool.true_and, Bool.and_true, Bool.false_and, Bool.and_false, ne_eq, not_or, not_true_eq_false, not_false_eq_true, false_or, or_false, true_and, and_true, false_and, and_false, Int.natCast_zero, Int.natCast_add, Int.natCast_one, List.length_nil, List.length_cons, List.length_take, List.length_drop, List.length_replicate, List.length_append, List.length_set, Nat.zero_add] at hb) <;> (try (exfalso; omega)) <;> (try conv => whnf)) | (refine hx.draw 400 (by kernel_rfl) ?_ <;> conv => whnf) | (refine hx.next 400 rfl ?_ <;> conv => whnf)
    all_goals try first | exact ⟨by decide⟩ | exact hin (by omega) | exact ⟨by omega⟩ | exact ⟨⟨by omega, by omega⟩⟩ | exact ⟨by omega, by omega⟩ | (exfalso; omega)
    · refine ansS hS ?_
      unfold instB; rw [if_neg (by simp [hb])]; rfl
    all_goals try (simp only [List.length_take, List.length_drop, List.length_append, List.length_cons, List.length_nil, List.length_replicate, List.length_set, Ty.bytes, big, Nat.zero_add, Nat.add_zero]; first | exact hin (by omega) | exact ⟨by omega⟩ | exact ⟨⟨by omega, by omega⟩⟩ | exact ⟨by omega, by omega⟩)
    refine Safe.loopUP (Y := Nat) (fun i => [(3, .v (.full 21)), (4, N64 (i : Int)), (5, .v .any), (21, A), (22, .v .any), (23, .v .any), (24, .v .any), (25, .v .any), (26, .v .any), (27, .v .any), (28, .v .any), (29, .v .any), (30, .v .any), (31, .v .any), (32, .v .any), (33, .v .any), (34, .v .any), (35, .v .any), (36, .v .any), (37, .v .any), (38, .v .any), (39, .v .any), (40, .v .any), (41, .v .any), (42, .v .any), (43, .v .any), (44, .v .any), (45, .v .any), (46, .v .any), (47, .v .any), (48, .v .any), (49, .v .any), (50, .v .any), (51, .v .any), (52, .v .any), (53, .v .any), (54, .v .any), (55, .v .any), (56, .v .any), (57, .v .any), (58, .v .any)]) (fun i => [(3, none), (4, none), (5, none), (21, some (.row eU8 .u8 (u8 code :: u8 op :: (xs.take i).flatMap argB))), (22, none), (23, none), (24, none), (25, none), (26, none), (27, none), (28, none), (29, none), (30, none), (31, none), (32, none), (33, none), (34, none), (35, none), (36, none), (37, none), (38, none), (39, none), (40, none), (41, none), (42, none), (43, none), (44, none), (45, none), (46, none), (47, none), (48, none), (49, none), (50, none), (51, none), (52, none), (53, none), (54, none), (55, none), (56, none), (57, none), (58, none)]) (fun i => i ≤ xs.length) (fun i => xs.length - i) (0) ?_ (StLe.upd ?_) fun i hP => ?_
    · first | trivial | ((try dsimp only); first | trivial | omega | ((repeat' apply And.intro) <;> omega) | (simp; done))
    · conv => whnf
      repeat' first | exact trivial | exact .refl _ | exact .nilsl _ | exact .tt _ rfl | exact .ff _ rfl | exact .tb _ rfl | exact .fb _ rfl | exact .row _ _ _ _ rfl | (refine And.intro ?_ ?_ <;> try conv => whnf)
      all_goals try first | exact sameI (by omega) | exact sameI rfl | (refine sameI ?_; simp only [List.length_append, List.length_cons, List.length_nil]; omega)
    · try dsimp only at hP
      have hfl := flat_len (xs.take i)
      have htl : (xs.take i).length ≤ 1000 := by rw [List.length_take]; omega
      refine hx.next 400 rfl ?_
      conv => whnf
      repeat' first | exact SameX.refl _ | exact trivial | (refine And.intro ?_ ?_ <;> first | (intro hb <;> (try simp only [decide_eq_true_eq, decide_eq_false_iff_not, Bool.not_eq_true', Bool.not_eq_false', Bool.and_eq_true, Bool.or_eq_true, Bool.and_eq_false_iff, Bool.or_eq_false_iff, Bool.not_true, Bool.not_false, reduceCtorEq, Bool.true_and, Bool.and_true, Bool.false_and, Bool.and_false, ne_eq, not_or, not_true_eq_false, not_false_eq_true, false_or, or_false, true_and, and_true, false_and, and_false, Int.natCast_zero, Int.natCast_add, Int.natCast_one, List.length_nil, List.length_cons, List.length_take, List.length_drop, List.length_replicate, List.length_append, List.length_set, Nat.zero_add] at hb) <;> (try (exfalso; omega)) <;> (try conv => whnf)) | (conv => whnf) | skip) | (intro hb <;> (try simp only [decide_eq_true_eq, decide_eq_false_iff_not, Bool.not_eq_true', Bool.not_eq_false', Bool.and_eq_true, Bool.or_eq_true, Bool.and_eq_false_iff, Bool.or_eq_false_iff, Bool.not_true, Bool.not_false, reduceCtorEq, Bool.true_and, Bool.and_true, Bool.false_and, Bool.and_false, ne_eq, not_or, not_true_eq_false, not_false_eq_true, false_or, or_false, true_and, and_true, false_and, and_false, Int.natCast_zero, Int.natCast_add, Int.natCast_one, List.length_nil, List.length_cons, List.length_take, List.length_drop, List.length_replicate, List.length_append, List.length_set, Nat.zero_add] at hb) <;> (try (exfalso; omega)) <;> (try conv => whnf)) | (refine hx.draw 400 (by kernel_rfl) ?_ <;> conv => whnf) | (refine hx.next 400 rfl ?_ <;> conv => whnf)
      all_goals try first | exact ⟨by decide⟩ | exact hin (by omega) | exact ⟨by omega⟩ | exact ⟨⟨by omega, by omega⟩⟩ | exact ⟨by omega, by omega⟩ | (exfalso; omega)
      all_goals try (have hww := wide_eq (xs.getD (i : Int).toNat Ty.devarg.dflt).kind; have hwb := wideN_bd (xs.getD (i : Int).toNat Ty.devarg.dflt).kind; rw [hww])
      all_goals try first | exact ⟨by decide⟩ | exact hin (by omega) | exact ⟨by omega⟩ | exact ⟨⟨by omega, by omega⟩⟩ | exact ⟨by omega, by omega⟩ | (exfalso; omega)
      all_goals try (simp only [toBE_length, List.length_take, List.length_drop, List.length_append, List.length_cons, List.length_nil, List.length_replicate, List.length_set, Ty.bytes, big, Nat.zero_add, Nat.add_zero]; first | exact hin (by omega) | exact ⟨by omega⟩ | exact ⟨⟨by omega, by omega⟩⟩ | exact ⟨by omega, by omega⟩)
      · have hlt : i < xs.length := by omega
        refine ⟨i + 1, by ((try dsimp only); first | trivial | omega | ((repeat' apply And.intro) <;> omega)), by first | omega | ((try dsimp only); (try simp only [List.length_append, List.length_cons, List.length_nil]); omega), StLe.swapU 58 21 (hx.hnp _ (by omega)) (hx.hnp _ (by omega)) rfl rfl ?_⟩
        conv => whnf
        repeat' first | exact trivial | exact .refl _ | exact .nilsl _ | exact .tt _ rfl | exact .ff _ rfl | exact .tb _ rfl | exact .fb _ rfl | exact .row _ _ _ _ rfl | (refine And.intro ?_ ?_ <;> try conv => whnf)
        all_goals try first | exact sameI (by omega) | exact sameI rfl | (refine sameI ?_; simp only [List.length_append, List.length_cons, List.length_nil]; omega)
        refine sameRow ?_
        rw [hww, nat_toNat, nat_toNat, getD_lt hlt] at *
        rw [List.take_succ_eq_append_getElem hlt, List.flatMap_append]
        simp [argB, hb]; exact ⟨rfl, rfl⟩
      · have hlt : i < xs.length := by omega
        refine ⟨i + 1, by ((try dsimp only); first | trivial | omega | ((repeat' apply And.intro) <;> omega)), by first | omega | ((try dsimp only); (try simp only [List.length_append, List.length_cons, List.length_nil]); omega), StLe.swapU 49 21 (hx.hnp _ (by omega)) (hx.hnp _ (by omega)) rfl rfl ?_⟩
        conv => whnf
        repeat' first | exact trivial | exact .refl _ | exact .nilsl _ | exact .tt _ rfl | exact .ff _ rfl | exact .tb _ rfl | exact .fb _ rfl | exact .row _ _ _ _ rfl | (refine And.intro ?_ ?_ <;> try conv => whnf)
        all_goals try first | exact sameI (by omega) | exact sameI rfl | (refine sameI ?_; simp only [List.length_append, List.length_cons, List.length_nil]; omega)
        refine sameRow ?_
        rw [hww, nat_toNat, nat_toNat, getD_lt hlt] at *
        rw [List.take_succ_eq_append_getElem hlt, List.flatMap_append]
        simp [argB, hb]; rfl
      · have : i = xs.length := by omega
        subst this
        rw [List.take_length]
        exact ansS hS (by unfold instB; rw [if_pos (by assumption)])
  · exact hS.elim
end Go.Proofs.Ytdpgdeaefmghiaa.Sx

/- Printed by gen2.py: contracts of functions. -/
namespace Go.Proofs.Ytdpgdeaefmghiaa.Sx
open Go.Proofs
set_option maxRecDepth 20000
set_option maxHeartbeats 4000000
set_option linter.unusedSimpArgs false
set_option linter.unusedVariables false
def frame (body : List UInt8) (n : Nat) : List UInt8 := [83, 116] ++ toBE ((body.length : Int) + 8) 2 ++ toBE n 2 ++ body
def sealB (h : List UInt8) : List UInt8 := h ++ toBE (crcN h : Int) 2
def firstWrong : Nat → List Inst → Option (Int × Int)
  | _, [] => none
  | k, i :: is => if wrongN i = 0 then firstWrong (k + 1) is else some (wrongN i, k)
def makeR (xs : List Inst) : Except (Int × Int) (List UInt8) :=
  if 1000 < xs.length then .error (1, 0) else match firstWrong 0 xs with
    | some e => .error e
    | none => .ok (sealB (frame (xs.flatMap instB) xs.length))
theorem firstWrong_at : ∀ (k : Nat) (xs : List Inst) (j : Nat) (h : j < xs.length), (∀ i ∈ xs.take j, wrongN i = 0) → ¬ wrongN xs[j] = 0 → firstWrong k xs = some (wrongN xs[j], ((k + j : Nat) : Int))
  | k, [], j, h, _, _ => by simp at h
  | k, i :: is, 0, h, _, hn => by simp only [firstWrong, List.getElem_cons_zero] at *; rw [if_neg hn]; rfl
  | k, i :: is, j + 1, h, h0, hn => by
    have hi : wrongN i = 0 := h0 i (by simp)
    simp only [firstWrong, hi, if_true, List.getElem_cons_succ]
    rw [firstWrong_at (k + 1) is j (by simpa using h) (fun i hi => h0 i (by simp [hi])) (by simpa using hn), show k + 1 + j = k + (j + 1) by omega]
theorem firstWrong_none : ∀ (k : Nat) (xs : List Inst), (∀ i ∈ xs, wrongN i = 0) → firstWrong k xs = none
  | k, [], _ => rfl
  | k, i :: is, h => by simp only [firstWrong, h i (by simp), if_true]; exact firstWrong_none (k + 1) is fun i hi => h i (by simp [hi])
theorem instB_len {i : Inst} (h : wrongN i = 0) : (instB i).length ≤ 20 := by
  have ha := arity_bd i.one.op
  have hf := flat_len i.one.args
  unfold instB
  split
  · rename_i hh
    unfold wrongN at h
    split at h
    · omega
    · rw [if_neg (by simp [hh])] at h
      split at h
      · omega
      · rename_i hn
        simp only [not_or, ne_eq] at hn
        simp only [List.length_cons]; omega
  · simp
theorem insts_len : ∀ {xs : List Inst}, (∀ i ∈ xs, wrongN i = 0) → (xs.flatMap instB).length ≤ xs.length * 20
  | [], _ => by simp
  | i :: is, h => by have h1 := instB_len (h i (by simp)); have := insts_len (xs := is) fun i hi => h i (by simp [hi]); simp only [List.flatMap_cons, List.length_append, List.length_cons]; omega
theorem wrong_len {i : Inst} (h : wrongN i = 0) : i.one.args.length ≤ 3 := by
  have ha := arity_bd i.one.op
  unfold wrongN at h
  split at h
  · omega
  · split at h
    · split at h <;> omega
    · split at h
      · omega
      · rename_i hn; simp only [not_or, ne_eq] at hn; omega
theorem wrongN_nn (i : Inst) : 0 ≤ wrongN i := by unfold wrongN; (repeat' split) <;> omega
noncomputable def S_spec_PicMake : Spec := fun args sub K => match args, sub with
  | [.v (.sl .inst xs)], [] => (∀ c a : Int, makeR xs = .error (c, a) → 0 < c → K (.tup [.v .nil, .agg [.int .i64 c, .int .i64 a]]) []) ∧ (∀ d : List UInt8, makeR xs = .ok d → K (.tup [.v (.full 0), .agg [.int .i64 0, .int .i64 0]]) [some (.row eU8 .u8 d)])
  | _, _ => False
theorem S_spec_PicMake_mono : Mono S_spec_PicMake := by
  intro args sub K K' hk h
  unfold S_spec_PicMake at h ⊢
  repeat' first | exact hk _ _ h | exact h.elim | exact ⟨fun hc => hk _ _ (h.1 hc), fun hc => hk _ _ (h.2 hc)⟩ | (refine ⟨h.1, ?_⟩; replace h := h.2) | (intro hc; replace h := h hc) | (refine And.imp ?_ ?_ h <;> clear h <;> intro h) | split at h
noncomputable abbrev E_spec_PicMake : Ent := ⟨nrm [[some .inst]] S_spec_PicMake, true⟩
theorem g_spec_PicMake : Good CA 10 E_spec_PicMake := by
  refine Good.nrm _ (fn_go (ex := 4) (l := [(17, E_spec_PicSum), (30, E_spec_l17Wrong), (31, E_spec_l17Inst), (32, E_spec_l17Num)]) (bor := [52]) CA_td CA_eq CA_mix ⟨g_spec_PicSum, g_spec_l17Wrong, g_spec_l17Inst, g_spec_l17Num, trivial⟩ Try.func10 rfl (by simp [Try.f10]) S_spec_PicMake_mono fun args sub K hS hA hO => ?_)
  unfold S_spec_PicMake at hS
  split at hS
  · rename_i xs
    refine ⟨by simp [Try.f10], fun E hx hnb => ?_⟩
    replace hx : Fx CA (hyOf [(17, E_spec_PicSum), (30, E_spec_l17Wrong), (31, E_spec_l17Inst), (32, E_spec_l17Num)] [52]) 0 57 E := hx
    obtain ⟨hE, hS⟩ := hS
    have hl := lenA hA (xs := xs) (by simp)
    refine hx.next 400 rfl ?_
    conv => whnf
    repeat' first | exact SameX.refl _ | exact trivial | (refine And.intro ?_ ?_ <;> first | (intro hb <;> (try simp only [decide_eq_true_eq, decide_eq_false_iff_not, Bool.not_eq_true', Bool.not_eq_false', Bool.and_eq_true, Bool.or_eq_true, Bool.and_eq_false_iff, Bool.or_eq_false_iff, Bool.not_true, Bool.not_false, reduceCtorEq, Bool.true_and, Bool.and_true, Bool.false_and, Bool.and_false, ne_eq, not_or, not_true_eq_false, not_false_eq_true, false_or, or_false, true_and, and_true, false_and, and_false, Int.natCast_zero, Int.natCast_add, Int.natCast_one, List.length_nil, List.length_cons, List.length_take, List.length_drop, List.length_replicate, List.length_append, List.length_set, Nat.zero_add] at hb) <;> (try (exfalso; omega)) <;> (try conv => whnf)) | (conv => whnf) | skip) | (intro hb <;> (try simp only [decide_eq_true_eq, decide_eq_false_iff_not, Bool.not_eq_true', Bool.not_eq_false', Bool.and_eq_true, Bool.or_eq_true, Bool.and_eq_false_iff, Bool.or_eq_false_iff, Bool.not_true, Bool.not_false, reduceCtorEq, Bool.true_and, Bool.and_true, Bool.false_and, Bool.and_false, ne_eq, not_or, not_true_eq_false, not_false_eq_true, false_or, or_false, true_and, and_true, false_and, and_false, Int.natCast_zero, Int.natCast_add, Int.natCast_one, List.length_nil, List.length_cons, List.length_take, List.length_drop, List.length_replicate, List.length_append, List.length_set, Nat.zero_add] at hb) <;> (try (exfalso; omega)) <;> (try conv => whnf)) | (refine hx.draw 400 (by kernel_rfl) ?_ <;> conv => whnf) | (refine hx.next 400 rfl ?_ <;> conv => whnf)
    all_goals try first | exact ⟨by decide⟩ | exact hin (by omega) | exact ⟨by omega⟩ | exact ⟨⟨by omega, by omega⟩⟩ | exact ⟨by omega, by omega⟩ | (exfalso; omega)
    all_goals try (simp only [List.length_take, List.length_drop, List.length_append, List.length_cons, List.length_nil, List.length_replicate, List.length_set, Ty.bytes, big, Nat.zero_add, Nat.add_zero]; first | exact hin (by omega) | exact ⟨by omega⟩ | exact ⟨⟨by omega, by omega⟩⟩ | exact ⟨by omega, by omega⟩)
    · exact hE 1 0 (if_pos (by omega)) (by omega)
    refine Safe.loopUP (Y := Nat) (fun i => [(2, .v .any), (4, .v (.full 12)), (5, N64 (i : Int)), (6, .v .any), (12, A), (13, .v .any), (14, .v .any), (15, .v .any), (16, .v .any), (17, .v .any), (18, .v .any), (19, .v .any), (20, .v .any), (21, .v .any), (22, .v .any), (23, .v .any), (24, .v .any), (25, .v .any), (26, .v .any), (27, .v .any), (28, .v .any), (29, .v .any), (30, .v .any), (31, .v .any), (32, .v .any), (33, .v .any), (34, .v .any), (35, .v .any)]) (fun i => [(2, none), (4, none), (5, none), (6, none), (12, some (.row eU8 .u8 ((xs.take i).flatMap instB))), (13, none), (14, none), (15, none), (16, none), (17, none), (18, none), (19, none), (20, none), (21, none), (22, none), (23, none), (24, none), (25, none), (26, none), (27, none), (28, none), (29, none), (30, none), (31, none), (32, none), (33, none), (34, none), (35, none)]) (fun i => i ≤ xs.length ∧ (∀ x ∈ xs.take i, wrongN x = 0)) (fun i => xs.length - i) (0) ?_ (StLe.upd ?_) fun i hP => ?_
    · exact ⟨by omega, by simp⟩
    · conv => whnf
      repeat' first | exact trivial | exact .refl _ | exact .nilsl _ | exact .tt _ rfl | exact .ff _ rfl | exact .tb _ rfl | exact .fb _ rfl | exact .row _ _ _ _ rfl | (refine And.intro ?_ ?_ <;> try conv => whnf)
      all_goals try first | exact sameI (by omega) | exact sameI rfl | (refine sameI ?_; simp only [List.length_append, List.length_cons, List.length_nil]; omega)
    · try dsimp only at hP
      obtain ⟨q1, q2⟩ := hP
      have hil := insts_len q2
      have htl : (xs.take i).length ≤ 1000 := by rw [List.length_take]; omega
      have hx0 : ∀ h : i < xs.length, xs.getD (i : Int).toNat Ty.inst.dflt = xs[i] := fun h => by rw [nat_toNat, getD_lt h]
      have hnn := wrongN_nn (xs.getD (i : Int).toNat Ty.inst.dflt)
      refine hx.next 400 rfl ?_
      conv => whnf
      repeat' first | exact SameX.refl _ | exact trivial | (refine And.intro ?_ ?_ <;> first | (intro hb <;> (try simp only [decide_eq_true_eq, decide_eq_false_iff_not, Bool.not_eq_true', Bool.not_eq_false', Bool.and_eq_true, Bool.or_eq_true, Bool.and_eq_false_iff, Bool.or_eq_false_iff, Bool.not_true, Bool.not_false, reduceCtorEq, Bool.true_and, Bool.and_true, Bool.false_and, Bool.and_false, ne_eq, not_or, not_true_eq_false, not_false_eq_true, false_or, or_false, true_and, and_true, false_and, and_false, Int.natCast_zero, Int.natCast_add, Int.natCast_one, List.length_nil, List.length_cons, List.length_take, List.length_drop, List.length_replicate, List.length_append, List.length_set, Nat.zero_add] at hb) <;> (try (exfalso; omega)) <;> (try conv => whnf)) | (conv => whnf) | skip) | (intro hb <;> (try simp only [decide_eq_true_eq, decide_eq_false_iff_not, Bool.not_eq_true', Bool.not_eq_false', Bool.and_eq_true, Bool.or_eq_true, Bool.and_eq_false_iff, Bool.or_eq_false_iff, Bool.not_true, Bool.not_false, reduceCtorEq, Bool.true_and, Bool.and_true, Bool.false_and, Bool.and_false, ne_eq, not_or, not_true_eq_false, not_false_eq_true, false_or, or_false, true_and, and_true, false_and, and_false, Int.natCast_zero, Int.natCast_add, Int.natCast_one, List.length_nil, List.length_cons, List.length_take, List.length_drop, List.length_replicate, List.length_append, List.length_set, Nat.zero_add] at hb) <;> (try (exfalso; omega)) <;> (try conv => whnf)) | (refine hx.draw 400 (by kernel_rfl) ?_ <;> conv => whnf) | (refine hx.next 400 rfl ?_ <;> conv => whnf)
      all_goals try first | exact ⟨by decide⟩ | exact hin (by omega) | exact ⟨by omega⟩ | exact ⟨⟨by omega, by omega⟩⟩ | exact ⟨by omega, by omega⟩ | (exfalso; omega)
      all_goals try (simp only [toBE_length, List.length_take, List.length_drop, List.length_append, List.length_cons, List.length_nil, List.length_replicate, List.length_set, Ty.bytes, big, Nat.zero_add, Nat.add_zero]; first | exact hin (by omega) | exact ⟨by omega⟩ | exact ⟨⟨by omega, by omega⟩⟩ | exact ⟨by omega, by omega⟩)
      · have hlt : i < xs.length := by omega
        have hb' : 0 < wrongN (xs.getD (i : Int).toNat Ty.inst.dflt) := hb
        refine hE (wrongN (xs.getD (i : Int).toNat Ty.inst.dflt)) i ?_ hb'
        rw [hx0 hlt] at hb' ⊢
        unfold makeR
        rw [if_neg (by omega), firstWrong_at 0 xs i hlt q2 (by omega), Nat.zero_add]
      · have hb' : ¬ 0 < wrongN (xs.getD (i : Int).toNat Ty.inst.dflt) := hb
        have := wrong_len (i := xs.getD (i : Int).toNat Ty.inst.dflt) (by omega)
        exact ⟨by omega⟩
      · have hb' : ¬ 0 < wrongN (xs.getD (i : Int).toNat Ty.inst.dflt) := hb
        have := instB_len (i := xs.getD (i : Int).toNat Ty.inst.dflt) (by omega)
        exact ⟨by show ((List.flatMap instB (List.take i xs)).length + (instB (xs.getD (i : Int).toNat Ty.inst.dflt)).length) * 1 ≤ 140737488355328; omega⟩
      · have hlt : i < xs.length := by omega
        have hb' : ¬ 0 < wrongN (xs.getD (i : Int).toNat Ty.inst.dflt) := hb
        refine ⟨i + 1, ?_, by first | omega | ((try dsimp only); (try simp only [List.length_append, List.length_cons, List.length_nil]); omega), StLe.swapU 35 12 (hx.hnp _ (by omega)) (hx.hnp _ (by omega)) rfl rfl ?_⟩
        · refine ⟨by omega, fun x hx => ?_⟩
          rw [List.take_succ_eq_append_getElem hlt, List.mem_append] at hx
          rcases hx with hx | hx
          · exact q2 x hx
          · simp only [List.mem_cons, List.not_mem_nil, or_false] at hx
            rw [hx, ← hx0 hlt]; omega
        conv => whnf
        repeat' first | exact trivial | exact .refl _ | exact .nilsl _ | exact .tt _ rfl | exact .ff _ rfl | exact .tb _ rfl | exact .fb _ rfl | exact .row _ _ _ _ rfl | (refine And.intro ?_ ?_ <;> try conv => whnf)
        all_goals try first | exact sameI (by omega) | exact sameI rfl | (refine sameI ?_; simp only [List.length_append, List.length_cons, List.length_nil]; omega)
        refine sameRow ?_
        rw [List.take_succ_eq_append_getElem hlt, List.flatMap_append, ← hx0 hlt]
        simp
      · have : i = xs.length := by omega
        subst this
        rw [List.take_length] at *
        refine hS _ ?_
        unfold makeR
        rw [if_neg (by omega), firstWrong_none 0 xs q2]
        rfl
  · exact hS.elim
end Go.Proofs.Ytdpgdeaefmghiaa.Sx

/- Printed by gen2.py: contracts of functions. -/
namespace Go.Proofs.Ytdpgdeaefmghiaa.Sx
open Go.Proofs
set_option maxRecDepth 20000
set_option maxHeartbeats 4000000
set_option linter.unusedSimpArgs false
set_option linter.unusedVariables false
theorem makeR_len {xs : List Inst} {d : List UInt8} (h : makeR xs = .ok d) : 8 ≤ d.length ∧ d.length ≤ 20008 := by
  unfold makeR at h
  split at h
  · cases h
  · rename_i hl
    split at h
    · cases h
    · rename_i hw
      injection h with h; subst h
      have h0 : ∀ (k : Nat) (l : List Inst), firstWrong k l = none → ∀ i ∈ l, wrongN i = 0 := by
        intro k l
        induction l generalizing k with
        | nil => simp
        | cons i l ih =>
          intro h x hx
          simp only [firstWrong] at h
          split at h
          · rename_i hi
            simp only [List.mem_cons] at hx
            rcases hx with rfl | hx
            · exact hi
            · exact ih _ h x hx
          · cases h
      have := insts_len (h0 0 xs hw)
      simp only [sealB, frame, List.length_append, List.length_cons, List.length_nil, toBE_length]
      omega
theorem makeR_nil {e : Int × Int} (h : makeR [] = .error e) : False := by simp [makeR, firstWrong] at h
noncomputable def S_spec_l17Image : Spec := fun args sub K => match args, sub with
  | [.v (.ptr 0 0)], [some (.box [.sl .u8 b, .int .i64 p])] => Hold (0 ≤ p ∧ p + 890000000 ≤ 1000000000 ∧ b.length ≤ 2000) ∧ ∀ (d : List UInt8) (p' : Int), (p ≤ p' ∧ p' ≤ p + 890000000 ∧ 8 ≤ d.length ∧ d.length ≤ 20008) → K (.v (.full 1)) [some (.box [.sl .u8 b, .int .i64 p']), some (.row eU8 .u8 d)]
  | _, _ => False
theorem S_spec_l17Image_mono : Mono S_spec_l17Image := by
  intro args sub K K' hk h
  unfold S_spec_l17Image at h ⊢
  repeat' first | exact hk _ _ h | exact h.elim | exact ⟨fun hc => hk _ _ (h.1 hc), fun hc => hk _ _ (h.2 hc)⟩ | (refine ⟨h.1, ?_⟩; replace h := h.2) | (intro hc; replace h := h hc) | (refine And.imp ?_ ?_ h <;> clear h <;> intro h) | split at h
noncomputable abbrev E_spec_l17Image : Ent := ⟨nrm [[none]] S_spec_l17Image, true⟩
theorem g_spec_l17Image : Good CA 13 E_spec_l17Image := by
  refine Good.nrm _ (fn_go (ex := 4) (l := [(10, E_spec_PicMake), (24, E_spec_l17List)]) (bor := []) CA_td CA_eq CA_mix ⟨g_spec_PicMake, g_spec_l17List, trivial⟩ Try.func13 rfl (by simp [Try.f13]) S_spec_l17Image_mono fun args sub K hS hA hO => ?_)
  unfold S_spec_l17Image at hS
  split at hS
  · rename_i b p
    refine ⟨by simp [Try.f13], fun E hx hnb => ?_⟩
    replace hx : Fx CA (hyOf [(10, E_spec_PicMake), (24, E_spec_l17List)] []) 1 28 E := hx
    obtain ⟨⟨hp⟩, hS⟩ := hS
    refine hx.next 400 rfl ?_
    conv => whnf
    repeat' first | exact SameX.refl _ | exact trivial | (refine And.intro ?_ ?_ <;> first | (intro hb <;> (try simp only [decide_eq_true_eq, decide_eq_false_iff_not, Bool.not_eq_true', Bool.not_eq_false', Bool.and_eq_true, Bool.or_eq_true, Bool.and_eq_false_iff, Bool.or_eq_false_iff, Bool.not_true, Bool.not_false, reduceCtorEq, Bool.true_and, Bool.and_true, Bool.false_and, Bool.and_false, ne_eq, not_or, not_true_eq_false, not_false_eq_true, false_or, or_false, true_and, and_true, false_and, and_false, Int.natCast_zero, Int.natCast_add, Int.natCast_one, List.length_nil, List.length_cons, List.length_take, List.length_drop, List.length_replicate, List.length_append, List.length_set, Nat.zero_add] at hb) <;> (try (exfalso; omega)) <;> (try conv => whnf)) | (conv => whnf) | skip) | (intro hb <;> (try simp only [decide_eq_true_eq, decide_eq_false_iff_not, Bool.not_eq_true', Bool.not_eq_false', Bool.and_eq_true, Bool.or_eq_true, Bool.and_eq_false_iff, Bool.or_eq_false_iff, Bool.not_true, Bool.not_false, reduceCtorEq, Bool.true_and, Bool.and_true, Bool.false_and, Bool.and_false, ne_eq, not_or, not_true_eq_false, not_false_eq_true, false_or, or_false, true_and, and_true, false_and, and_false, Int.natCast_zero, Int.natCast_add, Int.natCast_one, List.length_nil, List.length_cons, List.length_take, List.length_drop, List.length_replicate, List.length_append, List.length_set, Nat.zero_add] at hb) <;> (try (exfalso; omega)) <;> (try conv => whnf)) | (refine hx.draw 400 (by kernel_rfl) ?_ <;> conv => whnf) | (refine hx.next 400 rfl ?_ <;> conv => whnf)
    all_goals try first | exact ⟨by decide⟩ | exact hin (by omega) | exact ⟨by omega⟩ | exact ⟨⟨by omega, by omega⟩⟩ | exact ⟨by omega, by omega⟩ | (exfalso; omega)
    refine Safe.loopUP (Y := Nat × Int) (fun y => [(2, .v .any), (3, N64 (y.1 : Int)), (4, .v .any), (5, .v .any), (8, .v .any), (9, .v .any), (10, .v .any), (11, .v .any), (12, .v .any), (13, .v .any), (14, .v .any), (15, .v .any), (16, .v .any), (17, .v .any), (18, .v .any), (19, .v .any), (20, .v .any), (21, .v .any)]) (fun y => [(0, some (.box [.sl .u8 b, .int .i64 y.2])), (3, none), (4, none), (5, none), (6, none), (9, none), (10, none), (11, none), (12, none), (13, none), (14, none), (15, none), (16, none), (17, none), (18, none), (19, none), (20, none), (21, none), (22, none)]) (fun y => y.1 ≤ 4 ∧ p ≤ y.2 ∧ y.2 ≤ p + 220000000 * (y.1 : Int)) (fun y => 4 - y.1) ((0, p)) ?_ (StLe.upd ?_) fun y hP => ?_
    · first | trivial | ((try dsimp only); first | trivial | omega | ((repeat' apply And.intro) <;> omega) | (simp; done))
    · conv => whnf
      repeat' first | exact trivial | exact .refl _ | exact .nilsl _ | exact .tt _ rfl | exact .ff _ rfl | exact .tb _ rfl | exact .fb _ rfl | exact .row _ _ _ _ rfl | (refine And.intro ?_ ?_ <;> try conv => whnf)
      all_goals try first | exact sameI (by omega) | exact sameI rfl | (refine sameI ?_; simp only [List.length_append, List.length_cons, List.length_nil]; omega)
    · try dsimp only at hP
      refine hx.next 400 rfl ?_
      conv => whnf
      repeat' first | exact SameX.refl _ | exact trivial | (refine And.intro ?_ ?_ <;> first | (intro hb <;> (try simp only [decide_eq_true_eq, decide_eq_false_iff_not, Bool.not_eq_true', Bool.not_eq_false', Bool.and_eq_true, Bool.or_eq_true, Bool.and_eq_false_iff, Bool.or_eq_false_iff, Bool.not_true, Bool.not_false, reduceCtorEq, Bool.true_and, Bool.and_true, Bool.false_and, Bool.and_false, ne_eq, not_or, not_true_eq_false, not_false_eq_true, false_or, or_false, true_and, and_true, false_and, and_false, Int.natCast_zero, Int.natCast_add, Int.natCast_one, List.length_nil, List.length_cons, List.length_take, List.length_drop, List.length_replicate, List.length_append, List.length_set, Nat.zero_add] at hb) <;> (try (exfalso; omega)) <;> (try conv => whnf)) | (conv => whnf) | skip) | (intro hb <;> (try simp only [decide_eq_true_eq, decide_eq_false_iff_not, Bool.not_eq_true', Bool.not_eq_false', Bool.and_eq_true, Bool.or_eq_true, Bool.and_eq_false_iff, Bool.or_eq_false_iff, Bool.not_true, Bool.not_false, reduceCtorEq, Bool.true_and, Bool.and_true, Bool.false_and, Bool.and_false, ne_eq, not_or, not_true_eq_false, not_false_eq_true, false_or, or_false, true_and, and_true, false_and, and_false, Int.natCast_zero, Int.natCast_add, Int.natCast_one, List.length_nil, List.length_cons, List.length_take, List.length_drop, List.length_replicate, List.length_append, List.length_set, Nat.zero_add] at hb) <;> (try (exfalso; omega)) <;> (try conv => whnf)) | (refine hx.draw 400 (by kernel_rfl) ?_ <;> conv => whnf) | (refine hx.next 400 rfl ?_ <;> conv => whnf)
      all_goals try first | exact ⟨by decide⟩ | exact hin (by omega) | exact ⟨by omega⟩ | exact ⟨⟨by omega, by omega⟩⟩ | exact ⟨by omega, by omega⟩ | (exfalso; omega)
      · rename_i _ _ p2 _ _ _ _ _
        refine ⟨(y.1 + 1, p2), by ((try dsimp only); first | trivial | omega | ((repeat' apply And.intro) <;> omega)), by first | omega | ((try dsimp only); (try simp only [List.length_append, List.length_cons, List.length_nil]); omega), StLe.upd ?_⟩
        conv => whnf
        repeat' first | exact trivial | exact .refl _ | exact .nilsl _ | exact .tt _ rfl | exact .ff _ rfl | exact .tb _ rfl | exact .fb _ rfl | exact .row _ _ _ _ rfl | (refine And.intro ?_ ?_ <;> try conv => whnf)
        all_goals try first | exact sameI (by omega) | exact sameI rfl | (refine sameI ?_; simp only [List.length_append, List.length_cons, List.length_nil]; omega)
      · rename_i _ _ p2 _ d hd
        have hm := makeR_len hd
        exact hS _ _ ⟨by omega, by omega, by omega, by omega⟩
      · exfalso; rename_i h _; exact makeR_nil h
      · rename_i _ p2 _ d hd
        have hm := makeR_len hd
        exact hS _ _ ⟨by omega, by omega, by omega, by omega⟩
      · exfalso; rename_i h; exact makeR_nil h
      · rename_i d
        have hm := makeR_len hb
        exact hS _ _ ⟨by omega, by omega, by omega, by omega⟩
  · exact hS.elim
noncomputable def S_spec_l17Mend : Spec := fun args sub K => match args, sub with
  | [.v (.full 0)], [some (.row e .u8 d)] => Hold (e = eU8) ∧ Hold (d.length ≤ 100000) ∧ ∀ d' : List UInt8, d'.length = d.length → K (.v (.full 1)) [none, some (.row eU8 .u8 d')]
  | _, _ => False
theorem S_spec_l17Mend_mono : Mono S_spec_l17Mend := by
  intro args sub K K' hk h
  unfold S_spec_l17Mend at h ⊢
  repeat' first | exact hk _ _ h | exact h.elim | exact ⟨fun hc => hk _ _ (h.1 hc), fun hc => hk _ _ (h.2 hc)⟩ | (refine ⟨h.1, ?_⟩; replace h := h.2) | (intro hc; replace h := h hc) | (refine And.imp ?_ ?_ h <;> clear h <;> intro h) | split at h
noncomputable abbrev E_spec_l17Mend : Ent := ⟨nrm [[some .u8]] S_spec_l17Mend, true⟩
theorem g_spec_l17Mend : Good CA 36 E_spec_l17Mend := by
  refine Good.nrm _ (fn_go (ex := 4) (l := [(17, E_spec_PicSum), (32, E_spec_l17Num)]) (bor := [22]) CA_td CA_eq CA_mix ⟨g_spec_PicSum, g_spec_l17Num, trivial⟩ Try.func36 rfl (by simp [Try.f36]) S_spec_l17Mend_mono fun args sub K hS hA hO => ?_)
  unfold S_spec_l17Mend at hS
  split at hS
  · rename_i e d
    refine ⟨by simp [Try.f36], fun E hx hnb => ?_⟩
    replace hx : Fx CA (hyOf [(17, E_spec_PicSum), (32, E_spec_l17Num)] [22]) 1 27 E := hx
    obtain ⟨⟨he⟩, ⟨hl⟩, hS⟩ := hS
    subst he
    refine Safe.swapK 0 27 (hnb _ rfl) (hx.hnp _ (by omega)) rfl rfl ?_
    conv => whnf
    refine hx.next 400 rfl ?_
    conv => whnf
    repeat' first | exact SameX.refl _ | exact trivial | (refine And.intro ?_ ?_ <;> first | (intro hb <;> (try simp only [decide_eq_true_eq, decide_eq_false_iff_not, Bool.not_eq_true', Bool.not_eq_false', Bool.and_eq_true, Bool.or_eq_true, Bool.and_eq_false_iff, Bool.or_eq_false_iff, Bool.not_true, Bool.not_false, reduceCtorEq, Bool.true_and, Bool.and_true, Bool.false_and, Bool.and_false, ne_eq, not_or, not_true_eq_false, not_false_eq_true, false_or, or_false, true_and, and_true, false_and, and_false, Int.natCast_zero, Int.natCast_add, Int.natCast_one, List.length_nil, List.length_cons, List.length_take, List.length_drop, List.length_replicate, List.length_append, List.length_set, Nat.zero_add] at hb) <;> (try (exfalso; omega)) <;> (try conv => whnf)) | (conv => whnf) | skip) | (intro hb <;> (try simp only [decide_eq_true_eq, decide_eq_false_iff_not, Bool.not_eq_true', Bool.not_eq_false', Bool.and_eq_true, Bool.or_eq_true, Bool.and_eq_false_iff, Bool.or_eq_false_iff, Bool.not_true, Bool.not_false, reduceCtorEq, Bool.true_and, Bool.and_true, Bool.false_and, Bool.and_false, ne_eq, not_or, not_true_eq_false, not_false_eq_true, false_or, or_false, true_and, and_true, false_and, and_false, Int.natCast_zero, Int.natCast_add, Int.natCast_one, List.length_nil, List.length_cons, List.length_take, List.length_drop, List.length_replicate, List.length_append, List.length_set, Nat.zero_add] at hb) <;> (try (exfalso; omega)) <;> (try conv => whnf)) | (refine hx.draw 400 (by kernel_rfl) ?_ <;> conv => whnf) | (refine hx.next 400 rfl ?_ <;> conv => whnf)
    all_goals try first | exact ⟨by decide⟩ | exact hin (by omega) | exact ⟨by omega⟩ | exact ⟨⟨by omega, by omega⟩⟩ | exact ⟨by omega, by omega⟩ | (exfalso; omega)
    all_goals try (simp only [toBE_length, List.length_take, List.length_drop, List.length_append, List.length_cons, List.length_nil, List.length_replicate, List.length_set, Ty.bytes, big, Nat.zero_add, Nat.add_zero]; first | exact hin (by omega) | exact ⟨by omega⟩ | exact ⟨⟨by omega, by omega⟩⟩ | exact ⟨by omega, by omega⟩)
    · exact hS _ rfl
    · refine hS _ ?_
      simp only [List.length_append, List.length_cons, List.length_replicate, List.length_take, List.length_drop, toBE_length]
      omega
  · exact hS.elim
end Go.Proofs.Ytdpgdeaefmghiaa.Sx

/- Printed by gen2.py: contracts of functions. -/
namespace Go.Proofs.Ytdpgdeaefmghiaa.Sx
open Go.Proofs
set_option maxRecDepth 20000
set_option maxHeartbeats 4000000
set_option linter.unusedSimpArgs false
set_option linter.unusedVariables false
noncomputable def S_spec_l17Spoil : Spec := fun args sub K => match args, sub with
  | [.v (.ptr 0 0), .v (.full 1)], [some (.box [.sl .u8 b, .int .i64 p]), some (.row e .u8 d)] => Hold (0 ≤ p ∧ p + 100 ≤ 1000000000 ∧ b.length ≤ 2000 ∧ 8 ≤ d.length ∧ d.length ≤ 20008) ∧ Hold (e = eU8) ∧ (∀ (d' : List UInt8) (p' : Int), (p ≤ p' ∧ p' ≤ p + 100 ∧ d'.length ≤ 30000) → K (.v (.full 2)) [some (.box [.sl .u8 b, .int .i64 p']), none, some (.row eU8 .u8 d')]) ∧ (∀ (d' : List UInt8) (p' : Int) (n : Nat), (p ≤ p' ∧ p' ≤ p + 100 ∧ d'.length ≤ 30000 ∧ n ≤ d'.length) → K (.v (.own 2 0 n)) [some (.box [.sl .u8 b, .int .i64 p']), none, some (.row eU8 .u8 d')])
  | _, _ => False
theorem S_spec_l17Spoil_mono : Mono S_spec_l17Spoil := by
  intro args sub K K' hk h
  unfold S_spec_l17Spoil at h ⊢
  repeat' first | exact hk _ _ h | exact h.elim | exact ⟨fun hc => hk _ _ (h.1 hc), fun hc => hk _ _ (h.2 hc)⟩ | (refine ⟨h.1, ?_⟩; replace h := h.2) | (intro hc; replace h := h hc) | (refine And.imp ?_ ?_ h <;> clear h <;> intro h) | split at h
noncomputable abbrev E_spec_l17Spoil : Ent := ⟨nrm [[none], [some .u8]] S_spec_l17Spoil, true⟩
theorem g_spec_l17Spoil : Good CA 15 E_spec_l17Spoil := by
  refine Good.nrm _ (fn_go (ex := 4) (l := [(14, E_p_spec_l26Rd_pick), (36, E_spec_l17Mend)]) (bor := []) CA_td CA_eq CA_mix ⟨g_p_spec_l26Rd_pick, g_spec_l17Mend, trivial⟩ Try.func15 rfl (by simp [Try.f15]) S_spec_l17Spoil_mono fun args sub K hS hA hO => ?_)
  unfold S_spec_l17Spoil at hS
  split at hS
  · rename_i b p e d
    refine ⟨by simp [Try.f15], fun E hx hnb => ?_⟩
    replace hx : Fx CA (hyOf [(14, E_p_spec_l26Rd_pick), (36, E_spec_l17Mend)] []) 2 87 E := hx
    obtain ⟨⟨hp⟩, ⟨he⟩, hS, hN⟩ := hS
    subst he
    refine Safe.swapK 1 87 (hnb _ rfl) (hx.hnp _ (by omega)) rfl rfl ?_
    conv => whnf
    refine hx.next 400 rfl ?_
    conv => whnf
    repeat' first | exact SameX.refl _ | exact trivial | (refine And.intro ?_ ?_ <;> first | (intro hb <;> (try simp only [decide_eq_true_eq, decide_eq_false_iff_not, Bool.not_eq_true', Bool.not_eq_false', Bool.and_eq_true, Bool.or_eq_true, Bool.and_eq_false_iff, Bool.or_eq_false_iff, Bool.not_true, Bool.not_false, reduceCtorEq, Bool.true_and, Bool.and_true, Bool.false_and, Bool.and_false, ne_eq, not_or, not_true_eq_false, not_false_eq_true, false_or, or_false, true_and, and_true, false_and, and_false, Int.natCast_zero, Int.natCast_add, Int.natCast_one, List.length_nil, List.length_cons, List.length_take, List.length_drop, List.length_replicate, List.length_append, List.length_set, Nat.zero_add] at hb) <;> (try (exfalso; omega)) <;> (try conv => whnf)) | (conv => whnf) | skip) | (intro hb <;> (try simp only [decide_eq_true_eq, decide_eq_false_iff_not, Bool.not_eq_true', Bool.not_eq_false', Bool.and_eq_true, Bool.or_eq_true, Bool.and_eq_false_iff, Bool.or_eq_false_iff, Bool.not_true, Bool.not_false, reduceCtorEq, Bool.true_and, Bool.and_true, Bool.false_and, Bool.and_false, ne_eq, not_or, not_true_eq_false, not_false_eq_true, false_or, or_false, true_and, and_true, false_and, and_false, Int.natCast_zero, Int.natCast_add, Int.natCast_one, List.length_nil, List.length_cons, List.length_take, List.length_drop, List.length_replicate, List.length_append, List.length_set, Nat.zero_add] at hb) <;> (try (exfalso; omega)) <;> (try conv => whnf)) | (refine hx.draw 400 (by kernel_rfl) ?_ <;> conv => whnf) | (refine hx.next 400 rfl ?_ <;> conv => whnf)
    all_goals try first | exact ⟨by decide⟩ | exact hin (by omega) | exact ⟨by omega⟩ | exact ⟨⟨by omega, by omega⟩⟩ | exact ⟨by omega, by omega⟩ | (exfalso; omega)
    all_goals try (simp only [List.length_take, List.length_drop, List.length_append, List.length_cons, List.length_nil, List.length_replicate, List.length_set, Ty.bytes, big, Nat.zero_add, Nat.add_zero]; first | exact hin (by omega) | exact ⟨by omega⟩ | exact ⟨⟨by omega, by omega⟩⟩ | exact ⟨by omega, by omega⟩)
    all_goals try (simp only [List.length_set]; first | exact ⟨by omega⟩ | exact ⟨by omega, by omega⟩)
    all_goals try (simp only [List.length_take, List.length_drop, List.length_append, List.length_cons, List.length_nil, List.length_replicate, List.length_set, Ty.bytes, big, Nat.zero_add, Nat.add_zero]; first | exact hin (by omega) | exact ⟨by omega⟩ | exact ⟨⟨by omega, by omega⟩⟩ | exact ⟨by omega, by omega⟩)
    all_goals (have hu := u8lt (List.replicate 0 Ty.u8.dflt ++ d) (0 + Int.toNat 5))
    all_goals try first | exact ⟨by decide⟩ | exact hin (by omega) | exact ⟨by omega⟩ | exact ⟨⟨by omega, by omega⟩⟩ | exact ⟨by omega, by omega⟩ | (exfalso; omega)
    all_goals first
      | exact hS _ _ ⟨by omega, by omega, (by (try simp only [List.length_cons, List.length_replicate, List.length_take, List.length_drop, List.length_append, List.length_set, List.length_nil]); omega)⟩
      | exact hN _ _ _ ⟨by omega, by omega, (by (try simp only [List.length_cons, List.length_replicate, List.length_take, List.length_drop, List.length_append, List.length_set, List.length_nil]); omega), (by (try simp only [List.length_cons, List.length_replicate, List.length_take, List.length_drop, List.length_append, List.length_set, List.length_nil]); omega)⟩
  · exact hS.elim
noncomputable def S_spec_DrawPicRead : Spec := fun args sub K => match args, sub with
  | [.v (.sl .u8 code)], [] => (∀ d : List UInt8, d.length ≤ 30000 → K (.v (.full 0)) [some (.row eU8 .u8 d)]) ∧ (∀ (d : List UInt8) (n : Nat), (d.length ≤ 30000 ∧ n ≤ d.length) → K (.v (.own 0 0 n)) [some (.row eU8 .u8 d)])
  | _, _ => False
theorem S_spec_DrawPicRead_mono : Mono S_spec_DrawPicRead := by
  intro args sub K K' hk h
  unfold S_spec_DrawPicRead at h ⊢
  repeat' first | exact hk _ _ h | exact h.elim | exact ⟨fun hc => hk _ _ (h.1 hc), fun hc => hk _ _ (h.2 hc)⟩ | (refine ⟨h.1, ?_⟩; replace h := h.2) | (intro hc; replace h := h hc) | (refine And.imp ?_ ?_ h <;> clear h <;> intro h) | split at h
noncomputable abbrev E_spec_DrawPicRead : Ent := ⟨nrm [[some .u8]] S_spec_DrawPicRead, true⟩
theorem g_spec_DrawPicRead : Good CA 5 E_spec_DrawPicRead := by
  refine Good.nrm _ (fn_go (ex := 4) (l := [(12, E_spec_l26Open), (13, E_spec_l17Image), (14, E_p_spec_l26Rd_pick), (15, E_spec_l17Spoil)]) (bor := []) CA_td CA_eq CA_mix ⟨g_spec_l26Open, g_spec_l17Image, g_p_spec_l26Rd_pick, g_spec_l17Spoil, trivial⟩ Try.func5 rfl (by simp [Try.f5]) S_spec_DrawPicRead_mono fun args sub K hS hA hO => ?_)
  unfold S_spec_DrawPicRead at hS
  split at hS
  · rename_i code
    refine ⟨by simp [Try.f5], fun E hx hnb => ?_⟩
    replace hx : Fx CA (hyOf [(12, E_spec_l26Open), (13, E_spec_l17Image), (14, E_p_spec_l26Rd_pick), (15, E_spec_l17Spoil)] []) 0 16 E := hx
    obtain ⟨hS, hN⟩ := hS
    refine hx.next 400 rfl ?_
    conv => whnf
    repeat' first | exact SameX.refl _ | exact trivial | (refine And.intro ?_ ?_ <;> first | (intro hb <;> (try simp only [decide_eq_true_eq, decide_eq_false_iff_not, Bool.not_eq_true', Bool.not_eq_false', Bool.and_eq_true, Bool.or_eq_true, Bool.and_eq_false_iff, Bool.or_eq_false_iff, Bool.not_true, Bool.not_false, reduceCtorEq, Bool.true_and, Bool.and_true, Bool.false_and, Bool.and_false, ne_eq, not_or, not_true_eq_false, not_false_eq_true, false_or, or_false, true_and, and_true, false_and, and_false, Int.natCast_zero, Int.natCast_add, Int.natCast_one, List.length_nil, List.length_cons, List.length_take, List.length_drop, List.length_replicate, List.length_append, List.length_set, Nat.zero_add] at hb) <;> (try (exfalso; omega)) <;> (try conv => whnf)) | (conv => whnf) | skip) | (intro hb <;> (try simp only [decide_eq_true_eq, decide_eq_false_iff_not, Bool.not_eq_true', Bool.not_eq_false', Bool.and_eq_true, Bool.or_eq_true, Bool.and_eq_false_iff, Bool.or_eq_false_iff, Bool.not_true, Bool.not_false, reduceCtorEq, Bool.true_and, Bool.and_true, Bool.false_and, Bool.and_false, ne_eq, not_or, not_true_eq_false, not_false_eq_true, false_or, or_false, true_and, and_true, false_and, and_false, Int.natCast_zero, Int.natCast_add, Int.natCast_one, List.length_nil, List.length_cons, List.length_take, List.length_drop, List.length_replicate, List.length_append, List.length_set, Nat.zero_add] at hb) <;> (try (exfalso; omega)) <;> (try conv => whnf)) | (refine hx.draw 400 (by kernel_rfl) ?_ <;> conv => whnf) | (refine hx.next 400 rfl ?_ <;> conv => whnf)
    all_goals try first | exact ⟨by decide⟩ | exact hin (by omega) | exact ⟨by omega⟩ | exact ⟨⟨by omega, by omega⟩⟩ | exact ⟨by omega, by omega⟩ | (exfalso; omega)
    all_goals try (simp only [List.length_take]; exact ⟨by omega, by omega, by omega⟩)
    all_goals first
      | exact hS _ (by omega)
      | exact hN _ _ ⟨by omega, by omega⟩
  · exact hS.elim
end Go.Proofs.Ytdpgdeaefmghiaa.Sx

/- Printed by gen2.py: contracts of functions. -/
namespace Go.Proofs.Ytdpgdeaefmghiaa.Sx
open Go.Proofs
set_option maxRecDepth 20000
set_option maxHeartbeats 4000000
set_option linter.unusedSimpArgs false
set_option linter.unusedVariables false
noncomputable def S_p_impl_picReader_inst : Spec := fun args sub K => match args, sub with
  | [.v (.ptr 0 0)], [some (.box [.sl .u8 b, .int .i64 z])] => Hold (z = 0) ∧ (∀ (k n e : Int) (b' : List UInt8), instR b = .error e → 0 < e → K (.agg [.int .i64 k, .int .i64 n, .nil]) [some (.box [.sl .u8 b', .int .i64 e])]) ∧ (∀ (k n e : Int) (l : List DevArg) (b' : List UInt8), instR b = .error e → 0 < e → K (.agg [.int .i64 k, .int .i64 n, .sl .devarg l]) [some (.box [.sl .u8 b', .int .i64 e])]) ∧ (∀ (i : Inst) (b' : List UInt8), instR b = .ok (i, b') → (hasOne i.code = false → K (.agg [.int .i64 i.code, .int .i64 0, .nil]) [some (.box [.sl .u8 b', .int .i64 0])]) ∧ (hasOne i.code = true → K (.agg [.int .i64 i.code, .int .i64 i.one.op, .sl .devarg i.one.args]) [some (.box [.sl .u8 b', .int .i64 0])]))
  | _, _ => False
theorem S_p_impl_picReader_inst_mono : Mono S_p_impl_picReader_inst := by
  intro args sub K K' hk h
  unfold S_p_impl_picReader_inst at h ⊢
  repeat' first | exact hk _ _ h | exact h.elim | exact ⟨fun hc => hk _ _ (h.1 hc), fun hc => hk _ _ (h.2 hc)⟩ | (refine ⟨h.1, ?_⟩; replace h := h.2) | (intro hc; replace h := h hc) | (refine And.imp ?_ ?_ h <;> clear h <;> intro h) | split at h
noncomputable abbrev E_p_impl_picReader_inst : Ent := ⟨nrm [[none]] S_p_impl_picReader_inst, false⟩
theorem g_p_impl_picReader_inst : Good CA 22 E_p_impl_picReader_inst := by
  refine Good.nrm _ (fn_go (ex := 4) (l := [(19, E_impl_in), (44, E_p_impl_picReader_take), (45, E_impl_hasOne), (46, E_impl_opFits), (47, E_impl_ElemArity), (48, E_p_impl_picReader_arg)]) (bor := []) CA_td CA_eq CA_mix ⟨g_impl_in, g_p_impl_picReader_take, g_impl_hasOne, g_impl_opFits, g_impl_ElemArity, g_p_impl_picReader_arg, trivial⟩ Try.func22 rfl (by simp [Try.f22]) S_p_impl_picReader_inst_mono fun args sub K hS hA hO => ?_)
  unfold S_p_impl_picReader_inst at hS
  split at hS
  · rename_i b z
    refine ⟨by simp [Try.f22], fun E hx hnb => ?_⟩
    replace hx : Fx CA (hyOf [(19, E_impl_in), (44, E_p_impl_picReader_take), (45, E_impl_hasOne), (46, E_impl_opFits), (47, E_impl_ElemArity), (48, E_p_impl_picReader_arg)] []) 1 87 E := hx
    obtain ⟨⟨hz⟩, hE, hF, hS⟩ := hS
    subst hz
    have hO0 := hO 0 _ rfl
    have hbl : b.length ≤ big := by have h := (hO0 (.sl .u8 b) (by simp) : Ok (.sl .u8) b).1; exact Nat.le_trans (Nat.le_mul_of_pos_right _ Ty.u8.bytes_pos) h
    unfold big at hbl
    rcases hl : b with _ | ⟨c, r⟩
    · rw [hl] at hE hS
      refine hx.next 400 rfl ?_
      conv => whnf
      repeat' first | exact SameX.refl _ | exact trivial | (refine And.intro ?_ ?_ <;> first | (intro hb <;> (try simp only [decide_eq_true_eq, decide_eq_false_iff_not, Bool.not_eq_true', Bool.not_eq_false', Bool.and_eq_true, Bool.or_eq_true, Bool.and_eq_false_iff, Bool.or_eq_false_iff, Bool.not_true, Bool.not_false, reduceCtorEq, Bool.true_and, Bool.and_true, Bool.false_and, Bool.and_false, ne_eq, not_or, not_true_eq_false, not_false_eq_true, false_or, or_false, true_and, and_true, false_and, and_false, Int.natCast_zero, Int.natCast_add, Int.natCast_one, List.length_nil, List.length_cons, List.length_take, List.length_drop, List.length_replicate, List.length_append, List.length_set, Nat.zero_add] at hb) <;> (try (exfalso; omega)) <;> (try conv => whnf)) | (conv => whnf) | skip) | (intro hb <;> (try simp only [decide_eq_true_eq, decide_eq_false_iff_not, Bool.not_eq_true', Bool.not_eq_false', Bool.and_eq_true, Bool.or_eq_true, Bool.and_eq_false_iff, Bool.or_eq_false_iff, Bool.not_true, Bool.not_false, reduceCtorEq, Bool.true_and, Bool.and_true, Bool.false_and, Bool.and_false, ne_eq, not_or, not_true_eq_false, not_false_eq_true, false_or, or_false, true_and, and_true, false_and, and_false, Int.natCast_zero, Int.natCast_add, Int.natCast_one, List.length_nil, List.length_cons, List.length_take, List.length_drop, List.length_replicate, List.length_append, List.length_set, Nat.zero_add] at hb) <;> (try (exfalso; omega)) <;> (try conv => whnf)) | (refine hx.draw 400 (by kernel_rfl) ?_ <;> conv => whnf) | (refine hx.next 400 rfl ?_ <;> conv => whnf)
      all_goals try first | exact ⟨by decide⟩ | exact hin (by omega) | exact ⟨by omega⟩ | exact ⟨⟨by omega, by omega⟩⟩ | exact ⟨by omega, by omega⟩ | (exfalso; omega)
      all_goals (try exact ⟨by omega, by decide⟩)
      exact hE _ _ 6 _ rfl (by omega)
    · have ek : (List.take (Int.toNat 1) (c :: r)).getD (Int.toNat 0) Ty.u8.dflt = c := rfl
      have e1 : List.drop (Int.toNat 1) (c :: r) = r := rfl
      rw [hl] at hE hS hF
      have hk := UInt8.toNat_lt c
      refine hx.next 400 rfl ?_
      conv => whnf
      repeat' first | exact SameX.refl _ | exact trivial | (refine And.intro ?_ ?_ <;> first | (intro hb <;> (try simp only [decide_eq_true_eq, decide_eq_false_iff_not, Bool.not_eq_true', Bool.not_eq_false', Bool.and_eq_true, Bool.or_eq_true, Bool.and_eq_false_iff, Bool.or_eq_false_iff, Bool.not_true, Bool.not_false, reduceCtorEq, Bool.true_and, Bool.and_true, Bool.false_and, Bool.and_false, ne_eq, not_or, not_true_eq_false, not_false_eq_true, false_or, or_false, true_and, and_true, false_and, and_false, Int.natCast_zero, Int.natCast_add, Int.natCast_one, List.length_nil, List.length_cons, List.length_take, List.length_drop, List.length_replicate, List.length_append, List.length_set, Nat.zero_add] at hb) <;> (try (exfalso; omega)) <;> (try conv => whnf)) | (conv => whnf) | skip) | (intro hb <;> (try simp only [decide_eq_true_eq, decide_eq_false_iff_not, Bool.not_eq_true', Bool.not_eq_false', Bool.and_eq_true, Bool.or_eq_true, Bool.and_eq_false_iff, Bool.or_eq_false_iff, Bool.not_true, Bool.not_false, reduceCtorEq, Bool.true_and, Bool.and_true, Bool.false_and, Bool.and_false, ne_eq, not_or, not_true_eq_false, not_false_eq_true, false_or, or_false, true_and, and_true, false_and, and_false, Int.natCast_zero, Int.natCast_add, Int.natCast_one, List.length_nil, List.length_cons, List.length_take, List.length_drop, List.length_replicate, List.length_append, List.length_set, Nat.zero_add] at hb) <;> (try (exfalso; omega)) <;> (try conv => whnf)) | (refine hx.draw 400 (by kernel_rfl) ?_ <;> conv => whnf) | (refine hx.next 400 rfl ?_ <;> conv => whnf)
      all_goals try simp only [ek, e1] at *
      all_goals clear ek e1
      all_goals try first | exact ⟨by decide⟩ | exact hin (by omega) | exact ⟨by omega⟩ | exact ⟨⟨by omega, by omega⟩⟩ | exact ⟨by omega, by omega⟩ | (exfalso; omega)
      all_goals try (simp only [List.length_take, List.length_drop, List.length_append, List.length_cons, List.length_nil, List.length_replicate, List.length_set, Ty.bytes, big, Nat.zero_add, Nat.add_zero]; first | exact hin (by omega) | exact ⟨by omega⟩ | exact ⟨⟨by omega, by omega⟩⟩ | exact ⟨by omega, by omega⟩)
      · exact hE _ _ 2 _ (instR_1 (by omega)) (by omega)
      · have hh : hasOne c.toNat = false := by simp only [hasOne, Bool.or_eq_false_iff, Bool.and_eq_false_iff, decide_eq_false_iff_not]; omega
        exact (hS ⟨c.toNat, ⟨0, []⟩⟩ r (instR_2 (by omega) hh)).1 hh
      · have hh : hasOne c.toNat = true := by simp only [hasOne, Bool.or_eq_true, Bool.and_eq_true, decide_eq_true_eq]; omega
        have : r = [] := List.eq_nil_of_length_eq_zero (by omega)
        subst this
        refine Safe.loopUP (Y := Unit) (fun y => [(4, N64 0), (61, .v .any), (62, .v .any), (63, .v .any), (64, .v .any), (65, .v .any), (66, .v .any), (67, .v .any), (68, .v .any), (69, .v .any), (70, .v .any), (71, .v .any), (72, .v .any), (73, .v .any), (74, .v .any), (75, .v .any), (76, .v .any), (77, .v .any), (78, .v .any), (79, .v .any), (80, .v .any), (81, .v .any), (82, .v .any), (83, .v .any), (84, .v .any)]) (fun y => [(5, none), (62, none), (63, none), (64, none), (65, none), (66, none), (67, none), (68, none), (69, none), (70, none), (71, none), (72, none), (73, none), (74, none), (75, none), (76, none), (77, none), (78, none), (79, none), (80, none), (81, none), (82, none), (83, none), (84, none), (85, none)]) (fun y => True) (fun y => 0) (()) ?_ (StLe.upd ?_) fun y hP => ?_
        · first | trivial | ((try dsimp only); first | trivial | omega | ((repeat' apply And.intro) <;> omega) | (simp; done))
        · conv => whnf
          repeat' first | exact trivial | exact .refl _ | exact .nilsl _ | exact .tt _ rfl | exact .ff _ rfl | exact .tb _ rfl | exact .fb _ rfl | exact .row _ _ _ _ rfl | (refine And.intro ?_ ?_ <;> try conv => whnf)
          all_goals try first | exact sameI (by omega) | exact sameI rfl | (refine sameI ?_; simp only [List.length_append, List.length_cons, List.length_nil]; omega)
        · refine hx.next 400 rfl ?_
          conv => whnf
          repeat' first | exact SameX.refl _ | exact trivial | (refine And.intro ?_ ?_ <;> first | (intro hb <;> (try simp only [decide_eq_true_eq, decide_eq_false_iff_not, Bool.not_eq_true', Bool.not_eq_false', Bool.and_eq_true, Bool.or_eq_true, Bool.and_eq_false_iff, Bool.or_eq_false_iff, Bool.not_true, Bool.not_false, reduceCtorEq, Bool.true_and, Bool.and_true, Bool.false_and, Bool.and_false, ne_eq, not_or, not_true_eq_false, not_false_eq_true, false_or, or_false, true_and, and_true, false_and, and_false, Int.natCast_zero, Int.natCast_add, Int.natCast_one, List.length_nil, List.length_cons, List.length_take, List.length_drop, List.length_replicate, List.length_append, List.length_set, Nat.zero_add] at hb) <;> (try (exfalso; omega)) <;> (try conv => whnf)) | (conv => whnf) | skip) | (intro hb <;> (try simp only [decide_eq_true_eq, decide_eq_false_iff_not, Bool.not_eq_true', Bool.not_eq_false', Bool.and_eq_true, Bool.or_eq_true, Bool.and_eq_false_iff, Bool.or_eq_false_iff, Bool.not_true, Bool.not_false, reduceCtorEq, Bool.true_and, Bool.and_true, Bool.false_and, Bool.and_false, ne_eq, not_or, not_true_eq_false, not_false_eq_true, false_or, or_false, true_and, and_true, false_and, and_false, Int.natCast_zero, Int.natCast_add, Int.natCast_one, List.length_nil, List.length_cons, List.length_take, List.length_drop, List.length_replicate, List.length_append, List.length_set, Nat.zero_add] at hb) <;> (try (exfalso; omega)) <;> (try conv => whnf)) | (refine hx.draw 400 (by kernel_rfl) ?_ <;> conv => whnf) | (refine hx.next 400 rfl ?_ <;> conv => whnf)
          all_goals try first | exact ⟨by decide⟩ | exact hin (by omega) | exact ⟨by omega⟩ | exact ⟨⟨by omega, by omega⟩⟩ | exact ⟨by omega, by omega⟩ | (exfalso; omega)
          all_goals exact hE _ _ 6 _ (instR_3 (by omega) hh) (by omega)
      · have hh : hasOne c.toNat = true := by simp only [hasOne, Bool.or_eq_true, Bool.and_eq_true, decide_eq_true_eq]; omega
        rcases r with _ | ⟨o, r⟩
        · simp only [List.length_nil] at *; omega
        have hkn : known c.toNat o.toNat = false := hb
        refine Safe.loopUP (Y := Unit) (fun y => [(4, N64 0), (61, .v .any), (62, .v .any), (63, .v .any), (64, .v .any), (65, .v .any), (66, .v .any), (67, .v .any), (68, .v .any), (69, .v .any), (70, .v .any), (71, .v .any), (72, .v .any), (73, .v .any), (74, .v .any), (75, .v .any), (76, .v .any), (77, .v .any), (78, .v .any), (79, .v .any), (80, .v .any), (81, .v .any), (82, .v .any), (83, .v .any), (84, .v .any)]) (fun y => [(5, none), (62, none), (63, none), (64, none), (65, none), (66, none), (67, none), (68, none), (69, none), (70, none), (71, none), (72, none), (73, none), (74, none), (75, none), (76, none), (77, none), (78, none), (79, none), (80, none), (81, none), (82, none), (83, none), (84, none), (85, none)]) (fun y => True) (fun y => 0) (()) ?_ (StLe.upd ?_) fun y hP => ?_
        · first | trivial | ((try dsimp only); first | trivial | omega | ((repeat' apply And.intro) <;> omega) | (simp; done))
        · conv => whnf
          repeat' first | exact trivial | exact .refl _ | exact .nilsl _ | exact .tt _ rfl | exact .ff _ rfl | exact .tb _ rfl | exact .fb _ rfl | exact .row _ _ _ _ rfl | (refine And.intro ?_ ?_ <;> try conv => whnf)
          all_goals try first | exact sameI (by omega) | exact sameI rfl | (refine sameI ?_; simp only [List.length_append, List.length_cons, List.length_nil]; omega)
        · refine hx.next 400 rfl ?_
          conv => whnf
          repeat' first | exact SameX.refl _ | exact trivial | (refine And.intro ?_ ?_ <;> first | (intro hb <;> (try simp only [decide_eq_true_eq, decide_eq_false_iff_not, Bool.not_eq_true', Bool.not_eq_false', Bool.and_eq_true, Bool.or_eq_true, Bool.and_eq_false_iff, Bool.or_eq_false_iff, Bool.not_true, Bool.not_false, reduceCtorEq, Bool.true_and, Bool.and_true, Bool.false_and, Bool.and_false, ne_eq, not_or, not_true_eq_false, not_false_eq_true, false_or, or_false, true_and, and_true, false_and, and_false, Int.natCast_zero, Int.natCast_add, Int.natCast_one, List.length_nil, List.length_cons, List.length_take, List.length_drop, List.length_replicate, List.length_append, List.length_set, Nat.zero_add] at hb) <;> (try (exfalso; omega)) <;> (try conv => whnf)) | (conv => whnf) | skip) | (intro hb <;> (try simp only [decide_eq_true_eq, decide_eq_false_iff_not, Bool.not_eq_true', Bool.not_eq_false', Bool.and_eq_true, Bool.or_eq_true, Bool.and_eq_false_iff, Bool.or_eq_false_iff, Bool.not_true, Bool.not_false, reduceCtorEq, Bool.true_and, Bool.and_true, Bool.false_and, Bool.and_false, ne_eq, not_or, not_true_eq_false, not_false_eq_true, false_or, or_false, true_and, and_true, false_and, and_false, Int.natCast_zero, Int.natCast_add, Int.natCast_one, List.length_nil, List.length_cons, List.length_take, List.length_drop, List.length_replicate, List.length_append, List.length_set, Nat.zero_add] at hb) <;> (try (exfalso; omega)) <;> (try conv => whnf)) | (refine hx.draw 400 (by kernel_rfl) ?_ <;> conv => whnf) | (refine hx.next 400 rfl ?_ <;> conv => whnf)
          all_goals try first | exact ⟨by decide⟩ | exact hin (by omega) | exact ⟨by omega⟩ | exact ⟨⟨by omega, by omega⟩⟩ | exact ⟨by omega, by omega⟩ | (exfalso; omega)
          all_goals exact hE _ _ 2 _ (instR_4 (by omega) hh hkn) (by omega)
      · have hh : hasOne c.toNat = true := by simp only [hasOne, Bool.or_eq_true, Bool.and_eq_true, decide_eq_true_eq]; omega
        rcases r with _ | ⟨o, r⟩
        · simp only [List.length_nil] at *; omega
        have hkn : known c.toNat o.toNat = true := hb
        have har := arity_bd o.toNat
        refine Safe.loopUP (Y := List DevArg × List UInt8 × Int) (fun y => [(4, N64 (y.1.length : Int)), (61, .v .any), (62, .v .any), (63, .v .any), (64, .v .any), (65, .v .any), (66, .v .any), (67, .v .any), (68, .v .any), (69, .v .any), (70, .v .any), (71, .v .any), (72, .v .any), (73, .v .any), (74, .v .any), (75, .v .any), (76, .v .any), (77, .v .any), (78, .v .any), (79, .v .any), (80, .v .any), (81, .v .any), (82, .v .any), (83, .v .any), (84, .v .any)]) (fun y => [(0, some (.box [.sl .u8 y.2.1, .int .i64 y.2.2])), (4, some (.box [.int .i64 c.toNat, .int .i64 o.toNat, .full 87])), (5, none), (62, none), (63, none), (64, none), (65, none), (66, none), (67, none), (68, none), (69, none), (70, none), (71, none), (72, none), (73, none), (74, none), (75, none), (76, none), (77, none), (78, none), (79, none), (80, none), (81, none), (82, none), (83, none), (84, none), (85, none), (87, some (.row eArg .devarg y.1))]) (fun y => y.1.length ≤ (arity o.toNat).toNat ∧ (0 < y.2.2 ∧ argsR (arity o.toNat).toNat r = .error y.2.2 ∨ y.2.2 = 0 ∧ argsR (arity o.toNat).toNat r = argsFrom y.1 ((arity o.toNat).toNat - y.1.length) y.2.1)) (fun y => (arity o.toNat).toNat - y.1.length) (([], r, 0)) ?_ (StLe.virtBox 4 2 87 _ eArg .devarg rfl rfl (Nat.le_of_ble_eq_true rfl) (hx.hnp _ (by omega)) rfl rfl (StLe.upd ?_)) fun y hP => ?_
        · refine ⟨by simp, .inr ⟨rfl, ?_⟩⟩
          rw [argsFrom_nil]; rfl
        · conv => whnf
          repeat' first | exact trivial | exact .refl _ | exact .nilsl _ | exact .tt _ rfl | exact .ff _ rfl | exact .tb _ rfl | exact .fb _ rfl | exact .row _ _ _ _ rfl | (refine And.intro ?_ ?_ <;> try conv => whnf)
          all_goals try first | exact sameI (by omega) | exact sameI rfl | (refine sameI ?_; simp only [List.length_append, List.length_cons, List.length_nil]; omega)
        · try dsimp only at hP
          obtain ⟨q1, q2⟩ := hP
          refine hx.next 400 rfl ?_
          conv => whnf
          repeat' first | exact SameX.refl _ | exact trivial | (refine And.intro ?_ ?_ <;> first | (intro hb <;> (try simp only [decide_eq_true_eq, decide_eq_false_iff_not, Bool.not_eq_true', Bool.not_eq_false', Bool.and_eq_true, Bool.or_eq_true, Bool.and_eq_false_iff, Bool.or_eq_false_iff, Bool.not_true, Bool.not_false, reduceCtorEq, Bool.true_and, Bool.and_true, Bool.false_and, Bool.and_false, ne_eq, not_or, not_true_eq_false, not_false_eq_true, false_or, or_false, true_and, and_true, false_and, and_false, Int.natCast_zero, Int.natCast_add, Int.natCast_one, List.length_nil, List.length_cons, List.length_take, List.length_drop, List.length_replicate, List.length_append, List.length_set, Nat.zero_add] at hb) <;> (try (exfalso; omega)) <;> (try conv => whnf)) | (conv => whnf) | skip) | (intro hb <;> (try simp only [decide_eq_true_eq, decide_eq_false_iff_not, Bool.not_eq_true', Bool.not_eq_false', Bool.and_eq_true, Bool.or_eq_true, Bool.and_eq_false_iff, Bool.or_eq_false_iff, Bool.not_true, Bool.not_false, reduceCtorEq, Bool.true_and, Bool.and_true, Bool.false_and, Bool.and_false, ne_eq, not_or, not_true_eq_false, not_false_eq_true, false_or, or_false, true_and, and_true, false_and, and_false, Int.natCast_zero, Int.natCast_add, Int.natCast_one, List.length_nil, List.length_cons, List.length_take, List.length_drop, List.length_replicate, List.length_append, List.length_set, Nat.zero_add] at hb) <;> (try (exfalso; omega)) <;> (try conv => whnf)) | (refine hx.draw 400 (by kernel_rfl) ?_ <;> conv => whnf) | (refine hx.next 400 rfl ?_ <;> conv => whnf)
          all_goals try first | exact ⟨by decide⟩ | exact hin (by omega) | exact ⟨by omega⟩ | exact ⟨⟨by omega, by omega⟩⟩ | exact ⟨by omega, by omega⟩ | (exfalso; omega)
          all_goals try (simp only [List.length_take, List.length_drop, List.length_append, List.length_cons, List.length_nil, List.length_replicate, List.length_set, Ty.bytes, big, Nat.zero_add, Nat.add_zero]; first | exact hin (by omega) | exact ⟨by omega⟩ | exact ⟨⟨by omega, by omega⟩⟩ | exact ⟨by omega, by omega⟩)
          · rename_i k n q e b' he
            have hst : (arity o.toNat).toNat - y.1.length = ((arity o.toNat).toNat - (y.1.length + 1)) + 1 := by omega
            refine ⟨(y.1 ++ [⟨k, n, q⟩], b', e), ?_, by first | omega | ((try dsimp only); (try simp only [List.length_append, List.length_cons, List.length_nil]); omega), StLe.swapU 83 87 (hx.hnp _ (by omega)) (hx.hnp _ (by omega)) rfl rfl ?_⟩
            · dsimp only
              refine ⟨by simp only [List.length_append, List.length_cons, List.length_nil]; omega, .inl ⟨by omega, ?_⟩⟩
              rcases q2 with q2 | q2
              · omega
              · exact q2.2.trans (by rw [hst]; exact argsFrom_err he)
            conv => whnf
            repeat' first | exact trivial | exact .refl _ | exact .nilsl _ | exact .tt _ rfl | exact .ff _ rfl | exact .tb _ rfl | exact .fb _ rfl | exact .row _ _ _ _ rfl | (refine And.intro ?_ ?_ <;> try conv => whnf)
            all_goals try first | exact sameI (by omega) | exact sameI rfl | (refine sameI ?_; simp only [List.length_append, List.length_cons, List.length_nil]; omega)
          · rename_i a b'
            have hst : (arity o.toNat).toNat - y.1.length = ((arity o.toNat).toNat - (y.1.length + 1)) + 1 := by omega
            have hla : (y.1 ++ [a]).length = y.1.length + 1 := by simp
            refine ⟨(y.1 ++ [a], b', 0), ?_, by first | omega | ((try dsimp only); (try simp only [List.length_append, List.length_cons, List.length_nil]); omega), StLe.swapU 83 87 (hx.hnp _ (by omega)) (hx.hnp _ (by omega)) rfl rfl ?_⟩
            · dsimp only
              refine ⟨by rw [hla]; omega, .inr ⟨rfl, ?_⟩⟩
              rw [hla]
              rcases q2 with q2 | q2
              · omega
              · exact q2.2.trans (by rw [hst]; exact argsFrom_ok hb)
            conv => whnf
            repeat' first | exact trivial | exact .refl _ | exact .nilsl _ | exact .tt _ rfl | exact .ff _ rfl | exact .tb _ rfl | exact .fb _ rfl | exact .row _ _ _ _ rfl | (refine And.intro ?_ ?_ <;> try conv => whnf)
            all_goals try first | exact sameI (by omega) | exact sameI rfl | (refine sameI ?_; simp only [List.length_append, List.length_cons, List.length_nil]; omega)
          · have q2' : 0 < y.2.2 ∧ argsR (arity o.toNat).toNat r = .error y.2.2 := by
              rcases q2 with q2 | q2
              · exact q2
              · omega
            exact hF _ _ _ _ _ (instR_5 (by omega) hh hkn q2'.2) q2'.1
          · rcases q2 with q2 | q2
            · exact hF _ _ _ _ _ (instR_5 (by omega) hh hkn q2.2) q2.1
            · have h0 : (arity o.toNat).toNat - y.1.length = 0 := by omega
              obtain ⟨q2, q3⟩ := q2
              rw [h0, argsFrom_0] at q3
              rw [q2]
              exact (hS ⟨c.toNat, ⟨o.toNat, y.1⟩⟩ y.2.1 (instR_6 (by omega) hh hkn q3)).2 hh
  · exact hS.elim
end Go.Proofs.Ytdpgdeaefmghiaa.Sx
