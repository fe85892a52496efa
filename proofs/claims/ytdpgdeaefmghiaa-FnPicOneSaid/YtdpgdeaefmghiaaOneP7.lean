/- A part of the proof's own kit: symbolic walks over the model (SeatB5, SeatB15, SeatB17, SeatB18, SeatB19, SeatB20, SeatB21, SeatB16, SeatB22, SeatB23). No statement of the seat stands here. -/
import Derived.Test.YtdpgdeaefmghiaaOneP6
set_option linter.unusedSimpArgs false
set_option linter.unusedVariables false
/- Printed by gen2.py: contracts of functions. -/
namespace Go.Proofs.Ytdpgdeaefmghiaa.Sx
open Go.Proofs
set_option maxRecDepth 20000
set_option maxHeartbeats 4000000
set_option linter.unusedSimpArgs false
set_option linter.unusedVariables false
def argsR : Nat → List UInt8 → Except Int (List DevArg × List UInt8)
  | 0, bs => .ok ([], bs)
  | n + 1, bs => match argR bs with
    | .error e => .error e
    | .ok (a, r) => match argsR n r with
      | .error e => .error e
      | .ok (xs, r') => .ok (a :: xs, r')
def argsFrom (acc : List DevArg) (n : Nat) (bs : List UInt8) : Except Int (List DevArg × List UInt8) := match argsR n bs with
  | .error e => .error e
  | .ok (xs, r) => .ok (acc ++ xs, r)
theorem argsFrom_nil (n : Nat) (bs : List UInt8) : argsFrom [] n bs = argsR n bs := by unfold argsFrom; split <;> simp_all
theorem argsFrom_ok {acc : List DevArg} {n : Nat} {bs r : List UInt8} {a : DevArg} (h : argR bs = .ok (a, r)) : argsFrom acc (n + 1) bs = argsFrom (acc ++ [a]) n r := by
  unfold argsFrom; rw [argsR, h]; simp only; cases argsR n r with
  | error e => rfl
  | ok p => obtain ⟨xs, r'⟩ := p; simp
theorem argsFrom_err {acc : List DevArg} {n : Nat} {bs : List UInt8} {e : Int} (h : argR bs = .error e) : argsFrom acc (n + 1) bs = .error e := by
  unfold argsFrom; rw [argsR, h]
theorem argsFrom_0 {acc : List DevArg} {bs : List UInt8} : argsFrom acc 0 bs = .ok (acc, bs) := by simp [argsFrom, argsR]
def instR (bs : List UInt8) : Except Int (Inst × List UInt8) := match bs with
  | [] => .error 6
  | c :: r => if (c.toNat : Int) < 1 ∨ 11 < (c.toNat : Int) then .error 2
    else if hasOne c.toNat = false then .ok (⟨c.toNat, ⟨0, []⟩⟩, r)
    else match r with
      | [] => .error 6
      | o :: r' => if known c.toNat o.toNat = false then .error 2
        else match argsR (arity o.toNat).toNat r' with
          | .error e => .error e
          | .ok (xs, r'') => .ok (⟨c.toNat, ⟨o.toNat, xs⟩⟩, r'')
theorem instR_1 {c : UInt8} {r : List UInt8} (h : (c.toNat : Int) < 1 ∨ 11 < (c.toNat : Int)) : instR (c :: r) = .error 2 := by simp only [instR]; rw [if_pos h]
theorem instR_2 {c : UInt8} {r : List UInt8} (h : ¬ ((c.toNat : Int) < 1 ∨ 11 < (c.toNat : Int))) (h2 : hasOne c.toNat = false) : instR (c :: r) = .ok (⟨c.toNat, ⟨0, []⟩⟩, r) := by simp only [instR]; rw [if_neg h, if_pos h2]
theorem instR_3 {c : UInt8} (h : ¬ ((c.toNat : Int) < 1 ∨ 11 < (c.toNat : Int))) (h2 : hasOne c.toNat = true) : instR [c] = .error 6 := by simp only [instR]; rw [if_neg h, if_neg (by simp [h2])]
theorem instR_4 {c o : UInt8} {r : List UInt8} (h : ¬ ((c.toNat : Int) < 1 ∨ 11 < (c.toNat : Int))) (h2 : hasOne c.toNat = true) (h3 : known c.toNat o.toNat = false) : instR (c :: o :: r) = .error 2 := by
  simp only [instR]; rw [if_neg h, if_neg (by simp [h2]), if_pos h3]
theorem instR_5 {c o : UInt8} {r : List UInt8} {e : Int} (h : ¬ ((c.toNat : Int) < 1 ∨ 11 < (c.toNat : Int))) (h2 : hasOne c.toNat = true) (h3 : known c.toNat o.toNat = true) (h4 : argsR (arity o.toNat).toNat r = .error e) : instR (c :: o :: r) = .error e := by
  simp only [instR]; rw [if_neg h, if_neg (by simp [h2]), if_neg (by simp [h3]), h4]
theorem instR_6 {c o : UInt8} {r r' : List UInt8} {xs : List DevArg} (h : ¬ ((c.toNat : Int) < 1 ∨ 11 < (c.toNat : Int))) (h2 : hasOne c.toNat = true) (h3 : known c.toNat o.toNat = true) (h4 : argsR (arity o.toNat).toNat r = .ok (xs, r')) : instR (c :: o :: r) = .ok (⟨c.toNat, ⟨o.toNat, xs⟩⟩, r') := by
  simp only [instR]; rw [if_neg h, if_neg (by simp [h2]), if_neg (by simp [h3]), h4]
theorem arity_bd (n : Int) : 0 ≤ arity n ∧ arity n ≤ 3 := by unfold arity; (repeat' split) <;> omega
noncomputable def S_p_spec_l17In_inst : Spec := fun args sub K => match args, sub with
  | [.v (.ptr 0 0)], [some (.box [.sl .u8 b, .int .i64 p])] => Hold (0 ≤ p ∧ p ≤ b.length) ∧ (∀ (c p' : Int), instR (b.drop p.toNat) = .error c → 0 < c → K (.tup [.agg [.int .i64 0, .int .i64 0, .nil], .v (.int .i64 c)]) [some (.box [.sl .u8 b, .int .i64 p'])]) ∧ (∀ (i : Inst) (p' : Int), instR (b.drop p.toNat) = .ok (i, b.drop p'.toNat) → p < p' → p' ≤ b.length → (hasOne i.code = false → K (.tup [.agg [.int .i64 i.code, .int .i64 0, .nil], .v (.int .i64 0)]) [some (.box [.sl .u8 b, .int .i64 p'])]) ∧ (hasOne i.code = true → K (.tup [.agg [.int .i64 i.code, .int .i64 i.one.op, .sl .devarg i.one.args], .v (.int .i64 0)]) [some (.box [.sl .u8 b, .int .i64 p'])]))
  | _, _ => False
theorem S_p_spec_l17In_inst_mono : Mono S_p_spec_l17In_inst := by
  intro args sub K K' hk h
  unfold S_p_spec_l17In_inst at h ⊢
  repeat' first | exact hk _ _ h | exact h.elim | exact ⟨fun hc => hk _ _ (h.1 hc), fun hc => hk _ _ (h.2 hc)⟩ | (refine ⟨h.1, ?_⟩; replace h := h.2) | (intro hc; replace h := h hc) | (refine And.imp ?_ ?_ h <;> clear h <;> intro h) | split at h
noncomputable abbrev E_p_spec_l17In_inst : Ent := ⟨nrm [[none]] S_p_spec_l17In_inst, false⟩
theorem g_p_spec_l17In_inst : Good CA 18 E_p_spec_l17In_inst := by
  refine Good.nrm _ (fn_go (ex := 4) (l := [(39, E_p_spec_l17In_take), (40, E_spec_l17Has), (41, E_spec_l17Known), (42, E_spec_ElemArity), (43, E_p_spec_l17In_arg)]) (bor := []) CA_td CA_eq CA_mix ⟨g_p_spec_l17In_take, g_spec_l17Has, g_spec_l17Known, g_spec_ElemArity, g_p_spec_l17In_arg, trivial⟩ Try.func18 rfl (by simp [Try.f18]) S_p_spec_l17In_inst_mono fun args sub K hS hA hO => ?_)
  unfold S_p_spec_l17In_inst at hS
  split at hS
  · rename_i b p
    refine ⟨by simp [Try.f18], fun E hx hnb => ?_⟩
    replace hx : Fx CA (hyOf [(39, E_p_spec_l17In_take), (40, E_spec_l17Has), (41, E_spec_l17Known), (42, E_spec_ElemArity), (43, E_p_spec_l17In_arg)] []) 1 88 E := hx
    obtain ⟨⟨hp⟩, hE, hS⟩ := hS
    have hO0 := hO 0 _ rfl
    have hbl : b.length ≤ big := by have h := (hO0 (.sl .u8 b) (by simp) : Ok (.sl .u8) b).1; exact Nat.le_trans (Nat.le_mul_of_pos_right _ Ty.u8.bytes_pos) h
    unfold big at hbl
    have hlen : (b.drop p.toNat).length = b.length - p.toNat := List.length_drop
    rcases hl : b.drop p.toNat with _ | ⟨c, r⟩
    · rw [hl] at hlen hE hS
      simp only [List.length_nil] at hlen
      refine hx.next 400 rfl ?_
      conv => whnf
      repeat' first | exact SameX.refl _ | exact trivial | (refine And.intro ?_ ?_ <;> first | (intro hb <;> (try simp only [decide_eq_true_eq, decide_eq_false_iff_not, Bool.not_eq_true', Bool.not_eq_false', Bool.and_eq_true, Bool.or_eq_true, Bool.and_eq_false_iff, Bool.or_eq_false_iff, Bool.not_true, Bool.not_false, reduceCtorEq, Bool.true_and, Bool.and_true, Bool.false_and, Bool.and_false, ne_eq, not_or, not_true_eq_false, not_false_eq_true, false_or, or_false, true_and, and_true, false_and, and_false, Int.natCast_zero, Int.natCast_add, Int.natCast_one, List.length_nil, List.length_cons, List.length_take, List.length_drop, List.length_replicate, List.length_append, List.length_set, Nat.zero_add] at hb) <;> (try (exfalso; omega)) <;> (try conv => whnf)) | (conv => whnf) | skip) | (intro hb <;> (try simp only [decide_eq_true_eq, decide_eq_false_iff_not, Bool.not_eq_true', Bool.not_eq_false', Bool.and_eq_true, Bool.or_eq_true, Bool.and_eq_false_iff, Bool.or_eq_false_iff, Bool.not_true, Bool.not_false, reduceCtorEq, Bool.true_and, Bool.and_true, Bool.false_and, Bool.and_false, ne_eq, not_or, not_true_eq_false, not_false_eq_true, false_or, or_false, true_and, and_true, false_and, and_false, Int.natCast_zero, Int.natCast_add, Int.natCast_one, List.length_nil, List.length_cons, List.length_take, List.length_drop, List.length_replicate, List.length_append, List.length_set, Nat.zero_add] at hb) <;> (try (exfalso; omega)) <;> (try conv => whnf)) | (refine hx.draw 400 (by kernel_rfl) ?_ <;> conv => whnf) | (refine hx.next 400 rfl ?_ <;> conv => whnf)
      all_goals try first | exact ⟨by decide⟩ | exact hin (by omega) | exact ⟨by omega⟩ | exact ⟨⟨by omega, by omega⟩⟩ | exact ⟨by omega, by omega⟩ | (exfalso; omega)
      exact hE 6 _ rfl (by omega)
    · have e2 : b.drop (p + 1).toNat = r := drop_next hp.1 hl
      have ek : (List.take (Int.toNat 1) (b.drop p.toNat)).getD (Int.toNat 0) Ty.u8.dflt = c := by rw [hl]; rfl
      rw [hl] at hE hS; have hlen' := hlen; rw [hl] at hlen'
      simp only [List.length_cons] at hlen'
      have hk := UInt8.toNat_lt c
      refine hx.next 400 rfl ?_
      conv => whnf
      repeat' first | exact SameX.refl _ | exact trivial | (refine And.intro ?_ ?_ <;> first | (intro hb <;> (try simp only [decide_eq_true_eq, decide_eq_false_iff_not, Bool.not_eq_true', Bool.not_eq_false', Bool.and_eq_true, Bool.or_eq_true, Bool.and_eq_false_iff, Bool.or_eq_false_iff, Bool.not_true, Bool.not_false, reduceCtorEq, Bool.true_and, Bool.and_true, Bool.false_and, Bool.and_false, ne_eq, not_or, not_true_eq_false, not_false_eq_true, false_or, or_false, true_and, and_true, false_and, and_false, Int.natCast_zero, Int.natCast_add, Int.natCast_one, List.length_nil, List.length_cons, List.length_take, List.length_drop, List.length_replicate, List.length_append, List.length_set, Nat.zero_add] at hb) <;> (try (exfalso; omega)) <;> (try conv => whnf)) | (conv => whnf) | skip) | (intro hb <;> (try simp only [decide_eq_true_eq, decide_eq_false_iff_not, Bool.not_eq_true', Bool.not_eq_false', Bool.and_eq_true, Bool.or_eq_true, Bool.and_eq_false_iff, Bool.or_eq_false_iff, Bool.not_true, Bool.not_false, reduceCtorEq, Bool.true_and, Bool.and_true, Bool.false_and, Bool.and_false, ne_eq, not_or, not_true_eq_false, not_false_eq_true, false_or, or_false, true_and, and_true, false_and, and_false, Int.natCast_zero, Int.natCast_add, Int.natCast_one, List.length_nil, List.length_cons, List.length_take, List.length_drop, List.length_replicate, List.length_append, List.length_set, Nat.zero_add] at hb) <;> (try (exfalso; omega)) <;> (try conv => whnf)) | (refine hx.draw 400 (by kernel_rfl) ?_ <;> conv => whnf) | (refine hx.next 400 rfl ?_ <;> conv => whnf)
      all_goals try simp only [ek] at *
      all_goals (have e2 := drop_next hp.1 hl; clear ek)
      all_goals try first | exact ⟨by decide⟩ | exact hin (by omega) | exact ⟨by omega⟩ | exact ⟨⟨by omega, by omega⟩⟩ | exact ⟨by omega, by omega⟩ | (exfalso; omega)
      all_goals try (simp only [List.length_take, List.length_drop, List.length_append, List.length_cons, List.length_nil, List.length_replicate, List.length_set, Ty.bytes, big, Nat.zero_add, Nat.add_zero]; first | exact hin (by omega) | exact ⟨by omega⟩ | exact ⟨⟨by omega, by omega⟩⟩ | exact ⟨by omega, by omega⟩)
      · exact hE 2 _ (instR_1 (by omega)) (by omega)
      · exact hE 2 _ (instR_1 (by omega)) (by omega)
      · exact (hS ⟨c.toNat, ⟨0, []⟩⟩ (p + 1) (by rw [e2]; exact instR_2 (by omega) hb) (by omega) (by omega)).1 hb
      · have : r = [] := List.eq_nil_of_length_eq_zero (by omega)
        subst this
        exact hE 6 _ (instR_3 (by omega) hb) (by omega)
      · rw [e2] at hb
        rcases r with _ | ⟨o, r⟩
        · simp only [List.length_nil] at hlen'; omega
        · exact hE 2 _ (instR_4 (by omega) (by assumption) hb) (by omega)
      · rcases r with _ | ⟨o, r⟩
        · simp only [List.length_nil] at hlen'; omega
        have ek2 : (List.take (Int.toNat 1) (b.drop (p + 1).toNat)).getD (Int.toNat 0) Ty.u8.dflt = o := by rw [e2]; rfl
        have e3 := drop_next (by omega) e2
        simp only [ek2] at *
        clear ek2
        have hkn : known c.toNat o.toNat = true := hb
        have har := arity_bd o.toNat
        simp only [List.length_cons] at hlen'
        refine Safe.loopUP (Y := List DevArg × Nat) (fun y => [(3, .v .any), (9, N64 (y.1.length : Int)), (10, .v .any), (11, .v .any), (61, .v .any), (62, .v .any), (63, .v .any), (64, .v .any), (65, .v .any), (66, .v .any), (67, .v .any), (68, .v .any), (69, .v .any), (70, .v .any), (71, .v .any), (72, .v .any), (73, .v .any), (74, .v .any), (75, .v .any), (76, .v .any), (77, .v .any), (78, .v .any), (79, .v .any), (80, .v .any), (81, .v .any), (82, .v .any), (83, .v .any), (84, .v .any), (85, .v .any)]) (fun y => [(0, some (.box [.sl .u8 b, .int .i64 (y.2 : Int)])), (4, none), (7, some (.box [.int .i64 c.toNat, .int .i64 o.toNat, .full 88])), (10, none), (11, none), (12, none), (62, none), (63, none), (64, none), (65, none), (66, none), (67, none), (68, none), (69, none), (70, none), (71, none), (72, none), (73, none), (74, none), (75, none), (76, none), (77, none), (78, none), (79, none), (80, none), (81, none), (82, none), (83, none), (84, none), (85, none), (86, none), (88, some (.row eArg .devarg y.1))]) (fun y => p < y.2 ∧ y.2 ≤ b.length ∧ y.1.length ≤ (arity o.toNat).toNat ∧ argsR (arity o.toNat).toNat r = argsFrom y.1 ((arity o.toNat).toNat - y.1.length) (b.drop y.2)) (fun y => (arity o.toNat).toNat - y.1.length) (([], (p + 1 + 1).toNat)) ?_ (StLe.virtBox 7 2 88 _ eArg .devarg rfl rfl (Nat.le_of_ble_eq_true rfl) (hx.hnp _ (by omega)) rfl rfl (StLe.upd ?_)) fun y hP => ?_
        · refine ⟨by omega, by omega, by simp, ?_⟩
          rw [argsFrom_nil, e3]; rfl
        · conv => whnf
          repeat' first | exact trivial | exact .refl _ | exact .nilsl _ | exact .tt _ rfl | exact .ff _ rfl | exact .tb _ rfl | exact .fb _ rfl | exact .row _ _ _ _ rfl | (refine And.intro ?_ ?_ <;> try conv => whnf)
          all_goals try first | exact sameI (by omega) | exact sameI rfl | (refine sameI ?_; simp only [List.length_append, List.length_cons, List.length_nil]; omega)
        · try dsimp only at hP
          obtain ⟨q1, q2, q3, q4⟩ := hP
          have hhas : hasOne c.toNat = true := by assumption
          refine hx.next 400 rfl ?_
          conv => whnf
          repeat' first | exact SameX.refl _ | exact trivial | (refine And.intro ?_ ?_ <;> first | (intro hb <;> (try simp only [decide_eq_true_eq, decide_eq_false_iff_not, Bool.not_eq_true', Bool.not_eq_false', Bool.and_eq_true, Bool.or_eq_true, Bool.and_eq_false_iff, Bool.or_eq_false_iff, Bool.not_true, Bool.not_false, reduceCtorEq, Bool.true_and, Bool.and_true, Bool.false_and, Bool.and_false, ne_eq, not_or, not_true_eq_false, not_false_eq_true, false_or, or_false, true_and, and_true, false_and, and_false, Int.natCast_zero, Int.natCast_add, Int.natCast_one, List.length_nil, List.length_cons, List.length_take, List.length_drop, List.length_replicate, List.length_append, List.length_set, Nat.zero_add] at hb) <;> (try (exfalso; omega)) <;> (try conv => whnf)) | (conv => whnf) | skip) | (intro hb <;> (try simp only [decide_eq_true_eq, decide_eq_false_iff_not, Bool.not_eq_true', Bool.not_eq_false', Bool.and_eq_true, Bool.or_eq_true, Bool.and_eq_false_iff, Bool.or_eq_false_iff, Bool.not_true, Bool.not_false, reduceCtorEq, Bool.true_and, Bool.and_true, Bool.false_and, Bool.and_false, ne_eq, not_or, not_true_eq_false, not_false_eq_true, false_or, or_false, true_and, and_true, false_and, and_false, Int.natCast_zero, Int.natCast_add, Int.natCast_one, List.length_nil, List.length_cons, List.length_take, List.length_drop, List.length_replicate, List.length_append, List.length_set, Nat.zero_add] at hb) <;> (try (exfalso; omega)) <;> (try conv => whnf)) | (refine hx.draw 400 (by kernel_rfl) ?_ <;> conv => whnf) | (refine hx.next 400 rfl ?_ <;> conv => whnf)
          all_goals try first | exact ⟨by decide⟩ | exact hin (by omega) | exact ⟨by omega⟩ | exact ⟨⟨by omega, by omega⟩⟩ | exact ⟨by omega, by omega⟩ | (exfalso; omega)
          all_goals try (simp only [List.length_take, List.length_drop, List.length_append, List.length_cons, List.length_nil, List.length_replicate, List.length_set, Ty.bytes, big, Nat.zero_add, Nat.add_zero]; first | exact hin (by omega) | exact ⟨by omega⟩ | exact ⟨⟨by omega, by omega⟩⟩ | exact ⟨by omega, by omega⟩)
          · rename_i hlt e p' he _
            have hst : (arity o.toNat).toNat - y.1.length = ((arity o.toNat).toNat - (y.1.length + 1)) + 1 := by omega
            rw [hst] at q4
            exact hE e p' (instR_5 (by omega) hhas hkn (q4.trans (argsFrom_err he))) (by omega)
          · rename_i hlt a p' ha h1 _
            have hst : (arity o.toNat).toNat - y.1.length = ((arity o.toNat).toNat - (y.1.length + 1)) + 1 := by omega
            rw [hst] at q4
            have hla : (y.1 ++ [a]).length = y.1.length + 1 := by simp
            refine ⟨(y.1 ++ [a], p'.toNat), ?_, by first | omega | ((try dsimp only); (try simp only [List.length_append, List.length_cons, List.length_nil]); omega), StLe.swapU 84 88 (hx.hnp _ (by omega)) (hx.hnp _ (by omega)) rfl rfl ?_⟩
            · dsimp only
              refine ⟨by omega, by omega, by omega, ?_⟩
              rw [hla]
              exact q4.trans (argsFrom_ok ha)
            conv => whnf
            repeat' first | exact trivial | exact .refl _ | exact .nilsl _ | exact .tt _ rfl | exact .ff _ rfl | exact .tb _ rfl | exact .fb _ rfl | exact .row _ _ _ _ rfl | (refine And.intro ?_ ?_ <;> try conv => whnf)
            all_goals try first | exact sameI (by omega) | exact sameI rfl | (refine sameI ?_; simp only [List.length_append, List.length_cons, List.length_nil]; omega)
          · have h0 : (arity o.toNat).toNat - y.1.length = 0 := by omega
            rw [h0, argsFrom_0] at q4
            exact (hS ⟨c.toNat, ⟨o.toNat, y.1⟩⟩ y.2 (instR_6 (by omega) hhas hkn q4) (by omega) (by omega)).2 hhas
  · exact hS.elim
end Go.Proofs.Ytdpgdeaefmghiaa.Sx

/- Printed by gen2.py: contracts of functions. -/
namespace Go.Proofs.Ytdpgdeaefmghiaa.Sx
open Go.Proofs
set_option maxRecDepth 20000
set_option maxHeartbeats 4000000
set_option linter.unusedSimpArgs false
set_option linter.unusedVariables false
theorem AB_nil : AB [] := fun a h => by simp at h
theorem AB_cons {k n q : Int} {l : List DevArg} (h : -1000000000000 ≤ n ∧ n ≤ 1000000000000) (hl : AB l) : AB (⟨k, n, q⟩ :: l) := fun a ha => by
  simp only [List.mem_cons] at ha
  rcases ha with rfl | ha
  · exact h
  · exact hl a ha
theorem AB_take {l : List DevArg} (h : AB l) (n : Nat) : AB (l.take n) := fun a ha => h a (List.mem_of_mem_take ha)
theorem arity_ge {op : Int} (h : 21 ≤ op ∧ op ≤ 37) : 1 ≤ arity op := by unfold arity; (repeat' split) <;> omega
theorem coil_ops {op : Int} (h : op ∈ [21, 21, 21, 22, 23, 24, 25, 26, 26, 27, 28, 29, 29, 30, 31, 31, 32, 33, 34, 35, 36, 37]) : 21 ≤ op ∧ op ≤ 37 := by
  have : ∀ x ∈ [21, 21, 21, 22, 23, 24, 25, 26, 26, 27, 28, 29, 29, 30, 31, 31, 32, 33, 34, 35, 36, 37], 21 ≤ x ∧ x ≤ (37 : Int) := by decide
  exact this op h
theorem hold_ar {op n : Int} (h : 3 ≤ n) : Hold (0 ≤ arity op ∧ arity op ≤ n) := ⟨⟨(arity_bd op).1, by have := (arity_bd op).2; omega⟩⟩
theorem take_ar1 {op : Int} {l : List DevArg} (hm : op ∈ [21, 21, 21, 22, 23, 24, 25, 26, 26, 27, 28, 29, 29, 30, 31, 31, 32, 33, 34, 35, 36, 37]) (hl : l.length = 3) : 1 ≤ (l.take (arity op).toNat).length := by
  have := arity_ge (coil_ops hm); rw [List.length_take]; omega
theorem take_ar3 {n : Nat} {l : List DevArg} (hl : l.length = 3) : (l.take n).length ≤ 3 := by rw [List.length_take]; omega
noncomputable def S_spec_l17Arg : Spec := fun args sub K => match args, sub with
  | [.v (.ptr 0 0)], [some (.box [.sl .u8 b, .int .i64 p])] => Hold (0 ≤ p ∧ p + 20 ≤ 1000000000 ∧ b.length ≤ 2000) ∧ ∀ k n q p' : Int, (p ≤ p' ∧ p' ≤ p + 20 ∧ -1000000000000 ≤ n ∧ n ≤ 1000000000000) → K (.agg [.int .i64 k, .int .i64 n, .int .i64 q]) [some (.box [.sl .u8 b, .int .i64 p'])]
  | _, _ => False
theorem S_spec_l17Arg_mono : Mono S_spec_l17Arg := by
  intro args sub K K' hk h
  unfold S_spec_l17Arg at h ⊢
  repeat' first | exact hk _ _ h | exact h.elim | exact ⟨fun hc => hk _ _ (h.1 hc), fun hc => hk _ _ (h.2 hc)⟩ | (refine ⟨h.1, ?_⟩; replace h := h.2) | (intro hc; replace h := h hc) | (refine And.imp ?_ ?_ h <;> clear h <;> intro h) | split at h
noncomputable abbrev E_spec_l17Arg : Ent := ⟨nrm [[none]] S_spec_l17Arg, false⟩
theorem g_spec_l17Arg : Good CA 52 E_spec_l17Arg := by
  refine Good.nrm _ (fn_go (ex := 4) (l := [(14, E_p_spec_l26Rd_pick), (67, E_p_spec_l26Rd_num)]) (bor := []) CA_td CA_eq CA_mix ⟨g_p_spec_l26Rd_pick, g_p_spec_l26Rd_num, trivial⟩ Try.func52 rfl (by simp [Try.f52]) S_spec_l17Arg_mono fun args sub K hS hA hO => ?_)
  unfold S_spec_l17Arg at hS
  split at hS
  · rename_i b p
    refine ⟨by simp [Try.f52], fun E hx hnb => ?_⟩
    replace hx : Fx CA (hyOf [(14, E_p_spec_l26Rd_pick), (67, E_p_spec_l26Rd_num)] []) 1 40 E := hx
    obtain ⟨⟨hp⟩, hS⟩ := hS
    refine hx.next 400 rfl ?_
    conv => whnf
    repeat' first | exact SameX.refl _ | exact trivial | (refine And.intro ?_ ?_ <;> first | (intro hb <;> (try simp only [decide_eq_true_eq, decide_eq_false_iff_not, Bool.not_eq_true', Bool.not_eq_false', Bool.and_eq_true, Bool.or_eq_true, Bool.and_eq_false_iff, Bool.or_eq_false_iff, Bool.not_true, Bool.not_false, reduceCtorEq, Bool.true_and, Bool.and_true, Bool.false_and, Bool.and_false, ne_eq, not_or, not_true_eq_false, not_false_eq_true, false_or, or_false, true_and, and_true, false_and, and_false, Int.natCast_zero, Int.natCast_add, Int.natCast_one, List.length_nil, List.length_cons, List.length_take, List.length_drop, List.length_replicate, List.length_append, List.length_set, Nat.zero_add] at hb) <;> (try (exfalso; omega)) <;> (try conv => whnf)) | (conv => whnf) | skip) | (intro hb <;> (try simp only [decide_eq_true_eq, decide_eq_false_iff_not, Bool.not_eq_true', Bool.not_eq_false', Bool.and_eq_true, Bool.or_eq_true, Bool.and_eq_false_iff, Bool.or_eq_false_iff, Bool.not_true, Bool.not_false, reduceCtorEq, Bool.true_and, Bool.and_true, Bool.false_and, Bool.and_false, ne_eq, not_or, not_true_eq_false, not_false_eq_true, false_or, or_false, true_and, and_true, false_and, and_false, Int.natCast_zero, Int.natCast_add, Int.natCast_one, List.length_nil, List.length_cons, List.length_take, List.length_drop, List.length_replicate, List.length_append, List.length_set, Nat.zero_add] at hb) <;> (try (exfalso; omega)) <;> (try conv => whnf)) | (refine hx.draw 400 (by kernel_rfl) ?_ <;> conv => whnf) | (refine hx.next 400 rfl ?_ <;> conv => whnf)
    all_goals try first | exact ⟨by decide⟩ | exact hin (by omega) | exact ⟨by omega⟩ | exact ⟨⟨by omega, by omega⟩⟩ | exact ⟨by omega, by omega⟩ | (exfalso; omega)
    all_goals exact hS _ _ _ _ (by omega)
  · exact hS.elim
noncomputable def S_spec_l4Contact : Spec := fun args sub K => match args, sub with
  | [.v (.ptr 0 0)], [some (.box [.sl .u8 b, .int .i64 p])] => Hold (0 ≤ p ∧ p + 200 ≤ 1000000000 ∧ b.length ≤ 2000) ∧ ∀ (op p' : Int) (l : List DevArg), (p ≤ p' ∧ p' ≤ p + 200 ∧ 1 ≤ l.length ∧ l.length ≤ 2) → AB l → K (.agg [.int .i64 op, .sl .devarg l]) [some (.box [.sl .u8 b, .int .i64 p'])]
  | _, _ => False
theorem S_spec_l4Contact_mono : Mono S_spec_l4Contact := by
  intro args sub K K' hk h
  unfold S_spec_l4Contact at h ⊢
  repeat' first | exact hk _ _ h | exact h.elim | exact ⟨fun hc => hk _ _ (h.1 hc), fun hc => hk _ _ (h.2 hc)⟩ | (refine ⟨h.1, ?_⟩; replace h := h.2) | (intro hc; replace h := h hc) | (refine And.imp ?_ ?_ h <;> clear h <;> intro h) | split at h
noncomputable abbrev E_spec_l4Contact : Ent := ⟨nrm [[none]] S_spec_l4Contact, false⟩
theorem g_spec_l4Contact : Good CA 68 E_spec_l4Contact := by
  refine Good.nrm _ (fn_go (ex := 4) (l := [(14, E_p_spec_l26Rd_pick), (75, E_spec_l4Bit), (76, E_spec_l2Arg), (77, E_spec_l4Whole), (78, E_spec_l4Real)]) (bor := []) CA_td CA_eq CA_mix ⟨g_p_spec_l26Rd_pick, g_spec_l4Bit, g_spec_l2Arg, g_spec_l4Whole, g_spec_l4Real, trivial⟩ Try.func68 rfl (by simp [Try.f68]) S_spec_l4Contact_mono fun args sub K hS hA hO => ?_)
  unfold S_spec_l4Contact at hS
  split at hS
  · rename_i b p
    refine ⟨by simp [Try.f68], fun E hx hnb => ?_⟩
    replace hx : Fx CA (hyOf [(14, E_p_spec_l26Rd_pick), (75, E_spec_l4Bit), (76, E_spec_l2Arg), (77, E_spec_l4Whole), (78, E_spec_l4Real)] []) 1 56 E := hx
    obtain ⟨⟨hp⟩, hS⟩ := hS
    refine hx.next 400 rfl ?_
    conv => whnf
    repeat' first | exact SameX.refl _ | exact trivial | (refine And.intro ?_ ?_ <;> first | (intro hb <;> (try simp only [decide_eq_true_eq, decide_eq_false_iff_not, Bool.not_eq_true', Bool.not_eq_false', Bool.and_eq_true, Bool.or_eq_true, Bool.and_eq_false_iff, Bool.or_eq_false_iff, Bool.not_true, Bool.not_false, reduceCtorEq, Bool.true_and, Bool.and_true, Bool.false_and, Bool.and_false, ne_eq, not_or, not_true_eq_false, not_false_eq_true, false_or, or_false, true_and, and_true, false_and, and_false, Int.natCast_zero, Int.natCast_add, Int.natCast_one, List.length_nil, List.length_cons, List.length_take, List.length_drop, List.length_replicate, List.length_append, List.length_set, Nat.zero_add] at hb) <;> (try (exfalso; omega)) <;> (try conv => whnf)) | (conv => whnf) | skip) | (intro hb <;> (try simp only [decide_eq_true_eq, decide_eq_false_iff_not, Bool.not_eq_true', Bool.not_eq_false', Bool.and_eq_true, Bool.or_eq_true, Bool.and_eq_false_iff, Bool.or_eq_false_iff, Bool.not_true, Bool.not_false, reduceCtorEq, Bool.true_and, Bool.and_true, Bool.false_and, Bool.and_false, ne_eq, not_or, not_true_eq_false, not_false_eq_true, false_or, or_false, true_and, and_true, false_and, and_false, Int.natCast_zero, Int.natCast_add, Int.natCast_one, List.length_nil, List.length_cons, List.length_take, List.length_drop, List.length_replicate, List.length_append, List.length_set, Nat.zero_add] at hb) <;> (try (exfalso; omega)) <;> (try conv => whnf)) | (refine hx.draw 400 (by kernel_rfl) ?_ <;> conv => whnf) | (refine hx.next 400 rfl ?_ <;> conv => whnf)
    all_goals try first | exact ⟨by decide⟩ | exact hin (by omega) | exact ⟨by omega⟩ | exact ⟨⟨by omega, by omega⟩⟩ | exact ⟨by omega, by omega⟩ | (exfalso; omega)
    all_goals first
      | exact hS _ _ _ ⟨by omega, by omega, by (simp only [List.length_cons, List.length_replicate, List.length_take, List.length_drop]; omega), by (simp only [List.length_cons, List.length_replicate, List.length_take, List.length_drop]; omega)⟩ (by repeat' first | exact AB_nil | (apply AB_cons; omega) | apply AB_take)
      | skip
  · exact hS.elim
noncomputable def S_spec_l4Coil : Spec := fun args sub K => match args, sub with
  | [.v (.ptr 0 0)], [some (.box [.sl .u8 b, .int .i64 p])] => Hold (0 ≤ p ∧ p + 200 ≤ 1000000000 ∧ b.length ≤ 2000) ∧ ∀ (op p' : Int) (l : List DevArg), (p ≤ p' ∧ p' ≤ p + 200 ∧ 1 ≤ l.length ∧ l.length ≤ 3) → AB l → K (.agg [.int .i64 op, .sl .devarg l]) [some (.box [.sl .u8 b, .int .i64 p'])]
  | _, _ => False
theorem S_spec_l4Coil_mono : Mono S_spec_l4Coil := by
  intro args sub K K' hk h
  unfold S_spec_l4Coil at h ⊢
  repeat' first | exact hk _ _ h | exact h.elim | exact ⟨fun hc => hk _ _ (h.1 hc), fun hc => hk _ _ (h.2 hc)⟩ | (refine ⟨h.1, ?_⟩; replace h := h.2) | (intro hc; replace h := h hc) | (refine And.imp ?_ ?_ h <;> clear h <;> intro h) | split at h
noncomputable abbrev E_spec_l4Coil : Ent := ⟨nrm [[none]] S_spec_l4Coil, false⟩
theorem g_spec_l4Coil : Good CA 69 E_spec_l4Coil := by
  refine Good.nrm _ (fn_go (ex := 4) (l := [(14, E_p_spec_l26Rd_pick), (42, E_spec_ElemArity), (67, E_p_spec_l26Rd_num), (76, E_spec_l2Arg), (77, E_spec_l4Whole), (78, E_spec_l4Real)]) (bor := []) CA_td CA_eq CA_mix ⟨g_p_spec_l26Rd_pick, g_spec_ElemArity, g_p_spec_l26Rd_num, g_spec_l2Arg, g_spec_l4Whole, g_spec_l4Real, trivial⟩ Try.func69 rfl (by simp [Try.f69]) S_spec_l4Coil_mono fun args sub K hS hA hO => ?_)
  unfold S_spec_l4Coil at hS
  split at hS
  · rename_i b p
    refine ⟨by simp [Try.f69], fun E hx hnb => ?_⟩
    replace hx : Fx CA (hyOf [(14, E_p_spec_l26Rd_pick), (42, E_spec_ElemArity), (67, E_p_spec_l26Rd_num), (76, E_spec_l2Arg), (77, E_spec_l4Whole), (78, E_spec_l4Real)] []) 1 136 E := hx
    obtain ⟨⟨hp⟩, hS⟩ := hS
    refine hx.next 400 rfl ?_
    conv => whnf
    repeat' first | exact SameX.refl _ | exact trivial | (refine And.intro ?_ ?_ <;> first | (intro hb <;> (try simp only [decide_eq_true_eq, decide_eq_false_iff_not, Bool.not_eq_true', Bool.not_eq_false', Bool.and_eq_true, Bool.or_eq_true, Bool.and_eq_false_iff, Bool.or_eq_false_iff, Bool.not_true, Bool.not_false, reduceCtorEq, Bool.true_and, Bool.and_true, Bool.false_and, Bool.and_false, ne_eq, not_or, not_true_eq_false, not_false_eq_true, false_or, or_false, true_and, and_true, false_and, and_false, Int.natCast_zero, Int.natCast_add, Int.natCast_one, List.length_nil, List.length_cons, List.length_take, List.length_drop, List.length_replicate, List.length_append, List.length_set, Nat.zero_add] at hb) <;> (try (exfalso; omega)) <;> (try conv => whnf)) | (conv => whnf) | skip) | (intro hb <;> (try simp only [decide_eq_true_eq, decide_eq_false_iff_not, Bool.not_eq_true', Bool.not_eq_false', Bool.and_eq_true, Bool.or_eq_true, Bool.and_eq_false_iff, Bool.or_eq_false_iff, Bool.not_true, Bool.not_false, reduceCtorEq, Bool.true_and, Bool.and_true, Bool.false_and, Bool.and_false, ne_eq, not_or, not_true_eq_false, not_false_eq_true, false_or, or_false, true_and, and_true, false_and, and_false, Int.natCast_zero, Int.natCast_add, Int.natCast_one, List.length_nil, List.length_cons, List.length_take, List.length_drop, List.length_replicate, List.length_append, List.length_set, Nat.zero_add] at hb) <;> (try (exfalso; omega)) <;> (try conv => whnf)) | (refine hx.draw 400 (by kernel_rfl) ?_ <;> conv => whnf) | (refine hx.next 400 rfl ?_ <;> conv => whnf)
    all_goals try first | exact ⟨by decide⟩ | exact hin (by omega) | exact ⟨by omega⟩ | exact ⟨⟨by omega, by omega⟩⟩ | exact ⟨by omega, by omega⟩ | (exfalso; omega)
    all_goals first
      | exact hS _ _ _ ⟨by omega, by omega, by (simp only [List.length_cons, List.length_replicate, List.length_take, List.length_drop]; omega), by (simp only [List.length_cons, List.length_replicate, List.length_take, List.length_drop]; omega)⟩ (by repeat' first | exact AB_nil | (apply AB_cons; omega) | apply AB_take)
      | skip
    all_goals first
      | exact hold_ar (by simp)
      | exact hS _ _ _ ⟨by omega, by omega, take_ar1 (And.left (by assumption)) rfl, take_ar3 rfl⟩ (by repeat' first | exact AB_nil | (apply AB_cons; omega) | apply AB_take)
  · exact hS.elim
end Go.Proofs.Ytdpgdeaefmghiaa.Sx

/- Printed by gen2.py: contracts of functions. -/
namespace Go.Proofs.Ytdpgdeaefmghiaa.Sx
open Go.Proofs
set_option maxRecDepth 20000
set_option maxHeartbeats 4000000
set_option linter.unusedSimpArgs false
set_option linter.unusedVariables false
def IOk (i : Inst) : Prop := i.one.args.length ≤ 4 ∧ AB i.one.args
def LOk (l : List Inst) : Prop := ∀ i ∈ l, IOk i
theorem LOk_nil : LOk [] := fun i h => by simp at h
theorem LOk_app {l : List Inst} (h : LOk l) {i : Inst} (hi : IOk i) : LOk (l ++ [i]) := fun x hx => by
  rw [List.mem_append] at hx; rcases hx with hx | hx
  · exact h x hx
  · simp only [List.mem_cons, List.not_mem_nil, or_false] at hx; subst hx; exact hi
noncomputable def S_p_spec_l11Play_put : Spec := fun args sub K => match args, sub with
  | [.v (.ptr 0 0), .v (.int .i64 code)], [some (.box [.ptr 1 0, .full 2, .int .i64 bits, .int .i64 forks, .bool base, .bool fresh]), some (.box [.sl .u8 b, .int .i64 p]), some (.row e .inst out)] => Hold (0 ≤ p ∧ p + 500 ≤ 1000000000 ∧ b.length ≤ 2000 ∧ out.length ≤ 1000000) ∧ Hold (e = eInst) ∧ ∀ (i : Inst) (p' : Int) (base' fresh' : Bool), (p ≤ p' ∧ p' ≤ p + 500) → IOk i → K (.tup []) [some (.box [.ptr 1 0, .full 3, .int .i64 bits, .int .i64 forks, .bool base', .bool fresh']), some (.box [.sl .u8 b, .int .i64 p']), none, some (.row e .inst (out ++ [i]))]
  | _, _ => False
theorem S_p_spec_l11Play_put_mono : Mono S_p_spec_l11Play_put := by
  intro args sub K K' hk h
  unfold S_p_spec_l11Play_put at h ⊢
  repeat' first | exact hk _ _ h | exact h.elim | exact ⟨fun hc => hk _ _ (h.1 hc), fun hc => hk _ _ (h.2 hc)⟩ | (refine ⟨h.1, ?_⟩; replace h := h.2) | (intro hc; replace h := h hc) | (refine And.imp ?_ ?_ h <;> clear h <;> intro h) | split at h
noncomputable abbrev E_p_spec_l11Play_put : Ent := ⟨nrm [[none], [none]] S_p_spec_l11Play_put, true⟩
theorem g_p_spec_l11Play_put : Good CA 80 E_p_spec_l11Play_put := by
  refine Good.nrm _ (fn_go (ex := 4) (l := [(68, E_spec_l4Contact), (69, E_spec_l4Coil)]) (bor := []) CA_td CA_eq CA_mix ⟨g_spec_l4Contact, g_spec_l4Coil, trivial⟩ Try.func80 rfl (by simp [Try.f80]) S_p_spec_l11Play_put_mono fun args sub K hS hA hO => ?_)
  unfold S_p_spec_l11Play_put at hS
  split at hS
  · rename_i code bits forks base fresh b p e out
    refine ⟨by simp [Try.f80], fun E hx hnb => ?_⟩
    replace hx : Fx CA (hyOf [(68, E_spec_l4Contact), (69, E_spec_l4Coil)] []) 3 50 E := hx
    obtain ⟨⟨hp⟩, ⟨he⟩, hS⟩ := hS
    subst he
    refine hx.next 400 rfl ?_
    conv => whnf
    repeat' first | exact SameX.refl _ | exact trivial | (refine And.intro ?_ ?_ <;> first | (intro hb <;> (try simp only [decide_eq_true_eq, decide_eq_false_iff_not, Bool.not_eq_true', Bool.not_eq_false', Bool.and_eq_true, Bool.or_eq_true, Bool.and_eq_false_iff, Bool.or_eq_false_iff, Bool.not_true, Bool.not_false, reduceCtorEq, Bool.true_and, Bool.and_true, Bool.false_and, Bool.and_false, ne_eq, not_or, not_true_eq_false, not_false_eq_true, false_or, or_false, true_and, and_true, false_and, and_false, Int.natCast_zero, Int.natCast_add, Int.natCast_one, List.length_nil, List.length_cons, List.length_take, List.length_drop, List.length_replicate, List.length_append, List.length_set, Nat.zero_add] at hb) <;> (try (exfalso; omega)) <;> (try conv => whnf)) | (conv => whnf) | skip) | (intro hb <;> (try simp only [decide_eq_true_eq, decide_eq_false_iff_not, Bool.not_eq_true', Bool.not_eq_false', Bool.and_eq_true, Bool.or_eq_true, Bool.and_eq_false_iff, Bool.or_eq_false_iff, Bool.not_true, Bool.not_false, reduceCtorEq, Bool.true_and, Bool.and_true, Bool.false_and, Bool.and_false, ne_eq, not_or, not_true_eq_false, not_false_eq_true, false_or, or_false, true_and, and_true, false_and, and_false, Int.natCast_zero, Int.natCast_add, Int.natCast_one, List.length_nil, List.length_cons, List.length_take, List.length_drop, List.length_replicate, List.length_append, List.length_set, Nat.zero_add] at hb) <;> (try (exfalso; omega)) <;> (try conv => whnf)) | (refine hx.draw 400 (by kernel_rfl) ?_ <;> conv => whnf) | (refine hx.next 400 rfl ?_ <;> conv => whnf)
    all_goals try first | exact ⟨by decide⟩ | exact hin (by omega) | exact ⟨by omega⟩ | exact ⟨⟨by omega, by omega⟩⟩ | exact ⟨by omega, by omega⟩ | (exfalso; omega)
    all_goals try (simp only [List.length_take, List.length_drop, List.length_append, List.length_cons, List.length_nil, List.length_replicate, List.length_set, Ty.bytes, big, Nat.zero_add, Nat.add_zero]; first | exact hin (by omega) | exact ⟨by omega⟩ | exact ⟨⟨by omega, by omega⟩⟩ | exact ⟨by omega, by omega⟩)
    all_goals first
      | exact hS ⟨_, ⟨_, _⟩⟩ _ _ _ ⟨by omega, by omega⟩ ⟨by (try dsimp only); omega, by assumption⟩
      | exact hS ⟨_, ⟨_, _⟩⟩ _ _ _ ⟨by omega, by omega⟩ ⟨Nat.zero_le _, AB_nil⟩
  · exact hS.elim
end Go.Proofs.Ytdpgdeaefmghiaa.Sx

/- Printed by gen2.py: contracts of functions. -/
namespace Go.Proofs.Ytdpgdeaefmghiaa.Sx
open Go.Proofs
set_option maxRecDepth 20000
set_option maxHeartbeats 4000000
set_option linter.unusedSimpArgs false
set_option linter.unusedVariables false
structure Pl where
  bits : Int
  p : Int
  out : List Inst
  base : Bool
  fresh : Bool
noncomputable def S_p_spec_l11Play_close : Spec := fun args sub K => match args, sub with
  | [.v (.ptr 0 0)], [some (.box [.ptr 1 0, .full 2, .int .i64 bits, .int .i64 forks, .bool base, .bool fresh]), some (.box [.sl .u8 b, .int .i64 p]), some (.row e .inst out)] => Hold (0 ≤ p ∧ p + 20000 ≤ 1000000000 ∧ b.length ≤ 2000 ∧ out.length ≤ 900000 ∧ 0 ≤ bits ∧ bits ≤ 17) ∧ Hold (e = eInst) ∧ Hold (LOk out) ∧ ∀ (out' : List Inst) (p' bits' : Int) (base' fresh' : Bool), (p ≤ p' ∧ p' ≤ p + 20000 ∧ out'.length ≤ out.length + 18 ∧ out.length ≤ out'.length ∧ 0 ≤ bits' ∧ bits' ≤ bits ∧ (bits' ≤ 1)) → LOk out' → K (.tup []) [some (.box [.ptr 1 0, .full 3, .int .i64 bits', .int .i64 forks, .bool base', .bool fresh']), some (.box [.sl .u8 b, .int .i64 p']), none, some (.row e .inst out')]
  | _, _ => False
theorem S_p_spec_l11Play_close_mono : Mono S_p_spec_l11Play_close := by
  intro args sub K K' hk h
  unfold S_p_spec_l11Play_close at h ⊢
  repeat' first | exact hk _ _ h | exact h.elim | exact ⟨fun hc => hk _ _ (h.1 hc), fun hc => hk _ _ (h.2 hc)⟩ | (refine ⟨h.1, ?_⟩; replace h := h.2) | (intro hc; replace h := h hc) | (refine And.imp ?_ ?_ h <;> clear h <;> intro h) | split at h
noncomputable abbrev E_p_spec_l11Play_close : Ent := ⟨nrm [[none]] S_p_spec_l11Play_close, true⟩
theorem g_p_spec_l11Play_close : Good CA 82 E_p_spec_l11Play_close := by
  refine Good.nrm _ (fn_go (ex := 4) (l := [(14, E_p_spec_l26Rd_pick), (80, E_p_spec_l11Play_put)]) (bor := []) CA_td CA_eq CA_mix ⟨g_p_spec_l26Rd_pick, g_p_spec_l11Play_put, trivial⟩ Try.func82 rfl (by simp [Try.f82]) S_p_spec_l11Play_close_mono fun args sub K hS hA hO => ?_)
  unfold S_p_spec_l11Play_close at hS
  split at hS
  · rename_i bits forks base fresh b p e out
    refine ⟨by simp [Try.f82], fun E hx hnb => ?_⟩
    replace hx : Fx CA (hyOf [(14, E_p_spec_l26Rd_pick), (80, E_p_spec_l11Play_put)] []) 3 48 E := hx
    obtain ⟨⟨hp⟩, ⟨he⟩, ⟨hlo⟩, hS⟩ := hS
    subst he
    refine Safe.swapK 2 48 (hnb _ rfl) (hx.hnp _ (by omega)) rfl rfl ?_
    conv => whnf
    refine hx.next 400 rfl ?_
    conv => whnf
    repeat' first | exact SameX.refl _ | exact trivial | (refine And.intro ?_ ?_ <;> first | (intro hb <;> (try simp only [decide_eq_true_eq, decide_eq_false_iff_not, Bool.not_eq_true', Bool.not_eq_false', Bool.and_eq_true, Bool.or_eq_true, Bool.and_eq_false_iff, Bool.or_eq_false_iff, Bool.not_true, Bool.not_false, reduceCtorEq, Bool.true_and, Bool.and_true, Bool.false_and, Bool.and_false, ne_eq, not_or, not_true_eq_false, not_false_eq_true, false_or, or_false, true_and, and_true, false_and, and_false, Int.natCast_zero, Int.natCast_add, Int.natCast_one, List.length_nil, List.length_cons, List.length_take, List.length_drop, List.length_replicate, List.length_append, List.length_set, Nat.zero_add] at hb) <;> (try (exfalso; omega)) <;> (try conv => whnf)) | (conv => whnf) | skip) | (intro hb <;> (try simp only [decide_eq_true_eq, decide_eq_false_iff_not, Bool.not_eq_true', Bool.not_eq_false', Bool.and_eq_true, Bool.or_eq_true, Bool.and_eq_false_iff, Bool.or_eq_false_iff, Bool.not_true, Bool.not_false, reduceCtorEq, Bool.true_and, Bool.and_true, Bool.false_and, Bool.and_false, ne_eq, not_or, not_true_eq_false, not_false_eq_true, false_or, or_false, true_and, and_true, false_and, and_false, Int.natCast_zero, Int.natCast_add, Int.natCast_one, List.length_nil, List.length_cons, List.length_take, List.length_drop, List.length_replicate, List.length_append, List.length_set, Nat.zero_add] at hb) <;> (try (exfalso; omega)) <;> (try conv => whnf)) | (refine hx.draw 400 (by kernel_rfl) ?_ <;> conv => whnf) | (refine hx.next 400 rfl ?_ <;> conv => whnf)
    all_goals try first | exact ⟨by decide⟩ | exact hin (by omega) | exact ⟨by omega⟩ | exact ⟨⟨by omega, by omega⟩⟩ | exact ⟨by omega, by omega⟩ | (exfalso; omega)
    refine Safe.loopUP (Y := Pl) (fun y => [(2, .v .any), (3, .v .any), (4, .v .any), (5, .v .any), (6, .v .any), (7, .v .any), (8, .v .any), (9, .v .any), (10, .v .any), (11, .v .any), (12, .v .any), (13, .v .any), (14, .v .any), (15, .v .any), (16, .v .any), (17, .v .any), (18, .v .any), (19, .v .any), (20, .v .any), (21, .v .any), (22, .v .any), (23, .v .any), (24, .v .any), (25, .v .any), (26, .v .any), (27, .v .any), (28, .v .any), (29, .v .any), (30, .v .any), (31, .v .any), (32, .v .any), (33, .v .any), (34, .v .any), (35, .v .any), (36, .v .any), (37, .v .any)]) (fun y => [(0, some (.box [.ptr 1 0, .full 48, .int .i64 y.bits, .int .i64 forks, .bool y.base, .bool y.fresh])), (1, some (.box [.sl .u8 b, .int .i64 y.p])), (5, none), (6, none), (7, none), (8, none), (9, none), (10, none), (11, none), (12, none), (13, none), (14, none), (15, none), (16, none), (17, none), (18, none), (19, none), (20, none), (21, none), (22, none), (23, none), (24, none), (25, none), (26, none), (27, none), (28, none), (29, none), (30, none), (31, none), (32, none), (33, none), (34, none), (35, none), (36, none), (37, none), (38, none), (39, none), (40, none), (48, some (.row eInst .inst y.out))]) (fun y => 0 ≤ y.bits ∧ y.bits ≤ bits ∧ p ≤ y.p ∧ y.p ≤ p + 600 * (bits - y.bits) ∧ out.length ≤ y.out.length ∧ y.out.length + y.bits ≤ out.length + bits ∧ LOk y.out) (fun y => y.bits.toNat) (⟨bits, p, out, base, fresh⟩) ?_ (StLe.upd ?_) fun y hP => ?_
    · dsimp only
      exact ⟨by omega, by omega, by omega, by omega, by omega, by omega, hlo⟩
    · conv => whnf
      repeat' first | exact trivial | exact .refl _ | exact .nilsl _ | exact .tt _ rfl | exact .ff _ rfl | exact .tb _ rfl | exact .fb _ rfl | exact .row _ _ _ _ rfl | (refine And.intro ?_ ?_ <;> try conv => whnf)
      all_goals try first | exact sameI (by omega) | exact sameI rfl | (refine sameI ?_; simp only [List.length_append, List.length_cons, List.length_nil]; omega)
    · try dsimp only at hP
      obtain ⟨q1, q2, q3, q4, q5, q6, q7⟩ := hP
      refine hx.next 400 rfl ?_
      conv => whnf
      repeat' first | exact SameX.refl _ | exact trivial | (refine And.intro ?_ ?_ <;> first | (intro hb <;> (try simp only [decide_eq_true_eq, decide_eq_false_iff_not, Bool.not_eq_true', Bool.not_eq_false', Bool.and_eq_true, Bool.or_eq_true, Bool.and_eq_false_iff, Bool.or_eq_false_iff, Bool.not_true, Bool.not_false, reduceCtorEq, Bool.true_and, Bool.and_true, Bool.false_and, Bool.and_false, ne_eq, not_or, not_true_eq_false, not_false_eq_true, false_or, or_false, true_and, and_true, false_and, and_false, Int.natCast_zero, Int.natCast_add, Int.natCast_one, List.length_nil, List.length_cons, List.length_take, List.length_drop, List.length_replicate, List.length_append, List.length_set, Nat.zero_add] at hb) <;> (try (exfalso; omega)) <;> (try conv => whnf)) | (conv => whnf) | skip) | (intro hb <;> (try simp only [decide_eq_true_eq, decide_eq_false_iff_not, Bool.not_eq_true', Bool.not_eq_false', Bool.and_eq_true, Bool.or_eq_true, Bool.and_eq_false_iff, Bool.or_eq_false_iff, Bool.not_true, Bool.not_false, reduceCtorEq, Bool.true_and, Bool.and_true, Bool.false_and, Bool.and_false, ne_eq, not_or, not_true_eq_false, not_false_eq_true, false_or, or_false, true_and, and_true, false_and, and_false, Int.natCast_zero, Int.natCast_add, Int.natCast_one, List.length_nil, List.length_cons, List.length_take, List.length_drop, List.length_replicate, List.length_append, List.length_set, Nat.zero_add] at hb) <;> (try (exfalso; omega)) <;> (try conv => whnf)) | (refine hx.draw 400 (by kernel_rfl) ?_ <;> conv => whnf) | (refine hx.next 400 rfl ?_ <;> conv => whnf)
      all_goals try first | exact ⟨by decide⟩ | exact hin (by omega) | exact ⟨by omega⟩ | exact ⟨⟨by omega, by omega⟩⟩ | exact ⟨by omega, by omega⟩ | (exfalso; omega)
      · rename_i i p' bs fr _
        have hla : (y.out ++ [i]).length = y.out.length + 1 := by simp
        refine ⟨⟨y.bits - 1, p', y.out ++ [i], bs, fr⟩, ?_, by first | omega | ((try dsimp only); (try simp only [List.length_append, List.length_cons, List.length_nil]); omega), StLe.swapU 30 48 (hx.hnp _ (by omega)) (hx.hnp _ (by omega)) rfl rfl ?_⟩
        · dsimp only
          exact ⟨by omega, by omega, by omega, by omega, by omega, by omega, LOk_app q7 hb⟩
        conv => whnf
        repeat' first | exact trivial | exact .refl _ | exact .nilsl _ | exact .tt _ rfl | exact .ff _ rfl | exact .tb _ rfl | exact .fb _ rfl | exact .row _ _ _ _ rfl | (refine And.intro ?_ ?_ <;> try conv => whnf)
        all_goals try first | exact sameI (by omega) | exact sameI rfl | (refine sameI ?_; simp only [List.length_append, List.length_cons, List.length_nil]; omega)
      · rename_i i p' bs fr _
        have hla : (y.out ++ [i]).length = y.out.length + 1 := by simp
        refine ⟨⟨y.bits - 1, p', y.out ++ [i], bs, fr⟩, ?_, by first | omega | ((try dsimp only); (try simp only [List.length_append, List.length_cons, List.length_nil]); omega), StLe.swapU 30 48 (hx.hnp _ (by omega)) (hx.hnp _ (by omega)) rfl rfl ?_⟩
        · dsimp only
          exact ⟨by omega, by omega, by omega, by omega, by omega, by omega, LOk_app q7 hb⟩
        conv => whnf
        repeat' first | exact trivial | exact .refl _ | exact .nilsl _ | exact .tt _ rfl | exact .ff _ rfl | exact .tb _ rfl | exact .fb _ rfl | exact .row _ _ _ _ rfl | (refine And.intro ?_ ?_ <;> try conv => whnf)
        all_goals try first | exact sameI (by omega) | exact sameI rfl | (refine sameI ?_; simp only [List.length_append, List.length_cons, List.length_nil]; omega)
      · rename_i i p' bs fr _
        have hla : (y.out ++ [i]).length = y.out.length + 1 := by simp
        refine ⟨⟨y.bits - 1, p', y.out ++ [i], bs, fr⟩, ?_, by first | omega | ((try dsimp only); (try simp only [List.length_append, List.length_cons, List.length_nil]); omega), StLe.swapU 32 48 (hx.hnp _ (by omega)) (hx.hnp _ (by omega)) rfl rfl ?_⟩
        · dsimp only
          exact ⟨by omega, by omega, by omega, by omega, by omega, by omega, LOk_app q7 hb⟩
        conv => whnf
        repeat' first | exact trivial | exact .refl _ | exact .nilsl _ | exact .tt _ rfl | exact .ff _ rfl | exact .tb _ rfl | exact .fb _ rfl | exact .row _ _ _ _ rfl | (refine And.intro ?_ ?_ <;> try conv => whnf)
        all_goals try first | exact sameI (by omega) | exact sameI rfl | (refine sameI ?_; simp only [List.length_append, List.length_cons, List.length_nil]; omega)
      · rename_i i p' bs fr _
        have hla : (y.out ++ [i]).length = y.out.length + 1 := by simp
        refine ⟨⟨y.bits - 1, p', y.out ++ [i], bs, fr⟩, ?_, by first | omega | ((try dsimp only); (try simp only [List.length_append, List.length_cons, List.length_nil]); omega), StLe.swapU 30 48 (hx.hnp _ (by omega)) (hx.hnp _ (by omega)) rfl rfl ?_⟩
        · dsimp only
          exact ⟨by omega, by omega, by omega, by omega, by omega, by omega, LOk_app q7 hb⟩
        conv => whnf
        repeat' first | exact trivial | exact .refl _ | exact .nilsl _ | exact .tt _ rfl | exact .ff _ rfl | exact .tb _ rfl | exact .fb _ rfl | exact .row _ _ _ _ rfl | (refine And.intro ?_ ?_ <;> try conv => whnf)
        all_goals try first | exact sameI (by omega) | exact sameI rfl | (refine sameI ?_; simp only [List.length_append, List.length_cons, List.length_nil]; omega)
      · rename_i i p' bs fr _
        have hla : (y.out ++ [i]).length = y.out.length + 1 := by simp
        refine ⟨⟨y.bits - 1, p', y.out ++ [i], bs, fr⟩, ?_, by first | omega | ((try dsimp only); (try simp only [List.length_append, List.length_cons, List.length_nil]); omega), StLe.swapU 32 48 (hx.hnp _ (by omega)) (hx.hnp _ (by omega)) rfl rfl ?_⟩
        · dsimp only
          exact ⟨by omega, by omega, by omega, by omega, by omega, by omega, LOk_app q7 hb⟩
        conv => whnf
        repeat' first | exact trivial | exact .refl _ | exact .nilsl _ | exact .tt _ rfl | exact .ff _ rfl | exact .tb _ rfl | exact .fb _ rfl | exact .row _ _ _ _ rfl | (refine And.intro ?_ ?_ <;> try conv => whnf)
        all_goals try first | exact sameI (by omega) | exact sameI rfl | (refine sameI ?_; simp only [List.length_append, List.length_cons, List.length_nil]; omega)
      · rename_i i p' bs fr _
        have hla : (y.out ++ [i]).length = y.out.length + 1 := by simp
        exact hS _ _ _ _ _ ⟨by omega, by omega, by omega, by omega, by omega, by omega, by omega⟩ (LOk_app q7 hb)
      · exact hS _ _ _ _ _ ⟨by omega, by omega, by omega, by omega, by omega, by omega, by omega⟩ q7
  · exact hS.elim
end Go.Proofs.Ytdpgdeaefmghiaa.Sx

/- Printed by gen2.py: contracts of functions. -/
namespace Go.Proofs.Ytdpgdeaefmghiaa.Sx
open Go.Proofs
set_option maxRecDepth 20000
set_option maxHeartbeats 4000000
set_option linter.unusedSimpArgs false
set_option linter.unusedVariables false
noncomputable def S_p_spec_l11Play_step : Spec := fun args sub K => match args, sub with
  | [.v (.ptr 0 0)], [some (.box [.ptr 1 0, .full 2, .int .i64 bits, .int .i64 forks, .bool base, .bool fresh]), some (.box [.sl .u8 b, .int .i64 p]), some (.row e .inst out)] => Hold (0 ≤ p ∧ p + 30000 ≤ 1000000000 ∧ b.length ≤ 2000 ∧ out.length ≤ 800000 ∧ 0 ≤ bits ∧ bits ≤ 16 ∧ 0 ≤ forks ∧ forks ≤ 8) ∧ Hold (e = eInst) ∧ Hold (LOk out) ∧ ∀ (out' : List Inst) (p' bits' forks' : Int) (base' fresh' : Bool), (p ≤ p' ∧ p' ≤ p + 30000 ∧ out'.length ≤ out.length + 30 ∧ out.length ≤ out'.length ∧ 0 ≤ bits' ∧ bits' ≤ 16 ∧ 0 ≤ forks' ∧ forks' ≤ 8) → LOk out' → K (.tup []) [some (.box [.ptr 1 0, .full 3, .int .i64 bits', .int .i64 forks', .bool base', .bool fresh']), some (.box [.sl .u8 b, .int .i64 p']), none, some (.row e .inst out')]
  | _, _ => False
theorem S_p_spec_l11Play_step_mono : Mono S_p_spec_l11Play_step := by
  intro args sub K K' hk h
  unfold S_p_spec_l11Play_step at h ⊢
  repeat' first | exact hk _ _ h | exact h.elim | exact ⟨fun hc => hk _ _ (h.1 hc), fun hc => hk _ _ (h.2 hc)⟩ | (refine ⟨h.1, ?_⟩; replace h := h.2) | (intro hc; replace h := h hc) | (refine And.imp ?_ ?_ h <;> clear h <;> intro h) | split at h
noncomputable abbrev E_p_spec_l11Play_step : Ent := ⟨nrm [[none]] S_p_spec_l11Play_step, true⟩
theorem g_p_spec_l11Play_step : Good CA 81 E_p_spec_l11Play_step := by
  refine Good.nrm _ (fn_go (ex := 4) (l := [(14, E_p_spec_l26Rd_pick), (80, E_p_spec_l11Play_put), (82, E_p_spec_l11Play_close)]) (bor := []) CA_td CA_eq CA_mix ⟨g_p_spec_l26Rd_pick, g_p_spec_l11Play_put, g_p_spec_l11Play_close, trivial⟩ Try.func81 rfl (by simp [Try.f81]) S_p_spec_l11Play_step_mono fun args sub K hS hA hO => ?_)
  unfold S_p_spec_l11Play_step at hS
  split at hS
  · rename_i bits forks base fresh b p e out
    refine ⟨by simp [Try.f81], fun E hx hnb => ?_⟩
    replace hx : Fx CA (hyOf [(14, E_p_spec_l26Rd_pick), (80, E_p_spec_l11Play_put), (82, E_p_spec_l11Play_close)] []) 3 171 E := hx
    obtain ⟨⟨hp⟩, ⟨he⟩, ⟨hlo⟩, hS⟩ := hS
    subst he
    refine Safe.swapK 2 171 (hnb _ rfl) (hx.hnp _ (by omega)) rfl rfl ?_
    conv => whnf
    refine hx.next 400 rfl ?_
    conv => whnf
    repeat' first | exact SameX.refl _ | exact trivial | (refine And.intro ?_ ?_ <;> first | (intro hb <;> (try simp only [decide_eq_true_eq, decide_eq_false_iff_not, Bool.not_eq_true', Bool.not_eq_false', Bool.and_eq_true, Bool.or_eq_true, Bool.and_eq_false_iff, Bool.or_eq_false_iff, Bool.not_true, Bool.not_false, reduceCtorEq, Bool.true_and, Bool.and_true, Bool.false_and, Bool.and_false, ne_eq, not_or, not_true_eq_false, not_false_eq_true, false_or, or_false, true_and, and_true, false_and, and_false, Int.natCast_zero, Int.natCast_add, Int.natCast_one, List.length_nil, List.length_cons, List.length_take, List.length_drop, List.length_replicate, List.length_append, List.length_set, Nat.zero_add] at hb) <;> (try (exfalso; omega)) <;> (try conv => whnf)) | (conv => whnf) | skip) | (intro hb <;> (try simp only [decide_eq_true_eq, decide_eq_false_iff_not, Bool.not_eq_true', Bool.not_eq_false', Bool.and_eq_true, Bool.or_eq_true, Bool.and_eq_false_iff, Bool.or_eq_false_iff, Bool.not_true, Bool.not_false, reduceCtorEq, Bool.true_and, Bool.and_true, Bool.false_and, Bool.and_false, ne_eq, not_or, not_true_eq_false, not_false_eq_true, false_or, or_false, true_and, and_true, false_and, and_false, Int.natCast_zero, Int.natCast_add, Int.natCast_one, List.length_nil, List.length_cons, List.length_take, List.length_drop, List.length_replicate, List.length_append, List.length_set, Nat.zero_add] at hb) <;> (try (exfalso; omega)) <;> (try conv => whnf)) | (refine hx.draw 400 (by kernel_rfl) ?_ <;> conv => whnf) | (refine hx.next 400 rfl ?_ <;> conv => whnf)
    all_goals try first | exact ⟨by decide⟩ | exact hin (by omega) | exact ⟨by omega⟩ | exact ⟨⟨by omega, by omega⟩⟩ | exact ⟨by omega, by omega⟩ | (exfalso; omega)
    all_goals try (simp only [List.length_take, List.length_drop, List.length_append, List.length_cons, List.length_nil, List.length_replicate, List.length_set, Ty.bytes, big, Nat.zero_add, Nat.add_zero]; first | exact hin (by omega) | exact ⟨by omega⟩ | exact ⟨⟨by omega, by omega⟩⟩ | exact ⟨by omega, by omega⟩)
    all_goals try (exact hS _ _ _ _ _ _ ⟨by omega, by omega, by omega, by omega, by omega, by omega, by omega, by omega⟩ (by first | assumption | exact LOk_app (by assumption) (by assumption)))
    all_goals try (exact hS _ _ _ _ _ _ ⟨by omega, by omega, by rw [List.length_append]; simp only [List.length_cons, List.length_nil]; omega, by rw [List.length_append]; simp only [List.length_cons, List.length_nil]; omega, by omega, by omega, by omega, by omega⟩ (by first | assumption | exact LOk_app (by assumption) (by assumption)))
    all_goals trace_state
  · exact hS.elim
end Go.Proofs.Ytdpgdeaefmghiaa.Sx

/- Printed by gen2.py: contracts of functions. -/
namespace Go.Proofs.Ytdpgdeaefmghiaa.Sx
open Go.Proofs
set_option maxRecDepth 20000
set_option maxHeartbeats 4000000
set_option linter.unusedSimpArgs false
set_option linter.unusedVariables false
structure Pk where
  i : Nat
  bits : Int
  forks : Int
  p : Int
  out : List Inst
  base : Bool
  fresh : Bool
noncomputable def S_p_spec_l11Play_rung : Spec := fun args sub K => match args, sub with
  | [.v (.ptr 0 0), .v (.int .i64 n)], [some (.box [.ptr 1 0, .full 2, .int .i64 bits, .int .i64 forks, .bool base, .bool fresh]), some (.box [.sl .u8 b, .int .i64 p]), some (.row e .inst out)] => Hold (0 ≤ p ∧ p + 2000000 ≤ 1000000000 ∧ b.length ≤ 2000 ∧ out.length ≤ 700000 ∧ 0 ≤ n ∧ n ≤ 40 ∧ 0 ≤ forks ∧ forks ≤ 8) ∧ Hold (e = eInst) ∧ Hold (LOk out) ∧ ∀ (out' : List Inst) (p' forks' : Int) (base' fresh' : Bool), (p ≤ p' ∧ p' ≤ p + 2000000 ∧ out'.length ≤ out.length + 2000 ∧ out.length < out'.length ∧ 0 ≤ forks' ∧ forks' ≤ 8) → LOk out' → K (.tup []) [some (.box [.ptr 1 0, .full 3, .int .i64 0, .int .i64 forks', .bool base', .bool fresh']), some (.box [.sl .u8 b, .int .i64 p']), none, some (.row e .inst out')]
  | _, _ => False
theorem S_p_spec_l11Play_rung_mono : Mono S_p_spec_l11Play_rung := by
  intro args sub K K' hk h
  unfold S_p_spec_l11Play_rung at h ⊢
  repeat' first | exact hk _ _ h | exact h.elim | exact ⟨fun hc => hk _ _ (h.1 hc), fun hc => hk _ _ (h.2 hc)⟩ | (refine ⟨h.1, ?_⟩; replace h := h.2) | (intro hc; replace h := h hc) | (refine And.imp ?_ ?_ h <;> clear h <;> intro h) | split at h
noncomputable abbrev E_p_spec_l11Play_rung : Ent := ⟨nrm [[none], [none]] S_p_spec_l11Play_rung, true⟩
theorem g_p_spec_l11Play_rung : Good CA 74 E_p_spec_l11Play_rung := by
  refine Good.nrm _ (fn_go (ex := 4) (l := [(80, E_p_spec_l11Play_put), (81, E_p_spec_l11Play_step), (82, E_p_spec_l11Play_close)]) (bor := []) CA_td CA_eq CA_mix ⟨g_p_spec_l11Play_put, g_p_spec_l11Play_step, g_p_spec_l11Play_close, trivial⟩ Try.func74 rfl (by simp [Try.f74]) S_p_spec_l11Play_rung_mono fun args sub K hS hA hO => ?_)
  unfold S_p_spec_l11Play_rung at hS
  split at hS
  · rename_i n bits forks base fresh b p e out
    refine ⟨by simp [Try.f74], fun E hx hnb => ?_⟩
    replace hx : Fx CA (hyOf [(80, E_p_spec_l11Play_put), (81, E_p_spec_l11Play_step), (82, E_p_spec_l11Play_close)] []) 3 47 E := hx
    obtain ⟨⟨hp⟩, ⟨he⟩, ⟨hlo⟩, hS⟩ := hS
    subst he
    refine hx.next 400 rfl ?_
    conv => whnf
    repeat' first | exact SameX.refl _ | exact trivial | (refine And.intro ?_ ?_ <;> first | (intro hb <;> (try simp only [decide_eq_true_eq, decide_eq_false_iff_not, Bool.not_eq_true', Bool.not_eq_false', Bool.and_eq_true, Bool.or_eq_true, Bool.and_eq_false_iff, Bool.or_eq_false_iff, Bool.not_true, Bool.not_false, reduceCtorEq, Bool.true_and, Bool.and_true, Bool.false_and, Bool.and_false, ne_eq, not_or, not_true_eq_false, not_false_eq_true, false_or, or_false, true_and, and_true, false_and, and_false, Int.natCast_zero, Int.natCast_add, Int.natCast_one, List.length_nil, List.length_cons, List.length_take, List.length_drop, List.length_replicate, List.length_append, List.length_set, Nat.zero_add] at hb) <;> (try (exfalso; omega)) <;> (try conv => whnf)) | (conv => whnf) | skip) | (intro hb <;> (try simp only [decide_eq_true_eq, decide_eq_false_iff_not, Bool.not_eq_true', Bool.not_eq_false', Bool.and_eq_true, Bool.or_eq_true, Bool.and_eq_false_iff, Bool.or_eq_false_iff, Bool.not_true, Bool.not_false, reduceCtorEq, Bool.true_and, Bool.and_true, Bool.false_and, Bool.and_false, ne_eq, not_or, not_true_eq_false, not_false_eq_true, false_or, or_false, true_and, and_true, false_and, and_false, Int.natCast_zero, Int.natCast_add, Int.natCast_one, List.length_nil, List.length_cons, List.length_take, List.length_drop, List.length_replicate, List.length_append, List.length_set, Nat.zero_add] at hb) <;> (try (exfalso; omega)) <;> (try conv => whnf)) | (refine hx.draw 400 (by kernel_rfl) ?_ <;> conv => whnf) | (refine hx.next 400 rfl ?_ <;> conv => whnf)
    all_goals try first | exact ⟨by decide⟩ | exact hin (by omega) | exact ⟨by omega⟩ | exact ⟨⟨by omega, by omega⟩⟩ | exact ⟨by omega, by omega⟩ | (exfalso; omega)
    rename_i i p' bs fr _
    have hla : (out ++ [i]).length = out.length + 1 := by simp
    refine Safe.loopUP (Y := Pk) (fun y => [(4, N64 (y.i : Int)), (13, .v .any), (14, .v .any), (15, .v .any), (16, .v .any), (17, .v .any), (18, .v .any), (19, .v .any)]) (fun y => [(0, some (.box [.ptr 1 0, .full 47, .int .i64 y.bits, .int .i64 y.forks, .bool y.base, .bool y.fresh])), (1, some (.box [.sl .u8 b, .int .i64 y.p])), (7, none), (12, none), (16, none), (17, none), (18, none), (19, none), (20, none), (21, none), (22, none), (47, some (.row eInst .inst y.out))]) (fun y => y.i ≤ n ∧ 0 ≤ y.bits ∧ y.bits ≤ 16 ∧ 0 ≤ y.forks ∧ y.forks ≤ 8 ∧ p ≤ y.p ∧ y.p ≤ p + 500 + 30000 * y.i ∧ out.length + 1 ≤ y.out.length ∧ y.out.length ≤ out.length + 1 + 30 * y.i ∧ LOk y.out) (fun y => n.toNat - y.i) (⟨0, 1, forks, p', out ++ [i], bs, fr⟩) ?_ (StLe.swapU 12 47 (hx.hnp _ (by omega)) (hx.hnp _ (by omega)) rfl rfl ?_) fun y hP => ?_
    · dsimp only
      exact ⟨by omega, by omega, by omega, by omega, by omega, by omega, by omega, by omega, by omega, LOk_app hlo hb⟩
    · conv => whnf
      repeat' first | exact trivial | exact .refl _ | exact .nilsl _ | exact .tt _ rfl | exact .ff _ rfl | exact .tb _ rfl | exact .fb _ rfl | exact .row _ _ _ _ rfl | (refine And.intro ?_ ?_ <;> try conv => whnf)
      all_goals try first | exact sameI (by omega) | exact sameI rfl | (refine sameI ?_; simp only [List.length_append, List.length_cons, List.length_nil]; omega)
    · try dsimp only at hP
      obtain ⟨q1, q2, q3, q4, q5, q6, q7, q8, q9, q10⟩ := hP
      refine hx.next 400 rfl ?_
      conv => whnf
      repeat' first | exact SameX.refl _ | exact trivial | (refine And.intro ?_ ?_ <;> first | (intro hb <;> (try simp only [decide_eq_true_eq, decide_eq_false_iff_not, Bool.not_eq_true', Bool.not_eq_false', Bool.and_eq_true, Bool.or_eq_true, Bool.and_eq_false_iff, Bool.or_eq_false_iff, Bool.not_true, Bool.not_false, reduceCtorEq, Bool.true_and, Bool.and_true, Bool.false_and, Bool.and_false, ne_eq, not_or, not_true_eq_false, not_false_eq_true, false_or, or_false, true_and, and_true, false_and, and_false, Int.natCast_zero, Int.natCast_add, Int.natCast_one, List.length_nil, List.length_cons, List.length_take, List.length_drop, List.length_replicate, List.length_append, List.length_set, Nat.zero_add] at hb) <;> (try (exfalso; omega)) <;> (try conv => whnf)) | (conv => whnf) | skip) | (intro hb <;> (try simp only [decide_eq_true_eq, decide_eq_false_iff_not, Bool.not_eq_true', Bool.not_eq_false', Bool.and_eq_true, Bool.or_eq_true, Bool.and_eq_false_iff, Bool.or_eq_false_iff, Bool.not_true, Bool.not_false, reduceCtorEq, Bool.true_and, Bool.and_true, Bool.false_and, Bool.and_false, ne_eq, not_or, not_true_eq_false, not_false_eq_true, false_or, or_false, true_and, and_true, false_and, and_false, Int.natCast_zero, Int.natCast_add, Int.natCast_one, List.length_nil, List.length_cons, List.length_take, List.length_drop, List.length_replicate, List.length_append, List.length_set, Nat.zero_add] at hb) <;> (try (exfalso; omega)) <;> (try conv => whnf)) | (refine hx.draw 400 (by kernel_rfl) ?_ <;> conv => whnf) | (refine hx.next 400 rfl ?_ <;> conv => whnf)
      all_goals try first | exact ⟨by decide⟩ | exact hin (by omega) | exact ⟨by omega⟩ | exact ⟨⟨by omega, by omega⟩⟩ | exact ⟨by omega, by omega⟩ | (exfalso; omega)
      · rename_i o' p2 b2 f2 bs2 fr2 _
        refine ⟨⟨y.i + 1, b2, f2, p2, o', bs2, fr2⟩, ?_, by first | omega | ((try dsimp only); (try simp only [List.length_append, List.length_cons, List.length_nil]); omega), StLe.swapU 22 47 (hx.hnp _ (by omega)) (hx.hnp _ (by omega)) rfl rfl ?_⟩
        · dsimp only
          exact ⟨by omega, by omega, by omega, by omega, by omega, by omega, by omega, by omega, by omega, hb⟩
        conv => whnf
        repeat' first | exact trivial | exact .refl _ | exact .nilsl _ | exact .tt _ rfl | exact .ff _ rfl | exact .tb _ rfl | exact .fb _ rfl | exact .row _ _ _ _ rfl | (refine And.intro ?_ ?_ <;> try conv => whnf)
        all_goals try first | exact sameI (by omega) | exact sameI rfl | (refine sameI ?_; simp only [List.length_append, List.length_cons, List.length_nil]; omega)
      · rename_i o' p2 b2 bs2 fr2 _
        refine Safe.loopUP (Y := Pk) (fun z => [(22, .v .any), (23, .v .any), (24, .v .any), (25, .v .any), (26, .v .any), (27, .v .any), (28, .v .any), (29, .v .any), (30, .v .any), (31, .v .any), (32, .v .any), (33, .v .any), (34, .v .any), (35, .v .any), (36, .v .any), (37, .v .any), (38, .v .any)]) (fun z => [(0, some (.box [.ptr 1 0, .full 47, .int .i64 z.bits, .int .i64 z.forks, .bool z.base, .bool z.fresh])), (1, some (.box [.sl .u8 b, .int .i64 z.p])), (24, none), (25, none), (26, none), (27, none), (28, none), (29, none), (30, none), (31, none), (32, none), (33, none), (34, none), (35, none), (36, none), (37, none), (38, none), (39, none), (40, none), (41, none), (47, some (.row eInst .inst z.out))]) (fun z => 0 ≤ z.bits ∧ z.bits ≤ 16 ∧ 0 ≤ z.forks ∧ z.forks ≤ y.forks ∧ p ≤ z.p ∧ z.p ≤ p + 1220500 + 21000 * (y.forks - z.forks) ∧ out.length + 1 ≤ z.out.length ∧ z.out.length ≤ out.length + 1220 + 20 * (y.forks - z.forks) ∧ LOk z.out) (fun z => z.forks.toNat) (⟨0, b2, y.forks, p2, o', bs2, fr2⟩) ?_ (StLe.swapU 24 47 (hx.hnp _ (by omega)) (hx.hnp _ (by omega)) rfl rfl ?_) fun z hP => ?_
        · dsimp only
          exact ⟨by omega, by omega, by omega, by omega, by omega, by omega, by omega, by omega, hb⟩
        · conv => whnf
          repeat' first | exact trivial | exact .refl _ | exact .nilsl _ | exact .tt _ rfl | exact .ff _ rfl | exact .tb _ rfl | exact .fb _ rfl | exact .row _ _ _ _ rfl | (refine And.intro ?_ ?_ <;> try conv => whnf)
          all_goals try first | exact sameI (by omega) | exact sameI rfl | (refine sameI ?_; simp only [List.length_append, List.length_cons, List.length_nil]; omega)
        · try dsimp only at hP
          obtain ⟨r1, r2, r3, r4, r5, r6, r7, r8, r9⟩ := hP
          refine hx.next 400 rfl ?_
          conv => whnf
          repeat' first | exact SameX.refl _ | exact trivial | (refine And.intro ?_ ?_ <;> first | (intro hb <;> (try simp only [decide_eq_true_eq, decide_eq_false_iff_not, Bool.not_eq_true', Bool.not_eq_false', Bool.and_eq_true, Bool.or_eq_true, Bool.and_eq_false_iff, Bool.or_eq_false_iff, Bool.not_true, Bool.not_false, reduceCtorEq, Bool.true_and, Bool.and_true, Bool.false_and, Bool.and_false, ne_eq, not_or, not_true_eq_false, not_false_eq_true, false_or, or_false, true_and, and_true, false_and, and_false, Int.natCast_zero, Int.natCast_add, Int.natCast_one, List.length_nil, List.length_cons, List.length_take, List.length_drop, List.length_replicate, List.length_append, List.length_set, Nat.zero_add] at hb) <;> (try (exfalso; omega)) <;> (try conv => whnf)) | (conv => whnf) | skip) | (intro hb <;> (try simp only [decide_eq_true_eq, decide_eq_false_iff_not, Bool.not_eq_true', Bool.not_eq_false', Bool.and_eq_true, Bool.or_eq_true, Bool.and_eq_false_iff, Bool.or_eq_false_iff, Bool.not_true, Bool.not_false, reduceCtorEq, Bool.true_and, Bool.and_true, Bool.false_and, Bool.and_false, ne_eq, not_or, not_true_eq_false, not_false_eq_true, false_or, or_false, true_and, and_true, false_and, and_false, Int.natCast_zero, Int.natCast_add, Int.natCast_one, List.length_nil, List.length_cons, List.length_take, List.length_drop, List.length_replicate, List.length_append, List.length_set, Nat.zero_add] at hb) <;> (try (exfalso; omega)) <;> (try conv => whnf)) | (refine hx.draw 400 (by kernel_rfl) ?_ <;> conv => whnf) | (refine hx.next 400 rfl ?_ <;> conv => whnf)
          all_goals try first | exact ⟨by decide⟩ | exact hin (by omega) | exact ⟨by omega⟩ | exact ⟨⟨by omega, by omega⟩⟩ | exact ⟨by omega, by omega⟩ | (exfalso; omega)
          all_goals (have hall : ∀ x, (z.out ++ [x]).length = z.out.length + 1 := fun x => by simp)
          · exact ⟨by rw [hall]; omega⟩
          · exact ⟨LOk_app r9 hb⟩
          · rename_i i2 p3 _ _ _ _ o2 p4 b4 bs4 fr4 h4
            refine ⟨⟨0, b4, z.forks - 1, p4, o2, bs4, fr4⟩, ?_, by first | omega | ((try dsimp only); (try simp only [List.length_append, List.length_cons, List.length_nil]); omega), StLe.swapU 41 47 (hx.hnp _ (by omega)) (hx.hnp _ (by omega)) rfl rfl ?_⟩
            · dsimp only
              exact ⟨by omega, by omega, by omega, by omega, by omega, by omega, by omega, by omega, hb⟩
            conv => whnf
            repeat' first | exact trivial | exact .refl _ | exact .nilsl _ | exact .tt _ rfl | exact .ff _ rfl | exact .tb _ rfl | exact .fb _ rfl | exact .row _ _ _ _ rfl | (refine And.intro ?_ ?_ <;> try conv => whnf)
            all_goals try first | exact sameI (by omega) | exact sameI rfl | (refine sameI ?_; simp only [List.length_append, List.length_cons, List.length_nil]; omega)
          · exact hS _ _ _ _ _ ⟨by omega, by omega, by rw [hall]; omega, by rw [hall]; omega, by omega, by omega⟩ (LOk_app r9 hb)
  · exact hS.elim
end Go.Proofs.Ytdpgdeaefmghiaa.Sx

/- Printed by gen2.py: contracts of functions. -/
namespace Go.Proofs.Ytdpgdeaefmghiaa.Sx
open Go.Proofs
set_option maxRecDepth 20000
set_option maxHeartbeats 4000000
set_option linter.unusedSimpArgs false
set_option linter.unusedVariables false
noncomputable def S_spec_l11Sure : Spec := fun args sub K => match args, sub with
  | [.v (.ptr 0 0)], [some (.box [.sl .u8 b, .int .i64 p])] => Hold (0 ≤ p ∧ p + 200000000 ≤ 1000000000 ∧ b.length ≤ 2000) ∧ (∀ (out : List Inst) (p' : Int), (p ≤ p' ∧ p' ≤ p + 200000000 ∧ out.length ≤ 200000) → LOk out → K (.v (.sl .inst out)) [some (.box [.sl .u8 b, .int .i64 p'])]) ∧ (∀ p' : Int, (p ≤ p' ∧ p' ≤ p + 200000000) → K (.v .nil) [some (.box [.sl .u8 b, .int .i64 p'])])
  | _, _ => False
theorem S_spec_l11Sure_mono : Mono S_spec_l11Sure := by
  intro args sub K K' hk h
  unfold S_spec_l11Sure at h ⊢
  repeat' first | exact hk _ _ h | exact h.elim | exact ⟨fun hc => hk _ _ (h.1 hc), fun hc => hk _ _ (h.2 hc)⟩ | (refine ⟨h.1, ?_⟩; replace h := h.2) | (intro hc; replace h := h hc) | (refine And.imp ?_ ?_ h <;> clear h <;> intro h) | split at h
noncomputable abbrev E_spec_l11Sure : Ent := ⟨nrm [[none]] S_spec_l11Sure, false⟩
theorem g_spec_l11Sure : Good CA 66 E_spec_l11Sure := by
  refine Good.nrm _ (fn_go (ex := 4) (l := [(14, E_p_spec_l26Rd_pick), (74, E_p_spec_l11Play_rung)]) (bor := []) CA_td CA_eq CA_mix ⟨g_p_spec_l26Rd_pick, g_p_spec_l11Play_rung, trivial⟩ Try.func66 rfl (by simp [Try.f66]) S_spec_l11Sure_mono fun args sub K hS hA hO => ?_)
  unfold S_spec_l11Sure at hS
  split at hS
  · rename_i b p
    refine ⟨by simp [Try.f66], fun E hx hnb => ?_⟩
    replace hx : Fx CA (hyOf [(14, E_p_spec_l26Rd_pick), (74, E_p_spec_l11Play_rung)] []) 1 44 E := hx
    obtain ⟨⟨hp⟩, hS, hN⟩ := hS
    refine hx.next 400 rfl ?_
    conv => whnf
    repeat' first | exact SameX.refl _ | exact trivial | (refine And.intro ?_ ?_ <;> first | (intro hb <;> (try simp only [decide_eq_true_eq, decide_eq_false_iff_not, Bool.not_eq_true', Bool.not_eq_false', Bool.and_eq_true, Bool.or_eq_true, Bool.and_eq_false_iff, Bool.or_eq_false_iff, Bool.not_true, Bool.not_false, reduceCtorEq, Bool.true_and, Bool.and_true, Bool.false_and, Bool.and_false, ne_eq, not_or, not_true_eq_false, not_false_eq_true, false_or, or_false, true_and, and_true, false_and, and_false, Int.natCast_zero, Int.natCast_add, Int.natCast_one, List.length_nil, List.length_cons, List.length_take, List.length_drop, List.length_replicate, List.length_append, List.length_set, Nat.zero_add] at hb) <;> (try (exfalso; omega)) <;> (try conv => whnf)) | (conv => whnf) | skip) | (intro hb <;> (try simp only [decide_eq_true_eq, decide_eq_false_iff_not, Bool.not_eq_true', Bool.not_eq_false', Bool.and_eq_true, Bool.or_eq_true, Bool.and_eq_false_iff, Bool.or_eq_false_iff, Bool.not_true, Bool.not_false, reduceCtorEq, Bool.true_and, Bool.and_true, Bool.false_and, Bool.and_false, ne_eq, not_or, not_true_eq_false, not_false_eq_true, false_or, or_false, true_and, and_true, false_and, and_false, Int.natCast_zero, Int.natCast_add, Int.natCast_one, List.length_nil, List.length_cons, List.length_take, List.length_drop, List.length_replicate, List.length_append, List.length_set, Nat.zero_add] at hb) <;> (try (exfalso; omega)) <;> (try conv => whnf)) | (refine hx.draw 400 (by kernel_rfl) ?_ <;> conv => whnf) | (refine hx.next 400 rfl ?_ <;> conv => whnf)
    all_goals try first | exact ⟨by decide⟩ | exact hin (by omega) | exact ⟨by omega⟩ | exact ⟨⟨by omega, by omega⟩⟩ | exact ⟨by omega, by omega⟩ | (exfalso; omega)
    · exact hN _ ⟨by omega, by omega⟩
    · rename_i v _ _ w
      refine Safe.loopUP (Y := Pk) (fun y => [(4, N64 (y.i : Int)), (6, A), (18, .v .any), (19, .v .any), (20, .v .any), (21, .v .any), (22, .v .any), (23, .v .any), (24, .v .any), (25, .v .any)]) (fun y => [(0, some (.box [.sl .u8 b, .int .i64 y.p])), (5, none), (8, some (.box [.ptr 0 0, .full 44, .int .i64 0, .int .i64 y.forks, .bool y.base, .bool y.fresh])), (19, none), (20, none), (21, none), (22, none), (23, none), (24, none), (25, none), (26, none), (44, some (.row eInst .inst y.out))]) (fun y => y.i ≤ 3 ∧ 0 ≤ y.forks ∧ y.forks ≤ 8 ∧ p ≤ y.p ∧ y.p ≤ p + 2 + 2000001 * (3 - (y.i : Int)) ∧ y.out.length ≤ 2000 * (3 - y.i) ∧ LOk y.out) (fun y => y.i) (⟨(1 + w).toNat, 0, 0, p + 1 + 1, [], false, false⟩) ?_ (StLe.virtBox 8 1 44 _ eInst .inst rfl rfl (Nat.le_of_ble_eq_true rfl) (hx.hnp _ (by omega)) rfl rfl (StLe.upd ?_)) fun y hP => ?_
      · dsimp only
        exact ⟨by omega, by omega, by omega, by omega, by omega, by simp, LOk_nil⟩
      · conv => whnf
        repeat' first | exact trivial | exact .refl _ | exact .nilsl _ | exact .tt _ rfl | exact .ff _ rfl | exact .tb _ rfl | exact .fb _ rfl | exact .row _ _ _ _ rfl | (refine And.intro ?_ ?_ <;> try conv => whnf)
        all_goals try first | exact sameI (by omega) | exact sameI rfl | (refine sameI ?_; simp only [List.length_append, List.length_cons, List.length_nil]; omega)
      · try dsimp only at hP
        obtain ⟨q1, q2, q3, q4, q5, q6, q7⟩ := hP
        refine hx.next 400 rfl ?_
        conv => whnf
        repeat' first | exact SameX.refl _ | exact trivial | (refine And.intro ?_ ?_ <;> first | (intro hb <;> (try simp only [decide_eq_true_eq, decide_eq_false_iff_not, Bool.not_eq_true', Bool.not_eq_false', Bool.and_eq_true, Bool.or_eq_true, Bool.and_eq_false_iff, Bool.or_eq_false_iff, Bool.not_true, Bool.not_false, reduceCtorEq, Bool.true_and, Bool.and_true, Bool.false_and, Bool.and_false, ne_eq, not_or, not_true_eq_false, not_false_eq_true, false_or, or_false, true_and, and_true, false_and, and_false, Int.natCast_zero, Int.natCast_add, Int.natCast_one, List.length_nil, List.length_cons, List.length_take, List.length_drop, List.length_replicate, List.length_append, List.length_set, Nat.zero_add] at hb) <;> (try (exfalso; omega)) <;> (try conv => whnf)) | (conv => whnf) | skip) | (intro hb <;> (try simp only [decide_eq_true_eq, decide_eq_false_iff_not, Bool.not_eq_true', Bool.not_eq_false', Bool.and_eq_true, Bool.or_eq_true, Bool.and_eq_false_iff, Bool.or_eq_false_iff, Bool.not_true, Bool.not_false, reduceCtorEq, Bool.true_and, Bool.and_true, Bool.false_and, Bool.and_false, ne_eq, not_or, not_true_eq_false, not_false_eq_true, false_or, or_false, true_and, and_true, false_and, and_false, Int.natCast_zero, Int.natCast_add, Int.natCast_one, List.length_nil, List.length_cons, List.length_take, List.length_drop, List.length_replicate, List.length_append, List.length_set, Nat.zero_add] at hb) <;> (try (exfalso; omega)) <;> (try conv => whnf)) | (refine hx.draw 400 (by kernel_rfl) ?_ <;> conv => whnf) | (refine hx.next 400 rfl ?_ <;> conv => whnf)
        all_goals try first | exact ⟨by decide⟩ | exact hin (by omega) | exact ⟨by omega⟩ | exact ⟨⟨by omega, by omega⟩⟩ | exact ⟨by omega, by omega⟩ | (exfalso; omega)
        · rename_i o2 p2 f2 bs2 fr2 _
          refine ⟨⟨y.i - 1, 0, f2, p2, o2, bs2, fr2⟩, ?_, by first | omega | ((try dsimp only); (try simp only [List.length_append, List.length_cons, List.length_nil]); omega), StLe.swapU 26 44 (hx.hnp _ (by omega)) (hx.hnp _ (by omega)) rfl rfl ?_⟩
          · dsimp only
            exact ⟨by omega, by omega, by omega, by omega, by omega, by omega, hb⟩
          conv => whnf
          repeat' first | exact trivial | exact .refl _ | exact .nilsl _ | exact .tt _ rfl | exact .ff _ rfl | exact .tb _ rfl | exact .fb _ rfl | exact .row _ _ _ _ rfl | (refine And.intro ?_ ?_ <;> try conv => whnf)
          all_goals try first | exact sameI (by omega) | exact sameI rfl | (refine sameI ?_; simp only [List.length_append, List.length_cons, List.length_nil]; omega)
        · refine Safe.loopUP (Y := Pk) (fun z => [(29, .v .any), (30, .v .any), (31, .v .any), (32, .v .any), (33, .v .any), (34, .v .any), (35, .v .any), (36, .v .any), (37, .v .any), (38, .v .any)]) (fun z => [(0, some (.box [.sl .u8 b, .int .i64 z.p])), (8, some (.box [.ptr 0 0, .full 44, .int .i64 0, .int .i64 z.forks, .bool z.base, .bool z.fresh])), (30, none), (31, none), (32, none), (33, none), (34, none), (35, none), (36, none), (37, none), (38, none), (39, none), (44, some (.row eInst .inst z.out))]) (fun z => z.i ≤ z.out.length ∧ 0 ≤ z.forks ∧ z.forks ≤ 8 ∧ p ≤ z.p ∧ z.p ≤ p + 7000000 + 2000001 * (z.i : Int) ∧ z.out.length ≤ 6000 ∧ LOk z.out ∧ z.i ≤ 60) (fun z => 60 - z.out.length) (⟨0, 0, y.forks, y.p + 1, y.out, y.base, y.fresh⟩) ?_ (StLe.upd ?_) fun z hP => ?_
          · dsimp only
            exact ⟨by omega, by omega, by omega, by omega, by omega, by omega, q7, by omega⟩
          · conv => whnf
            repeat' first | exact trivial | exact .refl _ | exact .nilsl _ | exact .tt _ rfl | exact .ff _ rfl | exact .tb _ rfl | exact .fb _ rfl | exact .row _ _ _ _ rfl | (refine And.intro ?_ ?_ <;> try conv => whnf)
            all_goals try first | exact sameI (by omega) | exact sameI rfl | (refine sameI ?_; simp only [List.length_append, List.length_cons, List.length_nil]; omega)
          · try dsimp only at hP
            obtain ⟨r1, r2, r3, r4, r5, r6, r7, r8⟩ := hP
            refine hx.next 400 rfl ?_
            conv => whnf
            repeat' first | exact SameX.refl _ | exact trivial | (refine And.intro ?_ ?_ <;> first | (intro hb <;> (try simp only [decide_eq_true_eq, decide_eq_false_iff_not, Bool.not_eq_true', Bool.not_eq_false', Bool.and_eq_true, Bool.or_eq_true, Bool.and_eq_false_iff, Bool.or_eq_false_iff, Bool.not_true, Bool.not_false, reduceCtorEq, Bool.true_and, Bool.and_true, Bool.false_and, Bool.and_false, ne_eq, not_or, not_true_eq_false, not_false_eq_true, false_or, or_false, true_and, and_true, false_and, and_false, Int.natCast_zero, Int.natCast_add, Int.natCast_one, List.length_nil, List.length_cons, List.length_take, List.length_drop, List.length_replicate, List.length_append, List.length_set, Nat.zero_add] at hb) <;> (try (exfalso; omega)) <;> (try conv => whnf)) | (conv => whnf) | skip) | (intro hb <;> (try simp only [decide_eq_true_eq, decide_eq_false_iff_not, Bool.not_eq_true', Bool.not_eq_false', Bool.and_eq_true, Bool.or_eq_true, Bool.and_eq_false_iff, Bool.or_eq_false_iff, Bool.not_true, Bool.not_false, reduceCtorEq, Bool.true_and, Bool.and_true, Bool.false_and, Bool.and_false, ne_eq, not_or, not_true_eq_false, not_false_eq_true, false_or, or_false, true_and, and_true, false_and, and_false, Int.natCast_zero, Int.natCast_add, Int.natCast_one, List.length_nil, List.length_cons, List.length_take, List.length_drop, List.length_replicate, List.length_append, List.length_set, Nat.zero_add] at hb) <;> (try (exfalso; omega)) <;> (try conv => whnf)) | (refine hx.draw 400 (by kernel_rfl) ?_ <;> conv => whnf) | (refine hx.next 400 rfl ?_ <;> conv => whnf)
            all_goals try first | exact ⟨by decide⟩ | exact hin (by omega) | exact ⟨by omega⟩ | exact ⟨⟨by omega, by omega⟩⟩ | exact ⟨by omega, by omega⟩ | (exfalso; omega)
            · rename_i o2 p2 f2 bs2 fr2 _
              refine ⟨⟨z.i + 1, 0, f2, p2, o2, bs2, fr2⟩, ?_, by first | omega | ((try dsimp only); (try simp only [List.length_append, List.length_cons, List.length_nil]); omega), StLe.swapU 39 44 (hx.hnp _ (by omega)) (hx.hnp _ (by omega)) rfl rfl ?_⟩
              · dsimp only
                exact ⟨by omega, by omega, by omega, by omega, by omega, by omega, hb, by omega⟩
              conv => whnf
              repeat' first | exact trivial | exact .refl _ | exact .nilsl _ | exact .tt _ rfl | exact .ff _ rfl | exact .tb _ rfl | exact .fb _ rfl | exact .row _ _ _ _ rfl | (refine And.intro ?_ ?_ <;> try conv => whnf)
              all_goals try first | exact sameI (by omega) | exact sameI rfl | (refine sameI ?_; simp only [List.length_append, List.length_cons, List.length_nil]; omega)
            · exact hS _ _ ⟨by omega, by omega, by omega⟩ r7
        · exact hS _ _ ⟨by omega, by omega, by omega⟩ q7
  · exact hS.elim
end Go.Proofs.Ytdpgdeaefmghiaa.Sx

/- Printed by gen2.py: contracts of functions. -/
namespace Go.Proofs.Ytdpgdeaefmghiaa.Sx
open Go.Proofs
set_option maxRecDepth 20000
set_option maxHeartbeats 4000000
set_option linter.unusedSimpArgs false
set_option linter.unusedVariables false
theorem AB_app {l m : List DevArg} (h : AB l) (h' : AB m) : AB (l ++ m) := fun a ha => by
  rw [List.mem_append] at ha; rcases ha with ha | ha
  · exact h a ha
  · exact h' a ha
theorem AB_set {l : List DevArg} {i : Nat} {k n q : Int} (h : -1000000000000 ≤ n ∧ n ≤ 1000000000000) (hl : AB l) : AB (l.set i ⟨k, n, q⟩) := fun a ha => by
  rcases List.mem_or_eq_of_mem_set ha with ha | ha
  · exact hl a ha
  · subst ha; exact h
theorem AB_getD {l : List DevArg} (h : AB l) (i : Nat) : -1000000000000 ≤ (l.getD i Ty.devarg.dflt).n ∧ (l.getD i Ty.devarg.dflt).n ≤ 1000000000000 := by
  rw [List.getD_eq_getElem?_getD]
  cases hi : l[i]? with
  | none => exact ⟨by decide, by decide⟩
  | some a => exact h a (List.mem_of_getElem? hi)
noncomputable def S_spec_l11Inst : Spec := fun args sub K => match args, sub with
  | [.v (.ptr 0 0)], [some (.box [.sl .u8 b, .int .i64 p])] => Hold (0 ≤ p ∧ p + 300 ≤ 1000000000 ∧ b.length ≤ 2000) ∧ (∀ (c op p' : Int) (l : List DevArg), (p ≤ p' ∧ p' ≤ p + 300 ∧ 1 ≤ l.length ∧ l.length ≤ 3) → AB l → K (.agg [.int .i64 c, .int .i64 op, .sl .devarg l]) [some (.box [.sl .u8 b, .int .i64 p'])]) ∧ (∀ (c p' : Int), (p ≤ p' ∧ p' ≤ p + 300 ∧ hasOne c = false) → K (.agg [.int .i64 c, .int .i64 0, .nil]) [some (.box [.sl .u8 b, .int .i64 p'])])
  | _, _ => False
theorem S_spec_l11Inst_mono : Mono S_spec_l11Inst := by
  intro args sub K K' hk h
  unfold S_spec_l11Inst at h ⊢
  repeat' first | exact hk _ _ h | exact h.elim | exact ⟨fun hc => hk _ _ (h.1 hc), fun hc => hk _ _ (h.2 hc)⟩ | (refine ⟨h.1, ?_⟩; replace h := h.2) | (intro hc; replace h := h hc) | (refine And.imp ?_ ?_ h <;> clear h <;> intro h) | split at h
noncomputable abbrev E_spec_l11Inst : Ent := ⟨nrm [[none]] S_spec_l11Inst, false⟩
theorem g_spec_l11Inst : Good CA 51 E_spec_l11Inst := by
  refine Good.nrm _ (fn_go (ex := 4) (l := [(67, E_p_spec_l26Rd_num), (68, E_spec_l4Contact), (69, E_spec_l4Coil)]) (bor := []) CA_td CA_eq CA_mix ⟨g_p_spec_l26Rd_num, g_spec_l4Contact, g_spec_l4Coil, trivial⟩ Try.func51 rfl (by simp [Try.f51]) S_spec_l11Inst_mono fun args sub K hS hA hO => ?_)
  unfold S_spec_l11Inst at hS
  split at hS
  · rename_i b p
    refine ⟨by simp [Try.f51], fun E hx hnb => ?_⟩
    replace hx : Fx CA (hyOf [(67, E_p_spec_l26Rd_num), (68, E_spec_l4Contact), (69, E_spec_l4Coil)] []) 1 24 E := hx
    obtain ⟨⟨hp⟩, hS, hN⟩ := hS
    refine hx.next 400 rfl ?_
    conv => whnf
    repeat' first | exact SameX.refl _ | exact trivial | (refine And.intro ?_ ?_ <;> first | (intro hb <;> (try simp only [decide_eq_true_eq, decide_eq_false_iff_not, Bool.not_eq_true', Bool.not_eq_false', Bool.and_eq_true, Bool.or_eq_true, Bool.and_eq_false_iff, Bool.or_eq_false_iff, Bool.not_true, Bool.not_false, reduceCtorEq, Bool.true_and, Bool.and_true, Bool.false_and, Bool.and_false, ne_eq, not_or, not_true_eq_false, not_false_eq_true, false_or, or_false, true_and, and_true, false_and, and_false, Int.natCast_zero, Int.natCast_add, Int.natCast_one, List.length_nil, List.length_cons, List.length_take, List.length_drop, List.length_replicate, List.length_append, List.length_set, Nat.zero_add] at hb) <;> (try (exfalso; omega)) <;> (try conv => whnf)) | (conv => whnf) | skip) | (intro hb <;> (try simp only [decide_eq_true_eq, decide_eq_false_iff_not, Bool.not_eq_true', Bool.not_eq_false', Bool.and_eq_true, Bool.or_eq_true, Bool.and_eq_false_iff, Bool.or_eq_false_iff, Bool.not_true, Bool.not_false, reduceCtorEq, Bool.true_and, Bool.and_true, Bool.false_and, Bool.and_false, ne_eq, not_or, not_true_eq_false, not_false_eq_true, false_or, or_false, true_and, and_true, false_and, and_false, Int.natCast_zero, Int.natCast_add, Int.natCast_one, List.length_nil, List.length_cons, List.length_take, List.length_drop, List.length_replicate, List.length_append, List.length_set, Nat.zero_add] at hb) <;> (try (exfalso; omega)) <;> (try conv => whnf)) | (refine hx.draw 400 (by kernel_rfl) ?_ <;> conv => whnf) | (refine hx.next 400 rfl ?_ <;> conv => whnf)
    all_goals try first | exact ⟨by decide⟩ | exact hin (by omega) | exact ⟨by omega⟩ | exact ⟨⟨by omega, by omega⟩⟩ | exact ⟨by omega, by omega⟩ | (exfalso; omega)
    all_goals first
      | exact hS _ _ _ _ ⟨by omega, by omega, by omega, by omega⟩ (by assumption)
      | exact hN _ _ ⟨by omega, by omega, by simp only [hasOne, Bool.or_eq_false_iff, Bool.and_eq_false_iff, decide_eq_false_iff_not]; omega⟩
  · exact hS.elim
noncomputable def S_spec_l4Spoil : Spec := fun args sub K => match args, sub with
  | [.v (.ptr 0 0), .agg [.int .i64 op0, .sl .devarg l0]], [some (.box [.sl .u8 b, .int .i64 p])] => Hold (0 ≤ p ∧ p + 200 ≤ 1000000000 ∧ b.length ≤ 2000) ∧ Hold (l0.length ≤ 1000 ∧ AB l0) ∧ (∀ (op p' : Int) (l : List DevArg), (p ≤ p' ∧ p' ≤ p + 200 ∧ l.length ≤ l0.length + 1) → AB l → K (.agg [.int .i64 op, .sl .devarg l]) [some (.box [.sl .u8 b, .int .i64 p'])]) ∧ (∀ (op p' : Int), (p ≤ p' ∧ p' ≤ p + 200) → K (.agg [.int .i64 op, .nil]) [some (.box [.sl .u8 b, .int .i64 p'])])
  | _, _ => False
theorem S_spec_l4Spoil_mono : Mono S_spec_l4Spoil := by
  intro args sub K K' hk h
  unfold S_spec_l4Spoil at h ⊢
  repeat' first | exact hk _ _ h | exact h.elim | exact ⟨fun hc => hk _ _ (h.1 hc), fun hc => hk _ _ (h.2 hc)⟩ | (refine ⟨h.1, ?_⟩; replace h := h.2) | (intro hc; replace h := h hc) | (refine And.imp ?_ ?_ h <;> clear h <;> intro h) | split at h
noncomputable abbrev E_spec_l4Spoil : Ent := ⟨nrm [[none], [none, some .devarg]] S_spec_l4Spoil, false⟩
theorem g_spec_l4Spoil : Good CA 53 E_spec_l4Spoil := by
  refine Good.nrm _ (fn_go (ex := 4) (l := [(14, E_p_spec_l26Rd_pick), (67, E_p_spec_l26Rd_num), (70, E_spec_l2Any), (71, E_spec_l2Spoilt)]) (bor := []) CA_td CA_eq CA_mix ⟨g_p_spec_l26Rd_pick, g_p_spec_l26Rd_num, g_spec_l2Any, g_spec_l2Spoilt, trivial⟩ Try.func53 rfl (by simp [Try.f53]) S_spec_l4Spoil_mono fun args sub K hS hA hO => ?_)
  unfold S_spec_l4Spoil at hS
  split at hS
  · rename_i op0 l0 b p
    refine ⟨by simp [Try.f53], fun E hx hnb => ?_⟩
    replace hx : Fx CA (hyOf [(14, E_p_spec_l26Rd_pick), (67, E_p_spec_l26Rd_num), (70, E_spec_l2Any), (71, E_spec_l2Spoilt)] []) 1 64 E := hx
    obtain ⟨⟨hp⟩, ⟨hl, hab⟩, hS, hN⟩ := hS
    refine hx.next 400 rfl ?_
    conv => whnf
    repeat' first | exact SameX.refl _ | exact trivial | (refine And.intro ?_ ?_ <;> first | (intro hb <;> (try simp only [decide_eq_true_eq, decide_eq_false_iff_not, Bool.not_eq_true', Bool.not_eq_false', Bool.and_eq_true, Bool.or_eq_true, Bool.and_eq_false_iff, Bool.or_eq_false_iff, Bool.not_true, Bool.not_false, reduceCtorEq, Bool.true_and, Bool.and_true, Bool.false_and, Bool.and_false, ne_eq, not_or, not_true_eq_false, not_false_eq_true, false_or, or_false, true_and, and_true, false_and, and_false, Int.natCast_zero, Int.natCast_add, Int.natCast_one, List.length_nil, List.length_cons, List.length_take, List.length_drop, List.length_replicate, List.length_append, List.length_set, Nat.zero_add] at hb) <;> (try (exfalso; omega)) <;> (try conv => whnf)) | (conv => whnf) | skip) | (intro hb <;> (try simp only [decide_eq_true_eq, decide_eq_false_iff_not, Bool.not_eq_true', Bool.not_eq_false', Bool.and_eq_true, Bool.or_eq_true, Bool.and_eq_false_iff, Bool.or_eq_false_iff, Bool.not_true, Bool.not_false, reduceCtorEq, Bool.true_and, Bool.and_true, Bool.false_and, Bool.and_false, ne_eq, not_or, not_true_eq_false, not_false_eq_true, false_or, or_false, true_and, and_true, false_and, and_false, Int.natCast_zero, Int.natCast_add, Int.natCast_one, List.length_nil, List.length_cons, List.length_take, List.length_drop, List.length_replicate, List.length_append, List.length_set, Nat.zero_add] at hb) <;> (try (exfalso; omega)) <;> (try conv => whnf)) | (refine hx.draw 400 (by kernel_rfl) ?_ <;> conv => whnf) | (refine hx.next 400 rfl ?_ <;> conv => whnf)
    all_goals try first | exact ⟨by decide⟩ | exact hin (by omega) | exact ⟨by omega⟩ | exact ⟨⟨by omega, by omega⟩⟩ | exact ⟨by omega, by omega⟩ | (exfalso; omega)
    all_goals try (simp only [List.length_take, List.length_drop, List.length_append, List.length_cons, List.length_nil, List.length_replicate, List.length_set, Ty.bytes, big, Nat.zero_add, Nat.add_zero]; first | exact hin (by omega) | exact ⟨by omega⟩ | exact ⟨⟨by omega, by omega⟩⟩ | exact ⟨by omega, by omega⟩)
    all_goals try (have hg := AB_getD (l := List.replicate 0 Ty.devarg.dflt ++ l0) (by repeat' first | assumption | exact AB_nil | (apply AB_cons; omega) | apply AB_take | (apply AB_set; omega) | apply AB_app); exact ⟨by omega, by omega, by omega, hg _⟩)
    all_goals first
      | exact hS _ _ _ ⟨by omega, by omega, (by (try simp only [List.length_cons, List.length_replicate, List.length_take, List.length_drop, List.length_append, List.length_set, List.length_nil]); omega)⟩ (by repeat' first | assumption | exact AB_nil | (apply AB_cons; omega) | apply AB_take | (apply AB_set; omega) | apply AB_app)
      | exact hN _ _ ⟨by omega, by omega⟩
      | skip
    all_goals (simp only [List.length_set]; exact ⟨by omega⟩)
  · exact hS.elim
noncomputable def S_spec_l4Any : Spec := fun args sub K => match args, sub with
  | [.v (.ptr 0 0)], [some (.box [.sl .u8 b, .int .i64 p])] => Hold (0 ≤ p ∧ p + 1000 ≤ 1000000000 ∧ b.length ≤ 2000) ∧ (∀ (op p' : Int) (l : List DevArg), (p ≤ p' ∧ p' ≤ p + 1000 ∧ l.length ≤ 4) → AB l → K (.agg [.int .i64 op, .sl .devarg l]) [some (.box [.sl .u8 b, .int .i64 p'])]) ∧ (∀ (op p' : Int), (p ≤ p' ∧ p' ≤ p + 1000) → K (.agg [.int .i64 op, .nil]) [some (.box [.sl .u8 b, .int .i64 p'])])
  | _, _ => False
theorem S_spec_l4Any_mono : Mono S_spec_l4Any := by
  intro args sub K K' hk h
  unfold S_spec_l4Any at h ⊢
  repeat' first | exact hk _ _ h | exact h.elim | exact ⟨fun hc => hk _ _ (h.1 hc), fun hc => hk _ _ (h.2 hc)⟩ | (refine ⟨h.1, ?_⟩; replace h := h.2) | (intro hc; replace h := h hc) | (refine And.imp ?_ ?_ h <;> clear h <;> intro h) | split at h
noncomputable abbrev E_spec_l4Any : Ent := ⟨nrm [[none]] S_spec_l4Any, false⟩
theorem g_spec_l4Any : Good CA 54 E_spec_l4Any := by
  refine Good.nrm _ (fn_go (ex := 4) (l := [(14, E_p_spec_l26Rd_pick), (53, E_spec_l4Spoil), (68, E_spec_l4Contact), (69, E_spec_l4Coil)]) (bor := []) CA_td CA_eq CA_mix ⟨g_p_spec_l26Rd_pick, g_spec_l4Spoil, g_spec_l4Contact, g_spec_l4Coil, trivial⟩ Try.func54 rfl (by simp [Try.f54]) S_spec_l4Any_mono fun args sub K hS hA hO => ?_)
  unfold S_spec_l4Any at hS
  split at hS
  · rename_i b p
    refine ⟨by simp [Try.f54], fun E hx hnb => ?_⟩
    replace hx : Fx CA (hyOf [(14, E_p_spec_l26Rd_pick), (53, E_spec_l4Spoil), (68, E_spec_l4Contact), (69, E_spec_l4Coil)] []) 1 19 E := hx
    obtain ⟨⟨hp⟩, hS, hN⟩ := hS
    refine hx.next 400 rfl ?_
    conv => whnf
    repeat' first | exact SameX.refl _ | exact trivial | (refine And.intro ?_ ?_ <;> first | (intro hb <;> (try simp only [decide_eq_true_eq, decide_eq_false_iff_not, Bool.not_eq_true', Bool.not_eq_false', Bool.and_eq_true, Bool.or_eq_true, Bool.and_eq_false_iff, Bool.or_eq_false_iff, Bool.not_true, Bool.not_false, reduceCtorEq, Bool.true_and, Bool.and_true, Bool.false_and, Bool.and_false, ne_eq, not_or, not_true_eq_false, not_false_eq_true, false_or, or_false, true_and, and_true, false_and, and_false, Int.natCast_zero, Int.natCast_add, Int.natCast_one, List.length_nil, List.length_cons, List.length_take, List.length_drop, List.length_replicate, List.length_append, List.length_set, Nat.zero_add] at hb) <;> (try (exfalso; omega)) <;> (try conv => whnf)) | (conv => whnf) | skip) | (intro hb <;> (try simp only [decide_eq_true_eq, decide_eq_false_iff_not, Bool.not_eq_true', Bool.not_eq_false', Bool.and_eq_true, Bool.or_eq_true, Bool.and_eq_false_iff, Bool.or_eq_false_iff, Bool.not_true, Bool.not_false, reduceCtorEq, Bool.true_and, Bool.and_true, Bool.false_and, Bool.and_false, ne_eq, not_or, not_true_eq_false, not_false_eq_true, false_or, or_false, true_and, and_true, false_and, and_false, Int.natCast_zero, Int.natCast_add, Int.natCast_one, List.length_nil, List.length_cons, List.length_take, List.length_drop, List.length_replicate, List.length_append, List.length_set, Nat.zero_add] at hb) <;> (try (exfalso; omega)) <;> (try conv => whnf)) | (refine hx.draw 400 (by kernel_rfl) ?_ <;> conv => whnf) | (refine hx.next 400 rfl ?_ <;> conv => whnf)
    all_goals try first | exact ⟨by decide⟩ | exact hin (by omega) | exact ⟨by omega⟩ | exact ⟨⟨by omega, by omega⟩⟩ | exact ⟨by omega, by omega⟩ | (exfalso; omega)
    all_goals first
      | exact hS _ _ _ ⟨by omega, by omega, (by (try simp only [List.length_cons, List.length_replicate, List.length_take, List.length_drop, List.length_append, List.length_set, List.length_nil]); omega)⟩ (by repeat' first | assumption | exact AB_nil | (apply AB_cons; omega) | apply AB_take | (apply AB_set; omega) | apply AB_app)
      | exact hN _ _ ⟨by omega, by omega⟩
  · exact hS.elim
end Go.Proofs.Ytdpgdeaefmghiaa.Sx

/- Printed by gen2.py: contracts of functions. -/
namespace Go.Proofs.Ytdpgdeaefmghiaa.Sx
open Go.Proofs
set_option maxRecDepth 20000
set_option maxHeartbeats 4000000
set_option linter.unusedSimpArgs false
set_option linter.unusedVariables false
theorem LOk_getD {l : List Inst} (h : LOk l) (i : Nat) : IOk (l.getD i Ty.inst.dflt) := by
  rw [List.getD_eq_getElem?_getD]
  cases hi : l[i]? with
  | none => exact ⟨Nat.zero_le _, AB_nil⟩
  | some a => exact h a (List.mem_of_getElem? hi)
noncomputable def S_spec_l11Spoil : Spec := fun args sub K => match args, sub with
  | [.v (.ptr 0 0), .v (.sl .inst xs)], [some (.box [.sl .u8 b, .int .i64 p])] => Hold (0 ≤ p ∧ p + 100000 ≤ 1000000000 ∧ b.length ≤ 2000 ∧ xs.length ≤ 200000) ∧ Hold (LOk xs) ∧ (∀ (out : List Inst) (p' : Int), (p ≤ p' ∧ p' ≤ p + 100000 ∧ out.length ≤ 200001) → K (.v (.sl .inst out)) [some (.box [.sl .u8 b, .int .i64 p'])])
  | _, _ => False
theorem S_spec_l11Spoil_mono : Mono S_spec_l11Spoil := by
  intro args sub K K' hk h
  unfold S_spec_l11Spoil at h ⊢
  repeat' first | exact hk _ _ h | exact h.elim | exact ⟨fun hc => hk _ _ (h.1 hc), fun hc => hk _ _ (h.2 hc)⟩ | (refine ⟨h.1, ?_⟩; replace h := h.2) | (intro hc; replace h := h hc) | (refine And.imp ?_ ?_ h <;> clear h <;> intro h) | split at h
noncomputable abbrev E_spec_l11Spoil : Ent := ⟨nrm [[none], [some .inst]] S_spec_l11Spoil, false⟩
theorem g_spec_l11Spoil : Good CA 25 E_spec_l11Spoil := by
  refine Good.nrm _ (fn_go (ex := 4) (l := [(14, E_p_spec_l26Rd_pick), (51, E_spec_l11Inst), (53, E_spec_l4Spoil), (54, E_spec_l4Any)]) (bor := []) CA_td CA_eq CA_mix ⟨g_p_spec_l26Rd_pick, g_spec_l11Inst, g_spec_l4Spoil, g_spec_l4Any, trivial⟩ Try.func25 rfl (by simp [Try.f25]) S_spec_l11Spoil_mono fun args sub K hS hA hO => ?_)
  unfold S_spec_l11Spoil at hS
  split at hS
  · rename_i xs b p
    refine ⟨by simp [Try.f25], fun E hx hnb => ?_⟩
    replace hx : Fx CA (hyOf [(14, E_p_spec_l26Rd_pick), (51, E_spec_l11Inst), (53, E_spec_l4Spoil), (54, E_spec_l4Any)] []) 1 131 E := hx
    obtain ⟨⟨hp⟩, ⟨hlo⟩, hS⟩ := hS
    refine hx.next 400 rfl ?_
    conv => whnf
    repeat' first | exact SameX.refl _ | exact trivial | (refine And.intro ?_ ?_ <;> first | (intro hb <;> (try simp only [decide_eq_true_eq, decide_eq_false_iff_not, Bool.not_eq_true', Bool.not_eq_false', Bool.and_eq_true, Bool.or_eq_true, Bool.and_eq_false_iff, Bool.or_eq_false_iff, Bool.not_true, Bool.not_false, reduceCtorEq, Bool.true_and, Bool.and_true, Bool.false_and, Bool.and_false, ne_eq, not_or, not_true_eq_false, not_false_eq_true, false_or, or_false, true_and, and_true, false_and, and_false, Int.natCast_zero, Int.natCast_add, Int.natCast_one, List.length_nil, List.length_cons, List.length_take, List.length_drop, List.length_replicate, List.length_append, List.length_set, Nat.zero_add] at hb) <;> (try (exfalso; omega)) <;> (try conv => whnf)) | (conv => whnf) | skip) | (intro hb <;> (try simp only [decide_eq_true_eq, decide_eq_false_iff_not, Bool.not_eq_true', Bool.not_eq_false', Bool.and_eq_true, Bool.or_eq_true, Bool.and_eq_false_iff, Bool.or_eq_false_iff, Bool.not_true, Bool.not_false, reduceCtorEq, Bool.true_and, Bool.and_true, Bool.false_and, Bool.and_false, ne_eq, not_or, not_true_eq_false, not_false_eq_true, false_or, or_false, true_and, and_true, false_and, and_false, Int.natCast_zero, Int.natCast_add, Int.natCast_one, List.length_nil, List.length_cons, List.length_take, List.length_drop, List.length_replicate, List.length_append, List.length_set, Nat.zero_add] at hb) <;> (try (exfalso; omega)) <;> (try conv => whnf)) | (refine hx.draw 400 (by kernel_rfl) ?_ <;> conv => whnf) | (refine hx.next 400 rfl ?_ <;> conv => whnf)
    all_goals try first | exact ⟨by decide⟩ | exact hin (by omega) | exact ⟨by omega⟩ | exact ⟨⟨by omega, by omega⟩⟩ | exact ⟨by omega, by omega⟩ | (exfalso; omega)
    all_goals try (simp only [List.length_take, List.length_drop, List.length_append, List.length_cons, List.length_nil, List.length_replicate, List.length_set, Ty.bytes, big, Nat.zero_add, Nat.add_zero]; first | exact hin (by omega) | exact ⟨by omega⟩ | exact ⟨⟨by omega, by omega⟩⟩ | exact ⟨by omega, by omega⟩)
    all_goals (have hg := fun j => LOk_getD (l := List.replicate 0 Ty.inst.dflt ++ xs) (by exact hlo) j)
    all_goals try exact ⟨Nat.le_trans (hg _).1 (by omega), (hg _).2⟩
    all_goals try exact hS _ _ ⟨by omega, by omega, by (simp only [List.length_cons, List.length_replicate, List.length_take, List.length_drop, List.length_append, List.length_set, List.length_nil]; omega)⟩
    rename_i k _ _ _ _ _ _ _ _ _
    refine Safe.loopUP (Y := Nat × List Inst) (fun y => [(1, .v .any), (2, .v .any), (3, .v .any), (4, .v .any), (5, .v (.full 13)), (6, .v .any), (8, .v .any), (9, .v .any), (10, .v .any), (11, .v .any), (12, .v .any), (13, .v .any), (14, .v .any), (15, .v .any), (16, .v .any), (17, .v .any), (18, .v .any), (19, .v .any), (20, .v .any), (21, .v .any), (22, .v .any), (23, .v .any), (24, .v .any), (25, .v .any), (26, .v .any), (27, .v .any), (28, .v .any), (29, .v .any), (30, .v .any), (31, .v .any), (32, .v .any), (33, .v .any), (34, .v .any), (35, .v .any), (36, .v .any), (37, .v .any), (38, .v .any), (39, .v .any), (40, .v .any), (41, .v .any), (42, .v .any), (43, .v .any), (44, .v .any), (45, .v .any), (46, .v .any), (47, .v .any), (48, .v .any), (49, .v .any), (50, .v .any), (51, .v .any), (52, .v .any), (53, .v .any), (54, .v .any), (55, .v .any), (56, .v .any), (57, .v .any), (58, .v .any), (59, .v .any), (60, .v .any), (61, .v .any), (62, .v .any), (63, .v .any), (64, .v .any), (65, .v .any), (66, .v .any), (67, .v .any), (68, .v .any), (69, .v .any), (70, .v .any), (71, .v .any), (72, .v .any), (73, .v .any), (74, .v .any), (75, .v .any), (76, .v .any), (77, .v .any), (78, .v .any), (79, .v .any), (80, .v .any), (81, .v .any), (82, .v .any), (83, .v .any), (84, .v .any), (85, .v .any), (86, .v .any), (87, .v .any), (88, .v .any), (89, .v .any), (90, .v .any), (91, .v .any), (92, .v .any), (93, .v .any), (94, .v .any), (95, .v .any), (96, .v .any), (97, .v .any), (98, .v .any), (99, .v .any), (100, .v .any), (101, .v .any), (102, .v .any), (103, .v .any), (104, .v .any), (105, .v .any), (106, .v .any), (107, .v .any), (108, .v .any), (109, .v .any), (110, .v .any), (111, .v .any), (112, .v .any), (113, .v .any), (114, .v .any), (115, .v .any), (116, .v .any), (117, .v .any), (118, .v .any), (119, .v .any), (120, .v .any), (121, .v .any), (122, .v .any), (123, .v .any), (124, .v .any), (125, .v .any), (126, .v .any), (127, .v .any), (128, .v .any), (129, .v .any)]) (fun y => [(0, some (.box [.sl .u8 b, .int .i64 (p + 1 + 1 + y.1)])), (6, none), (13, some (.row eInst .inst y.2)), (99, none), (100, none), (101, none), (102, none), (103, none), (104, none), (105, none), (106, none), (107, none), (108, none)]) (fun y => y.2.length = xs.length + y.1 ∧ (y.1 = 0 ∨ y.2.length ≤ 1001)) (fun y => 1001 - y.2.length) ((0, List.replicate 0 Ty.inst.dflt ++ xs)) ?_ (StLe.upd ?_) fun y hP => ?_
    · dsimp only
      exact ⟨by simp, .inl rfl⟩
    · conv => whnf
      repeat' first | exact trivial | exact .refl _ | exact .nilsl _ | exact .tt _ rfl | exact .ff _ rfl | exact .tb _ rfl | exact .fb _ rfl | exact .row _ _ _ _ rfl | (refine And.intro ?_ ?_ <;> try conv => whnf)
      all_goals try first | exact sameI (by omega) | exact sameI rfl | (refine sameI ?_; simp only [List.length_append, List.length_cons, List.length_nil]; omega)
    · try dsimp only at hP
      obtain ⟨q1, q2⟩ := hP
      refine hx.next 400 rfl ?_
      conv => whnf
      repeat' first | exact SameX.refl _ | exact trivial | (refine And.intro ?_ ?_ <;> first | (intro hb <;> (try simp only [decide_eq_true_eq, decide_eq_false_iff_not, Bool.not_eq_true', Bool.not_eq_false', Bool.and_eq_true, Bool.or_eq_true, Bool.and_eq_false_iff, Bool.or_eq_false_iff, Bool.not_true, Bool.not_false, reduceCtorEq, Bool.true_and, Bool.and_true, Bool.false_and, Bool.and_false, ne_eq, not_or, not_true_eq_false, not_false_eq_true, false_or, or_false, true_and, and_true, false_and, and_false, Int.natCast_zero, Int.natCast_add, Int.natCast_one, List.length_nil, List.length_cons, List.length_take, List.length_drop, List.length_replicate, List.length_append, List.length_set, Nat.zero_add] at hb) <;> (try (exfalso; omega)) <;> (try conv => whnf)) | (conv => whnf) | skip) | (intro hb <;> (try simp only [decide_eq_true_eq, decide_eq_false_iff_not, Bool.not_eq_true', Bool.not_eq_false', Bool.and_eq_true, Bool.or_eq_true, Bool.and_eq_false_iff, Bool.or_eq_false_iff, Bool.not_true, Bool.not_false, reduceCtorEq, Bool.true_and, Bool.and_true, Bool.false_and, Bool.and_false, ne_eq, not_or, not_true_eq_false, not_false_eq_true, false_or, or_false, true_and, and_true, false_and, and_false, Int.natCast_zero, Int.natCast_add, Int.natCast_one, List.length_nil, List.length_cons, List.length_take, List.length_drop, List.length_replicate, List.length_append, List.length_set, Nat.zero_add] at hb) <;> (try (exfalso; omega)) <;> (try conv => whnf)) | (refine hx.draw 400 (by kernel_rfl) ?_ <;> conv => whnf) | (refine hx.next 400 rfl ?_ <;> conv => whnf)
      all_goals try first | exact ⟨by decide⟩ | exact hin (by omega) | exact ⟨by omega⟩ | exact ⟨⟨by omega, by omega⟩⟩ | exact ⟨by omega, by omega⟩ | (exfalso; omega)
      all_goals try (simp only [List.length_take, List.length_drop, List.length_append, List.length_cons, List.length_nil, List.length_replicate, List.length_set, Ty.bytes, big, Nat.zero_add, Nat.add_zero]; first | exact hin (by omega) | exact ⟨by omega⟩ | exact ⟨⟨by omega, by omega⟩⟩ | exact ⟨by omega, by omega⟩)
      · obtain ⟨el, hel⟩ : ∃ el, el = (List.replicate 0 Ty.inst.dflt ++ xs).getD (0 + k.toNat) Ty.inst.dflt := ⟨_, rfl⟩
        have hla : (y.2 ++ [el]).length = y.2.length + 1 := by simp
        refine ⟨(y.1 + 1, y.2 ++ [el]), ?_, by first | omega | ((try dsimp only); (try simp only [List.length_append, List.length_cons, List.length_nil]); omega), StLe.swapU 108 13 (hx.hnp _ (by omega)) (hx.hnp _ (by omega)) rfl rfl ?_⟩
        · dsimp only
          exact ⟨by omega, .inr (by omega)⟩
        conv => whnf
        repeat' first | exact trivial | exact .refl _ | exact .nilsl _ | exact .tt _ rfl | exact .ff _ rfl | exact .tb _ rfl | exact .fb _ rfl | exact .row _ _ _ _ rfl | (refine And.intro ?_ ?_ <;> try conv => whnf)
        all_goals try first | exact sameI (by omega) | exact sameI rfl | (refine sameI ?_; simp only [List.length_append, List.length_cons, List.length_nil]; omega)
        all_goals (refine sameRow ?_; rw [hel]; rfl)
      · exact hS _ _ ⟨by omega, by omega, by omega⟩
  · exact hS.elim
end Go.Proofs.Ytdpgdeaefmghiaa.Sx

/- Printed by gen2.py: contracts of functions. -/
namespace Go.Proofs.Ytdpgdeaefmghiaa.Sx
open Go.Proofs
set_option maxRecDepth 20000
set_option maxHeartbeats 4000000
set_option linter.unusedSimpArgs false
set_option linter.unusedVariables false
noncomputable def S_spec_l11Any : Spec := fun args sub K => match args, sub with
  | [.v (.ptr 0 0)], [some (.box [.sl .u8 b, .int .i64 p])] => Hold (0 ≤ p ∧ p + 210000000 ≤ 1000000000 ∧ b.length ≤ 2000) ∧ (∀ (out : List Inst) (p' : Int), (p ≤ p' ∧ p' ≤ p + 210000000 ∧ out.length ≤ 200001) → K (.v (.sl .inst out)) [some (.box [.sl .u8 b, .int .i64 p'])]) ∧ (∀ p' : Int, (p ≤ p' ∧ p' ≤ p + 210000000) → K (.v .nil) [some (.box [.sl .u8 b, .int .i64 p'])])
  | _, _ => False
theorem S_spec_l11Any_mono : Mono S_spec_l11Any := by
  intro args sub K K' hk h
  unfold S_spec_l11Any at h ⊢
  repeat' first | exact hk _ _ h | exact h.elim | exact ⟨fun hc => hk _ _ (h.1 hc), fun hc => hk _ _ (h.2 hc)⟩ | (refine ⟨h.1, ?_⟩; replace h := h.2) | (intro hc; replace h := h hc) | (refine And.imp ?_ ?_ h <;> clear h <;> intro h) | split at h
noncomputable abbrev E_spec_l11Any : Ent := ⟨nrm [[none]] S_spec_l11Any, false⟩
theorem g_spec_l11Any : Good CA 50 E_spec_l11Any := by
  refine Good.nrm _ (fn_go (ex := 4) (l := [(14, E_p_spec_l26Rd_pick), (25, E_spec_l11Spoil), (66, E_spec_l11Sure)]) (bor := []) CA_td CA_eq CA_mix ⟨g_p_spec_l26Rd_pick, g_spec_l11Spoil, g_spec_l11Sure, trivial⟩ Try.func50 rfl (by simp [Try.f50]) S_spec_l11Any_mono fun args sub K hS hA hO => ?_)
  unfold S_spec_l11Any at hS
  split at hS
  · rename_i b p
    refine ⟨by simp [Try.f50], fun E hx hnb => ?_⟩
    replace hx : Fx CA (hyOf [(14, E_p_spec_l26Rd_pick), (25, E_spec_l11Spoil), (66, E_spec_l11Sure)] []) 1 14 E := hx
    obtain ⟨⟨hp⟩, hS, hN⟩ := hS
    refine hx.next 400 rfl ?_
    conv => whnf
    repeat' first | exact SameX.refl _ | exact trivial | (refine And.intro ?_ ?_ <;> first | (intro hb <;> (try simp only [decide_eq_true_eq, decide_eq_false_iff_not, Bool.not_eq_true', Bool.not_eq_false', Bool.and_eq_true, Bool.or_eq_true, Bool.and_eq_false_iff, Bool.or_eq_false_iff, Bool.not_true, Bool.not_false, reduceCtorEq, Bool.true_and, Bool.and_true, Bool.false_and, Bool.and_false, ne_eq, not_or, not_true_eq_false, not_false_eq_true, false_or, or_false, true_and, and_true, false_and, and_false, Int.natCast_zero, Int.natCast_add, Int.natCast_one, List.length_nil, List.length_cons, List.length_take, List.length_drop, List.length_replicate, List.length_append, List.length_set, Nat.zero_add] at hb) <;> (try (exfalso; omega)) <;> (try conv => whnf)) | (conv => whnf) | skip) | (intro hb <;> (try simp only [decide_eq_true_eq, decide_eq_false_iff_not, Bool.not_eq_true', Bool.not_eq_false', Bool.and_eq_true, Bool.or_eq_true, Bool.and_eq_false_iff, Bool.or_eq_false_iff, Bool.not_true, Bool.not_false, reduceCtorEq, Bool.true_and, Bool.and_true, Bool.false_and, Bool.and_false, ne_eq, not_or, not_true_eq_false, not_false_eq_true, false_or, or_false, true_and, and_true, false_and, and_false, Int.natCast_zero, Int.natCast_add, Int.natCast_one, List.length_nil, List.length_cons, List.length_take, List.length_drop, List.length_replicate, List.length_append, List.length_set, Nat.zero_add] at hb) <;> (try (exfalso; omega)) <;> (try conv => whnf)) | (refine hx.draw 400 (by kernel_rfl) ?_ <;> conv => whnf) | (refine hx.next 400 rfl ?_ <;> conv => whnf)
    all_goals try first | exact ⟨by decide⟩ | exact hin (by omega) | exact ⟨by omega⟩ | exact ⟨⟨by omega, by omega⟩⟩ | exact ⟨by omega, by omega⟩ | (exfalso; omega)
    all_goals try (simp only [List.length_take, List.length_drop, List.length_append, List.length_cons, List.length_nil, List.length_replicate, List.length_set, Ty.bytes, big, Nat.zero_add, Nat.add_zero]; first | exact hin (by omega) | exact ⟨by omega⟩ | exact ⟨⟨by omega, by omega⟩⟩ | exact ⟨by omega, by omega⟩)
    all_goals try exact ⟨by assumption⟩
    all_goals try exact ⟨LOk_nil⟩
    all_goals first
      | exact hS _ _ ⟨by omega, by omega, by omega⟩
      | exact hN _ ⟨by omega, by omega⟩
  · exact hS.elim
noncomputable def S_spec_l17List : Spec := fun args sub K => match args, sub with
  | [.v (.ptr 0 0)], [some (.box [.sl .u8 b, .int .i64 p])] => Hold (0 ≤ p ∧ p + 220000000 ≤ 1000000000 ∧ b.length ≤ 2000) ∧ (∀ (out : List Inst) (p' : Int), (p ≤ p' ∧ p' ≤ p + 220000000 ∧ out.length ≤ 200001) → K (.v (.sl .inst out)) [some (.box [.sl .u8 b, .int .i64 p'])]) ∧ (∀ p' : Int, (p ≤ p' ∧ p' ≤ p + 220000000) → K (.v .nil) [some (.box [.sl .u8 b, .int .i64 p'])])
  | _, _ => False
theorem S_spec_l17List_mono : Mono S_spec_l17List := by
  intro args sub K K' hk h
  unfold S_spec_l17List at h ⊢
  repeat' first | exact hk _ _ h | exact h.elim | exact ⟨fun hc => hk _ _ (h.1 hc), fun hc => hk _ _ (h.2 hc)⟩ | (refine ⟨h.1, ?_⟩; replace h := h.2) | (intro hc; replace h := h hc) | (refine And.imp ?_ ?_ h <;> clear h <;> intro h) | split at h
noncomputable abbrev E_spec_l17List : Ent := ⟨nrm [[none]] S_spec_l17List, false⟩
theorem g_spec_l17List : Good CA 24 E_spec_l17List := by
  refine Good.nrm _ (fn_go (ex := 4) (l := [(14, E_p_spec_l26Rd_pick), (40, E_spec_l17Has), (50, E_spec_l11Any), (51, E_spec_l11Inst), (52, E_spec_l17Arg)]) (bor := []) CA_td CA_eq CA_mix ⟨g_p_spec_l26Rd_pick, g_spec_l17Has, g_spec_l11Any, g_spec_l11Inst, g_spec_l17Arg, trivial⟩ Try.func24 rfl (by simp [Try.f24]) S_spec_l17List_mono fun args sub K hS hA hO => ?_)
  unfold S_spec_l17List at hS
  split at hS
  · rename_i b p
    refine ⟨by simp [Try.f24], fun E hx hnb => ?_⟩
    replace hx : Fx CA (hyOf [(14, E_p_spec_l26Rd_pick), (40, E_spec_l17Has), (50, E_spec_l11Any), (51, E_spec_l11Inst), (52, E_spec_l17Arg)] []) 1 53 E := hx
    obtain ⟨⟨hp⟩, hS, hN⟩ := hS
    refine hx.next 400 rfl ?_
    conv => whnf
    repeat' first | exact SameX.refl _ | exact trivial | (refine And.intro ?_ ?_ <;> first | (intro hb <;> (try simp only [decide_eq_true_eq, decide_eq_false_iff_not, Bool.not_eq_true', Bool.not_eq_false', Bool.and_eq_true, Bool.or_eq_true, Bool.and_eq_false_iff, Bool.or_eq_false_iff, Bool.not_true, Bool.not_false, reduceCtorEq, Bool.true_and, Bool.and_true, Bool.false_and, Bool.and_false, ne_eq, not_or, not_true_eq_false, not_false_eq_true, false_or, or_false, true_and, and_true, false_and, and_false, Int.natCast_zero, Int.natCast_add, Int.natCast_one, List.length_nil, List.length_cons, List.length_take, List.length_drop, List.length_replicate, List.length_append, List.length_set, Nat.zero_add] at hb) <;> (try (exfalso; omega)) <;> (try conv => whnf)) | (conv => whnf) | skip) | (intro hb <;> (try simp only [decide_eq_true_eq, decide_eq_false_iff_not, Bool.not_eq_true', Bool.not_eq_false', Bool.and_eq_true, Bool.or_eq_true, Bool.and_eq_false_iff, Bool.or_eq_false_iff, Bool.not_true, Bool.not_false, reduceCtorEq, Bool.true_and, Bool.and_true, Bool.false_and, Bool.and_false, ne_eq, not_or, not_true_eq_false, not_false_eq_true, false_or, or_false, true_and, and_true, false_and, and_false, Int.natCast_zero, Int.natCast_add, Int.natCast_one, List.length_nil, List.length_cons, List.length_take, List.length_drop, List.length_replicate, List.length_append, List.length_set, Nat.zero_add] at hb) <;> (try (exfalso; omega)) <;> (try conv => whnf)) | (refine hx.draw 400 (by kernel_rfl) ?_ <;> conv => whnf) | (refine hx.next 400 rfl ?_ <;> conv => whnf)
    all_goals try first | exact ⟨by decide⟩ | exact hin (by omega) | exact ⟨by omega⟩ | exact ⟨⟨by omega, by omega⟩⟩ | exact ⟨by omega, by omega⟩ | (exfalso; omega)
    all_goals try (simp only [List.length_take, List.length_drop, List.length_append, List.length_cons, List.length_nil, List.length_replicate, List.length_set, Ty.bytes, big, Nat.zero_add, Nat.add_zero]; first | exact hin (by omega) | exact ⟨by omega⟩ | exact ⟨⟨by omega, by omega⟩⟩ | exact ⟨by omega, by omega⟩)
    all_goals try first
      | exact hS _ _ ⟨by omega, by omega, by omega⟩
      | exact hN _ ⟨by omega, by omega⟩
    rename_i v _ _ w
    refine Safe.loopUP (Y := Nat × Int × List Inst) (fun y => [(1, .v .any), (2, .v .any), (3, .v (.full 14)), (4, N64 (y.1 : Int)), (5, .v .any), (6, .v .any), (7, .v .any), (8, .v .any), (9, .v .any), (10, .v .any), (11, .v .any), (12, .v .any), (13, .v .any), (14, .v .any), (15, .v .any), (16, .v .any), (17, .v .any), (18, .v .any), (19, .v .any), (20, .v .any), (21, .v .any), (22, .v .any), (23, .v .any), (24, .v .any), (25, .v .any), (26, .v .any), (27, .v .any), (28, .v .any), (29, .v .any), (30, .v .any), (31, .v .any), (32, .v .any), (33, .v .any), (34, .v .any), (35, .v .any), (36, .v .any), (37, .v .any), (38, .v .any), (39, .v .any), (40, .v .any), (41, .v .any), (42, .v .any), (43, .v .any), (44, .v .any), (45, .v .any), (46, .v .any), (47, .v .any), (48, .v .any), (49, .v .any), (50, .v .any), (51, .v .any)]) (fun y => [(0, some (.box [.sl .u8 b, .int .i64 y.2.1])), (4, none), (5, none), (6, none), (7, none), (8, none), (14, some (.row eInst .inst y.2.2)), (17, none), (18, none), (19, none), (20, none), (21, none), (22, none), (23, none), (24, none), (25, none), (26, none), (27, none), (28, none), (29, none), (30, none), (31, none), (32, none), (33, none), (34, none), (35, none), (36, none), (37, none), (38, none), (39, none), (40, none), (41, none), (42, none), (43, none), (44, none), (45, none), (46, none), (47, none), (48, none), (49, none), (50, none), (51, none)]) (fun y => y.1 ≤ 12 ∧ p ≤ y.2.1 ∧ y.2.1 ≤ p + 2 + 400 * (12 - (y.1 : Int)) ∧ y.2.2.length ≤ 12 - y.1) (fun y => y.1) ((w.toNat, p + 1 + 1, List.replicate 0 Ty.inst.dflt)) ?_ (StLe.upd ?_) fun y hP => ?_
    · dsimp only
      exact ⟨by omega, by omega, by omega, by simp⟩
    · conv => whnf
      repeat' first | exact trivial | exact .refl _ | exact .nilsl _ | exact .tt _ rfl | exact .ff _ rfl | exact .tb _ rfl | exact .fb _ rfl | exact .row _ _ _ _ rfl | (refine And.intro ?_ ?_ <;> try conv => whnf)
      all_goals try first | exact sameI (by omega) | exact sameI rfl | (refine sameI ?_; simp only [List.length_append, List.length_cons, List.length_nil]; omega)
    · try dsimp only at hP
      obtain ⟨q1, q2, q3, q4⟩ := hP
      refine hx.next 400 rfl ?_
      conv => whnf
      repeat' first | exact SameX.refl _ | exact trivial | (refine And.intro ?_ ?_ <;> first | (intro hb <;> (try simp only [decide_eq_true_eq, decide_eq_false_iff_not, Bool.not_eq_true', Bool.not_eq_false', Bool.and_eq_true, Bool.or_eq_true, Bool.and_eq_false_iff, Bool.or_eq_false_iff, Bool.not_true, Bool.not_false, reduceCtorEq, Bool.true_and, Bool.and_true, Bool.false_and, Bool.and_false, ne_eq, not_or, not_true_eq_false, not_false_eq_true, false_or, or_false, true_and, and_true, false_and, and_false, Int.natCast_zero, Int.natCast_add, Int.natCast_one, List.length_nil, List.length_cons, List.length_take, List.length_drop, List.length_replicate, List.length_append, List.length_set, Nat.zero_add] at hb) <;> (try (exfalso; omega)) <;> (try conv => whnf)) | (conv => whnf) | skip) | (intro hb <;> (try simp only [decide_eq_true_eq, decide_eq_false_iff_not, Bool.not_eq_true', Bool.not_eq_false', Bool.and_eq_true, Bool.or_eq_true, Bool.and_eq_false_iff, Bool.or_eq_false_iff, Bool.not_true, Bool.not_false, reduceCtorEq, Bool.true_and, Bool.and_true, Bool.false_and, Bool.and_false, ne_eq, not_or, not_true_eq_false, not_false_eq_true, false_or, or_false, true_and, and_true, false_and, and_false, Int.natCast_zero, Int.natCast_add, Int.natCast_one, List.length_nil, List.length_cons, List.length_take, List.length_drop, List.length_replicate, List.length_append, List.length_set, Nat.zero_add] at hb) <;> (try (exfalso; omega)) <;> (try conv => whnf)) | (refine hx.draw 400 (by kernel_rfl) ?_ <;> conv => whnf) | (refine hx.next 400 rfl ?_ <;> conv => whnf)
      all_goals try first | exact ⟨by decide⟩ | exact hin (by omega) | exact ⟨by omega⟩ | exact ⟨⟨by omega, by omega⟩⟩ | exact ⟨by omega, by omega⟩ | (exfalso; omega)
      all_goals try (simp only [List.length_take, List.length_drop, List.length_append, List.length_cons, List.length_nil, List.length_replicate, List.length_set, Ty.bytes, big, Nat.zero_add, Nat.add_zero]; first | exact hin (by omega) | exact ⟨by omega⟩ | exact ⟨⟨by omega, by omega⟩⟩ | exact ⟨by omega, by omega⟩)
      all_goals try (exfalso; simp_all; done)
      · rename_i c op p1 l _ _ _ t _ _ j _ kk nn qq p2
        have hla : (y.2.2 ++ [Inst.mk c ⟨op, (List.replicate 0 Ty.devarg.dflt ++ l).set (0 + j.toNat) ⟨kk, nn, qq⟩⟩]).length = y.2.2.length + 1 := by simp
        refine ⟨(y.1 - 1, p2, y.2.2 ++ [⟨c, ⟨op, (List.replicate 0 Ty.devarg.dflt ++ l).set (0 + j.toNat) ⟨kk, nn, qq⟩⟩⟩]), ?_, by first | omega | ((try dsimp only); (try simp only [List.length_append, List.length_cons, List.length_nil]); omega), StLe.swapU 51 14 (hx.hnp _ (by omega)) (hx.hnp _ (by omega)) rfl rfl ?_⟩
        · dsimp only
          exact ⟨by omega, by omega, by omega, by omega⟩
        conv => whnf
        repeat' first | exact trivial | exact .refl _ | exact .nilsl _ | exact .tt _ rfl | exact .ff _ rfl | exact .tb _ rfl | exact .fb _ rfl | exact .row _ _ _ _ rfl | (refine And.intro ?_ ?_ <;> try conv => whnf)
        all_goals try first | exact sameI (by omega) | exact sameI rfl | (refine sameI ?_; simp only [List.length_append, List.length_cons, List.length_nil]; omega)
      · rename_i c op p1 l _ _ _ t _
        have hla : (y.2.2 ++ [Inst.mk c ⟨op, l⟩]).length = y.2.2.length + 1 := by simp
        refine ⟨(y.1 - 1, p1 + 1, y.2.2 ++ [⟨c, ⟨op, l⟩⟩]), ?_, by first | omega | ((try dsimp only); (try simp only [List.length_append, List.length_cons, List.length_nil]); omega), StLe.swapU 51 14 (hx.hnp _ (by omega)) (hx.hnp _ (by omega)) rfl rfl ?_⟩
        · dsimp only
          exact ⟨by omega, by omega, by omega, by omega⟩
        conv => whnf
        repeat' first | exact trivial | exact .refl _ | exact .nilsl _ | exact .tt _ rfl | exact .ff _ rfl | exact .tb _ rfl | exact .fb _ rfl | exact .row _ _ _ _ rfl | (refine And.intro ?_ ?_ <;> try conv => whnf)
        all_goals try first | exact sameI (by omega) | exact sameI rfl | (refine sameI ?_; simp only [List.length_append, List.length_cons, List.length_nil]; omega)
      · rename_i c op p1 l _ _
        have hla : (y.2.2 ++ [Inst.mk c ⟨op, l⟩]).length = y.2.2.length + 1 := by simp
        refine ⟨(y.1 - 1, p1, y.2.2 ++ [⟨c, ⟨op, l⟩⟩]), ?_, by first | omega | ((try dsimp only); (try simp only [List.length_append, List.length_cons, List.length_nil]); omega), StLe.swapU 51 14 (hx.hnp _ (by omega)) (hx.hnp _ (by omega)) rfl rfl ?_⟩
        · dsimp only
          exact ⟨by omega, by omega, by omega, by omega⟩
        conv => whnf
        repeat' first | exact trivial | exact .refl _ | exact .nilsl _ | exact .tt _ rfl | exact .ff _ rfl | exact .tb _ rfl | exact .fb _ rfl | exact .row _ _ _ _ rfl | (refine And.intro ?_ ?_ <;> try conv => whnf)
        all_goals try first | exact sameI (by omega) | exact sameI rfl | (refine sameI ?_; simp only [List.length_append, List.length_cons, List.length_nil]; omega)
      · rename_i c p1 _
        have hla : (y.2.2 ++ [Inst.mk c ⟨0, []⟩]).length = y.2.2.length + 1 := by simp
        refine ⟨(y.1 - 1, p1, y.2.2 ++ [⟨c, ⟨0, []⟩⟩]), ?_, by first | omega | ((try dsimp only); (try simp only [List.length_append, List.length_cons, List.length_nil]); omega), StLe.swapU 51 14 (hx.hnp _ (by omega)) (hx.hnp _ (by omega)) rfl rfl ?_⟩
        · dsimp only
          exact ⟨by omega, by omega, by omega, by omega⟩
        conv => whnf
        repeat' first | exact trivial | exact .refl _ | exact .nilsl _ | exact .tt _ rfl | exact .ff _ rfl | exact .tb _ rfl | exact .fb _ rfl | exact .row _ _ _ _ rfl | (refine And.intro ?_ ?_ <;> try conv => whnf)
        all_goals try first | exact sameI (by omega) | exact sameI rfl | (refine sameI ?_; simp only [List.length_append, List.length_cons, List.length_nil]; omega)
      · exact hS _ _ ⟨by omega, by omega, by omega⟩
  · exact hS.elim
end Go.Proofs.Ytdpgdeaefmghiaa.Sx
