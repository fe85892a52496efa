/- A part of the proof's own kit: symbolic walks over the model (SeatA, SeatB1, SeatB2, SeatB14, SeatB3). No statement of the seat stands here. -/
import Derived.Test.YtdpgdeaefmghiaaOneP5
import Derived.Test.YtdpgdeaefmghiaaProg
import Derived.KernelRfl
set_option linter.unusedSimpArgs false
set_option linter.unusedVariables false
/- Printed by gen2.py: the seat's types. -/
namespace Go.Proofs.Ytdpgdeaefmghiaa.Sx
open Go.Proofs
def pNil : V := .con (.pointer none)
def tdl : List (Nat × TD) := [
  (2, .int .i64),
  (3, .int .i64),
  (4, .bool),
  (5, .int .u8),
  (9, .str),
  (21, .int .i32),
  (22, .sl 5 .u8),
  (24, .sl 49 .inst),
  (26, .st [⟨0, 1, false⟩, ⟨1, 1, false⟩] [.int .i64 0, .int .i64 0]),
  (34, .one pNil),
  (40, .int .u16),
  (42, .one pNil),
  (44, .st [⟨0, 1, false⟩, ⟨1, 1, false⟩] [.nil, .int .i64 0]),
  (45, .sl 77 .devarg),
  (47, .st [⟨0, 1, false⟩, ⟨1, 1, false⟩] [.int .i64 0, .nil]),
  (49, .st [⟨0, 1, false⟩, ⟨1, 2, true⟩] [.int .i64 0, .int .i64 0, .nil]),
  (53, .one pNil),
  (55, .st [⟨0, 1, false⟩, ⟨1, 1, false⟩] [.nil, .int .i64 0]),
  (70, .st [⟨0, 1, false⟩, ⟨1, 1, false⟩] [.nil, .int .i64 0]),
  (77, .st [⟨0, 1, false⟩, ⟨1, 1, false⟩, ⟨2, 1, false⟩] [.int .i64 0, .int .i64 0, .int .i64 0]),
  (80, .int .u64),
  (90, .sl 22 (.sl .u8)),
  (96, .sl 3 .i64),
  (98, .one pNil),
  (100, .st [⟨0, 1, false⟩, ⟨1, 1, false⟩, ⟨2, 1, false⟩, ⟨3, 1, false⟩, ⟨4, 1, false⟩, ⟨5, 1, false⟩] [pNil, .nil, .int .i64 0, .int .i64 0, .ff, .ff]),
  (110, .int .u32),
  (121, .int .u64)]
theorem tdl_ok : (tdl.all fun x => tdChk Try.prog x.1 x.2) = true := by kernel_rfl
def eql : List (Nat × List Nat) := [(26, [1, 1]), (77, [1, 1, 1])]
theorem eql_ok : (eql.all fun x => eqChk Try.prog x.1 x.2) = true := by kernel_rfl
noncomputable def CA : Cfg := ⟨Try.prog, tdOf tdl, fun _ => none, eqtOf eql⟩
theorem CA_td : ∀ t, TdOk CA.P t (CA.td t) := tdOf_ok tdl_ok
theorem CA_eq : ∀ t, CA.eqt t ≠ [] → eqChk CA.P t (CA.eqt t) = true := eqtOf_ok eql_ok
theorem CA_mix : CA.P.follows .mixedOrders = true := by kernel_rfl
abbrev eU8 : TypeId := 5
abbrev eInt : TypeId := 3
abbrev eArg : TypeId := 77
abbrev eInst : TypeId := 49
abbrev eElem : TypeId := 47
abbrev eStr : TypeId := 9
abbrev eBool : TypeId := 4
end Go.Proofs.Ytdpgdeaefmghiaa.Sx

/- Printed by gen2.py: contracts of functions. -/
namespace Go.Proofs.Ytdpgdeaefmghiaa.Sx
open Go.Proofs
set_option maxRecDepth 20000
set_option maxHeartbeats 4000000
set_option linter.unusedSimpArgs false
set_option linter.unusedVariables false
abbrev A : X := .v .any
abbrev N64 (n : Int) : X := .v (.int .i64 n)
abbrev I (n : Int) : V := .int .i64 n
noncomputable def S_impl_in : Spec := fun args sub K => match args, sub with
  | [.v (.int .i64 n), .v (.int .i64 lo), .v (.int .i64 hi)], [] => K (.v (.bool (decide (lo ≤ n) && decide (n ≤ hi)))) []
  | _, _ => False
theorem S_impl_in_mono : Mono S_impl_in := by
  intro args sub K K' hk h
  unfold S_impl_in at h ⊢
  repeat' first | exact hk _ _ h | exact h.elim | exact ⟨fun hc => hk _ _ (h.1 hc), fun hc => hk _ _ (h.2 hc)⟩ | (refine ⟨h.1, ?_⟩; replace h := h.2) | (intro hc; replace h := h hc) | (refine And.imp ?_ ?_ h <;> clear h <;> intro h) | split at h
noncomputable abbrev E_impl_in : Ent := ⟨nrm [[none], [none], [none]] S_impl_in, false⟩
theorem g_impl_in : Good CA 19 E_impl_in := by
  refine Good.nrm _ (fn_go (ex := 4) (l := []) (bor := []) CA_td CA_eq CA_mix trivial Try.func19 rfl (by simp [Try.f19]) S_impl_in_mono fun args sub K hS hA hO => ?_)
  unfold S_impl_in at hS
  split at hS
  · rename_i n lo hi
    refine ⟨by simp [Try.f19], fun E hx hnb => ?_⟩
    replace hx : Fx CA (hyOf [] []) 0 15 E := hx
    refine hx.run 400 ?_
    conv => whnf
    repeat' first | (refine And.intro (fun hb => ?_) (fun hb => ?_) <;> conv => whnf) | (refine And.intro ?_ ?_ <;> try conv => whnf)
    all_goals (rw [hb] at hS; exact hS)
  · exact hS.elim
noncomputable def S_impl_hasOne : Spec := fun args sub K => match args, sub with
  | [.v (.int .i64 n)], [] => K (.v (.bool ((decide (1 ≤ n) && decide (n ≤ 3)) || decide (n = 10)))) []
  | _, _ => False
theorem S_impl_hasOne_mono : Mono S_impl_hasOne := by
  intro args sub K K' hk h
  unfold S_impl_hasOne at h ⊢
  repeat' first | exact hk _ _ h | exact h.elim | exact ⟨fun hc => hk _ _ (h.1 hc), fun hc => hk _ _ (h.2 hc)⟩ | (refine ⟨h.1, ?_⟩; replace h := h.2) | (intro hc; replace h := h hc) | (refine And.imp ?_ ?_ h <;> clear h <;> intro h) | split at h
noncomputable abbrev E_impl_hasOne : Ent := ⟨nrm [[none]] S_impl_hasOne, false⟩
theorem g_impl_hasOne : Good CA 45 E_impl_hasOne := by
  refine Good.nrm _ (fn_go (ex := 4) (l := [(19, E_impl_in)]) (bor := []) CA_td CA_eq CA_mix ⟨g_impl_in, trivial⟩ Try.func45 rfl (by simp [Try.f45]) S_impl_hasOne_mono fun args sub K hS hA hO => ?_)
  unfold S_impl_hasOne at hS
  split at hS
  · rename_i n
    refine ⟨by simp [Try.f45], fun E hx hnb => ?_⟩
    replace hx : Fx CA (hyOf [(19, E_impl_in)] []) 0 9 E := hx
    refine hx.run 400 ?_
    conv => whnf
    repeat' first | (refine And.intro (fun hb => ?_) (fun hb => ?_) <;> conv => whnf) | (refine And.intro ?_ ?_ <;> try conv => whnf)
    all_goals (rw [hb] at hS; exact hS)
  · exact hS.elim
noncomputable def S_spec_l17Two : Spec := fun args sub K => match args, sub with
  | [.v (.sl .u8 b)], [] => Hold (2 ≤ b.length) ∧ K (.v (.int .i64 (((b.getD 0 (0 : UInt8) : UInt8).toNat : Int) * 256 + ((b.getD 1 (0 : UInt8) : UInt8).toNat : Int)))) []
  | _, _ => False
theorem S_spec_l17Two_mono : Mono S_spec_l17Two := by
  intro args sub K K' hk h
  unfold S_spec_l17Two at h ⊢
  repeat' first | exact hk _ _ h | exact h.elim | exact ⟨fun hc => hk _ _ (h.1 hc), fun hc => hk _ _ (h.2 hc)⟩ | (refine ⟨h.1, ?_⟩; replace h := h.2) | (intro hc; replace h := h hc) | (refine And.imp ?_ ?_ h <;> clear h <;> intro h) | split at h
noncomputable abbrev E_spec_l17Two : Ent := ⟨nrm [[some .u8]] S_spec_l17Two, false⟩
theorem g_spec_l17Two : Good CA 16 E_spec_l17Two := by
  refine Good.nrm _ (fn_go (ex := 4) (l := []) (bor := []) CA_td CA_eq CA_mix trivial Try.func16 rfl (by simp [Try.f16]) S_spec_l17Two_mono fun args sub K hS hA hO => ?_)
  unfold S_spec_l17Two at hS
  split at hS
  · rename_i b
    refine ⟨by simp [Try.f16], fun E hx hnb => ?_⟩
    replace hx : Fx CA (hyOf [] []) 0 13 E := hx
    obtain ⟨⟨hl⟩, hS⟩ := hS
    refine hx.run 400 ?_
    conv => whnf
    repeat' first | (refine And.intro (fun hb => ?_) (fun hb => ?_) <;> conv => whnf) | (refine And.intro ?_ ?_ <;> try conv => whnf)
    refine hx.draw 400 (by kernel_rfl) ?_
    conv => whnf
    repeat' first | (refine And.intro (fun hb => ?_) (fun hb => ?_) <;> conv => whnf) | (refine And.intro ?_ ?_ <;> try conv => whnf)
    · exact ⟨by constructor <;> omega⟩
    · have := u8lt b (Int.toNat 0); exact hin (by omega)
    · exact ⟨by constructor <;> omega⟩
    · have := u8lt b (Int.toNat 0); have := u8lt b (Int.toNat 1); exact hin (by omega)
    · exact hS
  · exact hS.elim
theorem xor_mod2 (a b : Nat) : (a ^^^ b) % 2 = (a + b) % 2 := by
  have h := Nat.xor_mod_two_pow (a := a) (b := b) (n := 1)
  rw [Nat.pow_one] at h
  rw [h]
  rcases Nat.mod_two_eq_zero_or_one a with h1 | h1 <;> rcases Nat.mod_two_eq_zero_or_one b with h2 | h2 <;> rw [h1, h2] <;> simp <;> omega
theorem xor_step (n m i : Nat) : (n ^^^ m) % 2 ^ (i + 1) = (n ^^^ m) % 2 ^ i + (if (n / 2 ^ i) % 2 = (m / 2 ^ i) % 2 then 0 else 2 ^ i) := by
  rw [Nat.mod_pow_succ, Nat.xor_div_two_pow, xor_mod2]
  congr 1
  split
  · rw [show (n / 2 ^ i + m / 2 ^ i) % 2 = 0 by omega]; simp
  · rw [show (n / 2 ^ i + m / 2 ^ i) % 2 = 1 by omega]; simp
theorem half_pow (n i : Nat) : n / 2 ^ (i + 1) = n / 2 ^ i / 2 := by rw [Nat.pow_succ, Nat.div_div_eq_div_mul]
theorem half_int {n i : Nat} (h : n ≤ 9223372036854775807) : IntKind.i64.wrap (((n / 2 ^ i : Nat) : Int).tdiv 2) = ((n / 2 ^ (i + 1) : Nat) : Int) := by
  have h1 : n / 2 ^ i ≤ n := Nat.div_le_self _ _
  rw [half_pow]
  generalize n / 2 ^ i = q at h1
  have : ((q : Int).tdiv 2) = ((q / 2 : Nat) : Int) := by rw [Int.tdiv_eq_ediv_of_nonneg (by omega)]; omega
  rw [this]
  exact wrap_in ⟨by simp only [lo]; omega, by simp only [Go.Proofs.Ytdpgdeaefmghiaa.Sx.hi]; omega⟩
theorem odd_ne {a b : Nat} (h : (!decide ((a : Int).tmod 2 = (b : Int).tmod 2)) = true) : ¬ a % 2 = b % 2 := fun e => by
  simp only [Bool.not_eq_true', decide_eq_false_iff_not] at h
  apply h
  rw [Int.tmod_eq_emod_of_nonneg (by omega), Int.tmod_eq_emod_of_nonneg (by omega)]; omega
theorem odd_eq {a b : Nat} (h : (!decide ((a : Int).tmod 2 = (b : Int).tmod 2)) = false) : a % 2 = b % 2 := by
  simp only [Bool.not_eq_false', decide_eq_true_eq] at h
  rw [Int.tmod_eq_emod_of_nonneg (by omega), Int.tmod_eq_emod_of_nonneg (by omega)] at h; omega
theorem wrap64 {e : Int} (h : -9223372036854775808 ≤ e ∧ e ≤ 9223372036854775807) : IntKind.i64.wrap e = e := wrap_in ⟨h.1, h.2⟩
noncomputable def S_spec_l17Xor : Spec := fun args sub K => match args, sub with
  | [.v (.int .i64 n), .v (.int .i64 m)], [] => Hold (0 ≤ n ∧ 0 ≤ m) ∧ K (.v (.int .i64 (((n.toNat ^^^ m.toNat) % 65536 : Nat) : Int))) []
  | _, _ => False
theorem S_spec_l17Xor_mono : Mono S_spec_l17Xor := by
  intro args sub K K' hk h
  unfold S_spec_l17Xor at h ⊢
  repeat' first | exact hk _ _ h | exact h.elim | exact ⟨fun hc => hk _ _ (h.1 hc), fun hc => hk _ _ (h.2 hc)⟩ | (refine ⟨h.1, ?_⟩; replace h := h.2) | (intro hc; replace h := h hc) | (refine And.imp ?_ ?_ h <;> clear h <;> intro h) | split at h
noncomputable abbrev E_spec_l17Xor : Ent := ⟨nrm [[none], [none]] S_spec_l17Xor, false⟩
theorem g_spec_l17Xor : Good CA 37 E_spec_l17Xor := by
  refine Good.nrm _ (fn_go (ex := 4) (l := []) (bor := []) CA_td CA_eq CA_mix trivial Try.func37 rfl (by simp [Try.f37]) S_spec_l17Xor_mono fun args sub K hS hA hO => ?_)
  unfold S_spec_l17Xor at hS
  split at hS
  · rename_i n m
    refine ⟨by simp [Try.f37], fun E hx hnb => ?_⟩
    replace hx : Fx CA (hyOf [] []) 0 24 E := hx
    obtain ⟨⟨h0, h1⟩, hS⟩ := hS
    have hn : inR .i64 n := hA (.v (.int .i64 n)) (by simp)
    have hm : inR .i64 m := hA (.v (.int .i64 m)) (by simp)
    have hn := hin' hn rfl
    have hm := hin' hm rfl
    refine hx.run 400 ?_
    conv => whnf
    refine Safe.loop (Y := Fin 17) (fun i => ⟨[N64 ((n.toNat / 2 ^ i.val : Nat) : Int), N64 ((m.toNat / 2 ^ i.val : Nat) : Int), A, A, N64 0, N64 (((n.toNat ^^^ m.toNat) % 2 ^ i.val : Nat) : Int), N64 ((2 ^ i.val : Nat) : Int), A, A, A, A, A, A, A, A, A, A, A, A, A, A, A, A, A], List.replicate 28 none⟩) (fun i => 16 - i.val) 0 (StLe.of ?_ trivial) fun i => ?_
    · exact ⟨sameI (by simp; omega), sameI (by simp; omega), .refl _, sameI (by simp [Nat.mod_one]), sameI (by simp), trivial⟩
    · have hi := i.isLt
      have hp : 2 ^ i.val ≤ 65536 := by have := Nat.pow_le_pow_right (n := 2) (by omega) (show i.val ≤ 16 by omega); omega
      refine hx.run 400 ?_
      conv => whnf
      repeat' first | (refine And.intro (fun hb => ?_) (fun hb => ?_) <;> conv => whnf) | (refine And.intro ?_ ?_ <;> try conv => whnf)
      all_goals try exact ⟨by decide⟩
      all_goals try (have hmod := Nat.mod_lt (n.toNat ^^^ m.toNat) (Nat.two_pow_pos i.val))
      all_goals try exact hin (by omega)
      all_goals have hnd : n.toNat / 2 ^ i.val ≤ n.toNat := Nat.div_le_self _ _
      all_goals have hmd : m.toNat / 2 ^ i.val ≤ m.toNat := Nat.div_le_self _ _
      · rename_i hb1
        rw [decide_eq_true_eq] at hb1
        have hlt : i.val < 16 := by
          rcases Nat.lt_or_ge i.val 16 with q | q
          · exact q
          · have : i.val = 16 := by omega
            rw [this] at hb1; omega
        have hlt2 : 16 - (i.val + 1) < 16 - i.val := by omega
        have hne := odd_ne hb
        refine ⟨⟨i.val + 1, by omega⟩, hlt2, StLe.of ?_ (by (conv => whnf); trivial)⟩
        exact ⟨sameI (half_int (by omega)), sameI (half_int (by omega)), .refl _, sameI (by show _ = (((n.toNat ^^^ m.toNat) % 2 ^ (i.val + 1) : Nat) : Int); rw [xor_step, if_neg hne, Int.natCast_add]), sameI (by show _ = ((2 ^ (i.val + 1) : Nat) : Int); rw [Nat.pow_succ, Int.natCast_mul]; rfl), trivial⟩
      · rename_i hb1
        rw [decide_eq_true_eq] at hb1
        have hlt : i.val < 16 := by
          rcases Nat.lt_or_ge i.val 16 with q | q
          · exact q
          · have : i.val = 16 := by omega
            rw [this] at hb1; omega
        have hlt2 : 16 - (i.val + 1) < 16 - i.val := by omega
        have he := odd_eq hb
        refine ⟨⟨i.val + 1, by omega⟩, hlt2, StLe.of ?_ (by (conv => whnf); trivial)⟩
        exact ⟨sameI (half_int (by omega)), sameI (half_int (by omega)), .refl _, sameI (by show _ = (((n.toNat ^^^ m.toNat) % 2 ^ (i.val + 1) : Nat) : Int); rw [xor_step, if_pos he]; rfl), sameI (by show _ = ((2 ^ (i.val + 1) : Nat) : Int); rw [Nat.pow_succ, Int.natCast_mul]; rfl), trivial⟩
      · have hb1 : ¬ ((2 ^ i.val : Nat) : Int) < 65536 := of_decide_eq_false hb
        have hlt : i.val = 16 := by
          rcases Nat.lt_or_ge i.val 16 with q | q
          · have := Nat.pow_lt_pow_right (a := 2) (by omega) q; omega
          · omega
        refine hx.run 400 ?_
        conv => whnf
        repeat' first | (refine And.intro (fun hb => ?_) (fun hb => ?_) <;> conv => whnf) | (refine And.intro ?_ ?_ <;> try conv => whnf)
        rw [hlt]
        exact hS
  · exact hS.elim
def arity (n : Int) : Int := if n = 1 ∨ n = 2 ∨ (21 ≤ n ∧ n ≤ 23) ∨ n = 25 then 1 else if 31 ≤ n ∧ n ≤ 35 then 3 else if (3 ≤ n ∧ n ≤ 10) ∨ (24 ≤ n ∧ n ≤ 37) then 2 else 0
def hasOne (n : Int) : Bool := (decide (1 ≤ n) && decide (n ≤ 3)) || decide (n = 10)
def known (n m : Int) : Bool := if n = 10 then decide (21 ≤ m) && decide (m ≤ 37) else decide (1 ≤ m) && decide (m ≤ 10)
def wide (n : Int) : Int := if n = 11 then 2 else if n = 12 then 4 else 1
def devSize (n : Int) : Int := if n = 1 ∨ n = 2 ∨ n = 5 ∨ n = 9 then 32 else if n = 3 then 64 else if n = 4 ∨ n = 7 ∨ n = 8 ∨ n = 10 then 16 else if n = 6 then 5 else 0
noncomputable def S_spec_l17Has : Spec := fun args sub K => match args, sub with
  | [.v (.int .i64 n)], [] => K (.v (.bool (hasOne n))) []
  | _, _ => False
theorem S_spec_l17Has_mono : Mono S_spec_l17Has := by
  intro args sub K K' hk h
  unfold S_spec_l17Has at h ⊢
  repeat' first | exact hk _ _ h | exact h.elim | exact ⟨fun hc => hk _ _ (h.1 hc), fun hc => hk _ _ (h.2 hc)⟩ | (refine ⟨h.1, ?_⟩; replace h := h.2) | (intro hc; replace h := h hc) | (refine And.imp ?_ ?_ h <;> clear h <;> intro h) | split at h
noncomputable abbrev E_spec_l17Has : Ent := ⟨nrm [[none]] S_spec_l17Has, false⟩
theorem g_spec_l17Has : Good CA 40 E_spec_l17Has := by
  refine Good.nrm _ (fn_go (ex := 4) (l := []) (bor := []) CA_td CA_eq CA_mix trivial Try.func40 rfl (by simp [Try.f40]) S_spec_l17Has_mono fun args sub K hS hA hO => ?_)
  unfold S_spec_l17Has at hS
  split at hS
  · rename_i n
    refine ⟨by simp [Try.f40], fun E hx hnb => ?_⟩
    replace hx : Fx CA (hyOf [] []) 0 17 E := hx
    refine hx.run 400 ?_
    conv => whnf
    repeat' first | (refine And.intro (fun hb => ?_) (fun hb => ?_) <;> conv => whnf) | (refine And.intro ?_ ?_ <;> try conv => whnf)
    all_goals (refine ans hS (congrArg (fun b => X.v (V.bool b)) ?_); clear hS hA hO; unfold hasOne; simp only [decide_eq_true_eq, decide_eq_false_iff_not] at *; rw [Bool.eq_iff_iff]; simp only [Bool.or_eq_true, Bool.and_eq_true, decide_eq_true_eq, iff_true]; omega)
  · exact hS.elim
noncomputable def S_spec_l17Known : Spec := fun args sub K => match args, sub with
  | [.v (.int .i64 n), .v (.int .i64 m)], [] => K (.v (.bool (known n m))) []
  | _, _ => False
theorem S_spec_l17Known_mono : Mono S_spec_l17Known := by
  intro args sub K K' hk h
  unfold S_spec_l17Known at h ⊢
  repeat' first | exact hk _ _ h | exact h.elim | exact ⟨fun hc => hk _ _ (h.1 hc), fun hc => hk _ _ (h.2 hc)⟩ | (refine ⟨h.1, ?_⟩; replace h := h.2) | (intro hc; replace h := h hc) | (refine And.imp ?_ ?_ h <;> clear h <;> intro h) | split at h
noncomputable abbrev E_spec_l17Known : Ent := ⟨nrm [[none], [none]] S_spec_l17Known, false⟩
theorem g_spec_l17Known : Good CA 41 E_spec_l17Known := by
  refine Good.nrm _ (fn_go (ex := 4) (l := []) (bor := []) CA_td CA_eq CA_mix trivial Try.func41 rfl (by simp [Try.f41]) S_spec_l17Known_mono fun args sub K hS hA hO => ?_)
  unfold S_spec_l17Known at hS
  split at hS
  · rename_i n m
    refine ⟨by simp [Try.f41], fun E hx hnb => ?_⟩
    replace hx : Fx CA (hyOf [] []) 0 19 E := hx
    refine hx.run 400 ?_
    conv => whnf
    repeat' first | (refine And.intro (fun hb => ?_) (fun hb => ?_) <;> conv => whnf) | (refine And.intro ?_ ?_ <;> try conv => whnf)
    all_goals (refine ans hS (congrArg (fun b => X.v (V.bool b)) ?_); clear hS hA hO; unfold known; simp only [decide_eq_true_eq, decide_eq_false_iff_not] at *; rw [Bool.eq_iff_iff]; split <;> simp only [Bool.and_eq_true, decide_eq_true_eq, Bool.false_eq_true, iff_false] <;> omega)
  · exact hS.elim
noncomputable def S_spec_ElemArity : Spec := fun args sub K => match args, sub with
  | [.v (.int .i64 n)], [] => K (.v (.int .i64 (arity n))) []
  | _, _ => False
theorem S_spec_ElemArity_mono : Mono S_spec_ElemArity := by
  intro args sub K K' hk h
  unfold S_spec_ElemArity at h ⊢
  repeat' first | exact hk _ _ h | exact h.elim | exact ⟨fun hc => hk _ _ (h.1 hc), fun hc => hk _ _ (h.2 hc)⟩ | (refine ⟨h.1, ?_⟩; replace h := h.2) | (intro hc; replace h := h hc) | (refine And.imp ?_ ?_ h <;> clear h <;> intro h) | split at h
noncomputable abbrev E_spec_ElemArity : Ent := ⟨nrm [[none]] S_spec_ElemArity, false⟩
theorem g_spec_ElemArity : Good CA 42 E_spec_ElemArity := by
  refine Good.nrm _ (fn_go (ex := 4) (l := []) (bor := []) CA_td CA_eq CA_mix trivial Try.func42 rfl (by simp [Try.f42]) S_spec_ElemArity_mono fun args sub K hS hA hO => ?_)
  unfold S_spec_ElemArity at hS
  split at hS
  · rename_i n
    refine ⟨by simp [Try.f42], fun E hx hnb => ?_⟩
    replace hx : Fx CA (hyOf [] []) 0 31 E := hx
    refine hx.run 400 ?_
    conv => whnf
    repeat' first | (refine And.intro (fun hb => ?_) (fun hb => ?_) <;> conv => whnf) | (refine And.intro ?_ ?_ <;> try conv => whnf)
    all_goals (refine ans hS (congrArg (fun b => X.v (V.int .i64 b)) ?_); unfold arity; simp only [Bool.and_eq_true, Bool.and_eq_false_iff, decide_eq_true_eq, decide_eq_false_iff_not] at *; (repeat' split) <;> omega)
  · exact hS.elim
noncomputable def S_spec_l17Wide : Spec := fun args sub K => match args, sub with
  | [.v (.int .i64 n)], [] => K (.v (.int .i64 (wide n))) []
  | _, _ => False
theorem S_spec_l17Wide_mono : Mono S_spec_l17Wide := by
  intro args sub K K' hk h
  unfold S_spec_l17Wide at h ⊢
  repeat' first | exact hk _ _ h | exact h.elim | exact ⟨fun hc => hk _ _ (h.1 hc), fun hc => hk _ _ (h.2 hc)⟩ | (refine ⟨h.1, ?_⟩; replace h := h.2) | (intro hc; replace h := h hc) | (refine And.imp ?_ ?_ h <;> clear h <;> intro h) | split at h
noncomputable abbrev E_spec_l17Wide : Ent := ⟨nrm [[none]] S_spec_l17Wide, false⟩
theorem g_spec_l17Wide : Good CA 61 E_spec_l17Wide := by
  refine Good.nrm _ (fn_go (ex := 4) (l := []) (bor := []) CA_td CA_eq CA_mix trivial Try.func61 rfl (by simp [Try.f61]) S_spec_l17Wide_mono fun args sub K hS hA hO => ?_)
  unfold S_spec_l17Wide at hS
  split at hS
  · rename_i n
    refine ⟨by simp [Try.f61], fun E hx hnb => ?_⟩
    replace hx : Fx CA (hyOf [] []) 0 8 E := hx
    refine hx.run 400 ?_
    conv => whnf
    repeat' first | (refine And.intro (fun hb => ?_) (fun hb => ?_) <;> conv => whnf) | (refine And.intro ?_ ?_ <;> try conv => whnf)
    all_goals (refine ans hS (congrArg (fun b => X.v (V.int .i64 b)) ?_); unfold wide; simp only [decide_eq_true_eq, decide_eq_false_iff_not] at *; (repeat' split) <;> omega)
  · exact hS.elim
noncomputable def S_spec_DevSize : Spec := fun args sub K => match args, sub with
  | [.v (.int .i64 n)], [] => K (.v (.int .i64 (devSize n))) []
  | _, _ => False
theorem S_spec_DevSize_mono : Mono S_spec_DevSize := by
  intro args sub K K' hk h
  unfold S_spec_DevSize at h ⊢
  repeat' first | exact hk _ _ h | exact h.elim | exact ⟨fun hc => hk _ _ (h.1 hc), fun hc => hk _ _ (h.2 hc)⟩ | (refine ⟨h.1, ?_⟩; replace h := h.2) | (intro hc; replace h := h hc) | (refine And.imp ?_ ?_ h <;> clear h <;> intro h) | split at h
noncomputable abbrev E_spec_DevSize : Ent := ⟨nrm [[none]] S_spec_DevSize, false⟩
theorem g_spec_DevSize : Good CA 79 E_spec_DevSize := by
  refine Good.nrm _ (fn_go (ex := 4) (l := []) (bor := []) CA_td CA_eq CA_mix trivial Try.func79 rfl (by simp [Try.f79]) S_spec_DevSize_mono fun args sub K hS hA hO => ?_)
  unfold S_spec_DevSize at hS
  split at hS
  · rename_i n
    refine ⟨by simp [Try.f79], fun E hx hnb => ?_⟩
    replace hx : Fx CA (hyOf [] []) 0 18 E := hx
    refine hx.run 400 ?_
    conv => whnf
    repeat' first | (refine And.intro (fun hb => ?_) (fun hb => ?_) <;> conv => whnf) | (refine And.intro ?_ ?_ <;> try conv => whnf)
    all_goals (refine ans hS (congrArg (fun b => X.v (V.int .i64 b)) ?_); unfold devSize; simp only [decide_eq_true_eq, decide_eq_false_iff_not] at *; (repeat' split) <;> omega)
  · exact hS.elim
noncomputable def S_impl_opFits : Spec := fun args sub K => match args, sub with
  | [.v (.int .i64 n), .v (.int .i64 m)], [] => K (.v (.bool (known n m))) []
  | _, _ => False
theorem S_impl_opFits_mono : Mono S_impl_opFits := by
  intro args sub K K' hk h
  unfold S_impl_opFits at h ⊢
  repeat' first | exact hk _ _ h | exact h.elim | exact ⟨fun hc => hk _ _ (h.1 hc), fun hc => hk _ _ (h.2 hc)⟩ | (refine ⟨h.1, ?_⟩; replace h := h.2) | (intro hc; replace h := h hc) | (refine And.imp ?_ ?_ h <;> clear h <;> intro h) | split at h
noncomputable abbrev E_impl_opFits : Ent := ⟨nrm [[none], [none]] S_impl_opFits, false⟩
theorem g_impl_opFits : Good CA 46 E_impl_opFits := by
  refine Good.nrm _ (fn_go (ex := 4) (l := [(19, E_impl_in)]) (bor := []) CA_td CA_eq CA_mix ⟨g_impl_in, trivial⟩ Try.func46 rfl (by simp [Try.f46]) S_impl_opFits_mono fun args sub K hS hA hO => ?_)
  unfold S_impl_opFits at hS
  split at hS
  · rename_i n m
    refine ⟨by simp [Try.f46], fun E hx hnb => ?_⟩
    replace hx : Fx CA (hyOf [(19, E_impl_in)] []) 0 11 E := hx
    refine hx.run 400 ?_
    conv => whnf
    repeat' first | (refine And.intro (fun hb => ?_) (fun hb => ?_) <;> conv => whnf) | (refine And.intro ?_ ?_ <;> try conv => whnf)
    all_goals (refine ans hS (congrArg (fun b => X.v (V.bool b)) ?_); unfold known; simp_all)
  · exact hS.elim
noncomputable def S_impl_ElemArity : Spec := fun args sub K => match args, sub with
  | [.v (.int .i64 n)], [] => K (.v (.int .i64 (arity n))) []
  | _, _ => False
theorem S_impl_ElemArity_mono : Mono S_impl_ElemArity := by
  intro args sub K K' hk h
  unfold S_impl_ElemArity at h ⊢
  repeat' first | exact hk _ _ h | exact h.elim | exact ⟨fun hc => hk _ _ (h.1 hc), fun hc => hk _ _ (h.2 hc)⟩ | (refine ⟨h.1, ?_⟩; replace h := h.2) | (intro hc; replace h := h hc) | (refine And.imp ?_ ?_ h <;> clear h <;> intro h) | split at h
noncomputable abbrev E_impl_ElemArity : Ent := ⟨nrm [[none]] S_impl_ElemArity, false⟩
theorem g_impl_ElemArity : Good CA 47 E_impl_ElemArity := by
  refine Good.nrm _ (fn_go (ex := 4) (l := [(19, E_impl_in)]) (bor := []) CA_td CA_eq CA_mix ⟨g_impl_in, trivial⟩ Try.func47 rfl (by simp [Try.f47]) S_impl_ElemArity_mono fun args sub K hS hA hO => ?_)
  unfold S_impl_ElemArity at hS
  split at hS
  · rename_i n
    refine ⟨by simp [Try.f47], fun E hx hnb => ?_⟩
    replace hx : Fx CA (hyOf [(19, E_impl_in)] []) 0 20 E := hx
    refine hx.run 400 ?_
    conv => whnf
    repeat' first | (refine And.intro (fun hb => ?_) (fun hb => ?_) <;> conv => whnf) | (refine And.intro ?_ ?_ <;> try conv => whnf)
    all_goals (refine ans hS (congrArg (fun b => X.v (V.int .i64 b)) ?_); unfold arity; simp only [Bool.and_eq_true, Bool.and_eq_false_iff, decide_eq_true_eq, decide_eq_false_iff_not] at *; (repeat' split) <;> omega)
  · exact hS.elim
noncomputable def S_spec_l17Round : Spec := fun args sub K => match args, sub with
  | [.v (.int .i64 n)], [] => Hold (0 ≤ n ∧ n < 65536) ∧ K (.v (.int .i64 (if 65536 ≤ n * 2 then ((((n * 2 - 65536).toNat ^^^ (4129 : Int).toNat) % 65536 : Nat) : Int) else n * 2))) []
  | _, _ => False
theorem S_spec_l17Round_mono : Mono S_spec_l17Round := by
  intro args sub K K' hk h
  unfold S_spec_l17Round at h ⊢
  repeat' first | exact hk _ _ h | exact h.elim | exact ⟨fun hc => hk _ _ (h.1 hc), fun hc => hk _ _ (h.2 hc)⟩ | (refine ⟨h.1, ?_⟩; replace h := h.2) | (intro hc; replace h := h hc) | (refine And.imp ?_ ?_ h <;> clear h <;> intro h) | split at h
noncomputable abbrev E_spec_l17Round : Ent := ⟨nrm [[none]] S_spec_l17Round, false⟩
theorem g_spec_l17Round : Good CA 38 E_spec_l17Round := by
  refine Good.nrm _ (fn_go (ex := 4) (l := [(37, E_spec_l17Xor)]) (bor := []) CA_td CA_eq CA_mix ⟨g_spec_l17Xor, trivial⟩ Try.func38 rfl (by simp [Try.f38]) S_spec_l17Round_mono fun args sub K hS hA hO => ?_)
  unfold S_spec_l17Round at hS
  split at hS
  · rename_i n
    refine ⟨by simp [Try.f38], fun E hx hnb => ?_⟩
    replace hx : Fx CA (hyOf [(37, E_spec_l17Xor)] []) 0 11 E := hx
    obtain ⟨⟨h0, h1⟩, hS⟩ := hS
    refine hx.run 400 ?_
    conv => whnf
    repeat' first | (refine And.intro (fun hb => ?_) (fun hb => ?_) <;> conv => whnf) | (refine And.intro ?_ ?_ <;> try conv => whnf)
    all_goals try exact hin (by omega)
    all_goals try exact ⟨by (try rw [decide_eq_true_eq] at hb); omega⟩
    · rw [decide_eq_true_eq] at hb; rw [if_pos hb] at hS; exact hS
    · rw [decide_eq_false_iff_not] at hb; rw [if_neg hb] at hS; exact hS
  · exact hS.elim
def stepN (x : Nat) : Nat := if 65536 ≤ x * 2 then ((x * 2 - 65536) ^^^ 4129) % 65536 else x * 2
theorem stepN_lt {x : Nat} (h : x < 65536) : stepN x < 65536 := by
  unfold stepN; split
  · exact Nat.mod_lt _ (by omega)
  · omega
def steps : Nat → Nat → Nat
  | 0, x => x
  | n + 1, x => stepN (steps n x)
theorem steps_lt {x : Nat} (h : x < 65536) : ∀ n, steps n x < 65536
  | 0 => h
  | n + 1 => stepN_lt (steps_lt h n)
def crcByte (c b : Nat) : Nat := steps 8 ((c ^^^ (b * 256)) % 65536)
theorem crcByte_lt (c b : Nat) : crcByte c b < 65536 := by
  unfold crcByte
  have h : (c ^^^ (b * 256)) % 65536 < 65536 := Nat.mod_lt _ (by omega)
  generalize (c ^^^ (b * 256)) % 65536 = x at h
  exact steps_lt h 8
def crcN (bs : List UInt8) : Nat := bs.foldl (fun c b => crcByte c b.toNat) 65535
theorem foldl_lt (f : Nat → UInt8 → Nat) (hf : ∀ c b, f c b < 65536) : ∀ (l : List UInt8) (c : Nat), c < 65536 → l.foldl f c < 65536
  | [], _, h => h
  | b :: l, c, _ => foldl_lt f hf l (f c b) (hf c b)
theorem crcN_lt (bs : List UInt8) : crcN bs < 65536 := foldl_lt _ (fun c b => crcByte_lt c b.toNat) bs 65535 (by omega)
theorem crcN_take {bs : List UInt8} {i : Nat} (h : i < bs.length) : crcN (bs.take (i + 1)) = crcByte (crcN (bs.take i)) (bs[i].toNat) := by
  unfold crcN
  rw [List.take_succ_eq_append_getElem h, List.foldl_append, List.foldl_cons, List.foldl_nil]
theorem step_int {x : Nat} : (if 65536 ≤ (x : Int) * 2 then (((((x : Int) * 2 - 65536).toNat ^^^ (4129 : Int).toNat) % 65536 : Nat) : Int) else (x : Int) * 2) = (stepN x : Int) := by
  unfold stepN
  by_cases h : 65536 ≤ x * 2
  · rw [if_pos h, if_pos (by omega)]
    have : ((x : Int) * 2 - 65536).toNat = x * 2 - 65536 := by omega
    rw [this]; rfl
  · rw [if_neg h, if_neg (by omega)]; omega
noncomputable def S_spec_PicSum : Spec := fun args sub K => match args, sub with
  | [.v (.sl .u8 b)], [] => K (.v (.int .u16 (crcN b : Int))) []
  | _, _ => False
theorem S_spec_PicSum_mono : Mono S_spec_PicSum := by
  intro args sub K K' hk h
  unfold S_spec_PicSum at h ⊢
  repeat' first | exact hk _ _ h | exact h.elim | exact ⟨fun hc => hk _ _ (h.1 hc), fun hc => hk _ _ (h.2 hc)⟩ | (refine ⟨h.1, ?_⟩; replace h := h.2) | (intro hc; replace h := h hc) | (refine And.imp ?_ ?_ h <;> clear h <;> intro h) | split at h
noncomputable abbrev E_spec_PicSum : Ent := ⟨nrm [[some .u8]] S_spec_PicSum, false⟩
theorem g_spec_PicSum : Good CA 17 E_spec_PicSum := by
  refine Good.nrm _ (fn_go (ex := 4) (l := [(37, E_spec_l17Xor), (38, E_spec_l17Round)]) (bor := []) CA_td CA_eq CA_mix ⟨g_spec_l17Xor, g_spec_l17Round, trivial⟩ Try.func17 rfl (by simp [Try.f17]) S_spec_PicSum_mono fun args sub K hS hA hO => ?_)
  unfold S_spec_PicSum at hS
  split at hS
  · rename_i b
    refine ⟨by simp [Try.f17], fun E hx hnb => ?_⟩
    replace hx : Fx CA (hyOf [(37, E_spec_l17Xor), (38, E_spec_l17Round)] []) 0 28 E := hx
    have hok := (hA (.v (.sl .u8 b)) (by simp) : Ok (.sl .u8) b)
    have hbl : b.length ≤ big := by have h := hok.1; exact Nat.le_trans (Nat.le_mul_of_pos_right _ Ty.u8.bytes_pos) h
    refine hx.run 400 ?_
    conv => whnf
    refine Safe.loop (Y := Fin (b.length + 1)) (fun i => ⟨[.v (.sl .u8 b), A, .v (.int .u16 0), N64 (crcN (b.take i.val) : Int), N64 (i.val : Int), A, A, A, A, A, A, A, A, A, A, A, A, A, A, A, A, A, A, A, A, A, A, A], List.replicate 32 none⟩) (fun i => b.length - i.val) 0 (StLe.of ?_ trivial) fun i => ?_
    · exact ⟨.refl _, .refl _, .refl _, .refl _, trivial⟩
    · have hi := i.isLt
      refine hx.run 400 ?_
      conv => whnf
      repeat' first | (refine And.intro (fun hb => ?_) (fun hb => ?_) <;> conv => whnf) | (refine And.intro ?_ ?_ <;> try conv => whnf)
      · rw [decide_eq_true_eq] at hb; exact ⟨by omega⟩
      · have := u8lt b ((i.val : Int)).toNat; exact hin (by omega)
      · exact ⟨by omega⟩
      · rw [decide_eq_true_eq] at hb
        have hlt : i.val < b.length := by omega
        have hx0 : (crcN (b.take i.val) ^^^ ((b[i.val] : UInt8).toNat * 256)) % 65536 < 65536 := Nat.mod_lt _ (by omega)
        refine Safe.loop (Y := Fin 9) (fun j => ⟨[.v (.sl .u8 b), A, .v (.int .u16 0), N64 (steps j.val ((crcN (b.take i.val) ^^^ ((b[i.val] : UInt8).toNat * 256)) % 65536) : Int), N64 (i.val : Int), N64 (j.val : Int), A, A, A, A, A, A, A, A, A, A, A, A, A, A, A, A, A, A, A, A, A, A], List.replicate 32 none⟩) (fun j => 8 - j.val) 0 (StLe.of ?_ (by (conv => whnf); trivial)) fun j => ?_
        · refine ⟨.refl _, .refl _, sameI ?_, .refl _, .refl _, trivial⟩
          rw [Int.toNat_natCast, List.getD_eq_getElem?_getD, List.getElem?_eq_getElem (by simpa using hlt)]
          rfl
        · have hj := j.isLt
          have hst := steps_lt hx0 j.val
          refine hx.run 400 ?_
          conv => whnf
          repeat' first | (refine And.intro (fun hb => ?_) (fun hb => ?_) <;> conv => whnf) | (refine And.intro ?_ ?_ <;> try conv => whnf)
          · exact ⟨by omega⟩
          · rw [decide_eq_true_eq] at hb; exact hin (by omega)
          · rw [decide_eq_true_eq] at hb
            have hlt2 : 8 - (j.val + 1) < 8 - j.val := by omega
            refine ⟨⟨j.val + 1, by omega⟩, hlt2, StLe.of ?_ (by (conv => whnf); trivial)⟩
            exact ⟨.refl _, .refl _, sameI step_int, .refl _, sameI (by show _ = ((j.val + 1 : Nat) : Int); omega), trivial⟩
          · rw [decide_eq_false_iff_not] at hb
            have hj8 : j.val = 8 := by omega
            refine hx.run 400 ?_
            conv => whnf
            repeat' first | (refine And.intro (fun hb => ?_) (fun hb => ?_) <;> conv => whnf) | (refine And.intro ?_ ?_ <;> try conv => whnf)
            · exact ⟨inR_nat (n := i.val + 1) (by omega)⟩
            · have hlt2 : b.length - (i.val + 1) < b.length - i.val := by omega
              refine ⟨⟨i.val + 1, by omega⟩, hlt2, StLe.of ?_ (by (conv => whnf); trivial)⟩
              exact ⟨.refl _, .refl _, sameI (by rw [hj8]; show _ = ((crcN (b.take (i.val + 1)) : Nat) : Int); rw [crcN_take hlt]; rfl), sameI (by show _ = ((i.val + 1 : Nat) : Int); omega), trivial⟩
      · rw [decide_eq_false_iff_not] at hb
        have hib : i.val = b.length := by omega
        refine hx.run 400 ?_
        conv => whnf
        repeat' first | (refine And.intro (fun hb => ?_) (fun hb => ?_) <;> conv => whnf) | (refine And.intro ?_ ?_ <;> try conv => whnf)
        refine ans hS (congrArg (fun n => X.v (V.int .u16 n)) ?_)
        have := crcN_lt b
        rw [hib, List.take_length]
        exact (wrap_in (k := .u16) ⟨by simp only [lo]; omega, by simp only [Go.Proofs.Ytdpgdeaefmghiaa.Sx.hi]; omega⟩).symm
  · exact hS.elim
theorem bitsXor {a b : Nat} (ha : a < 2 ^ 63) (hb : b < 2 ^ 63) : bitsZ .xor .i64 (a : Int) (b : Int) = ((a ^^^ b : Nat) : Int) := by
  have hx : a ^^^ b < 2 ^ 63 := Nat.xor_lt_two_pow ha hb
  have : (BitVec.ofInt IntKind.i64.bits (a : Int) ^^^ BitVec.ofInt IntKind.i64.bits (b : Int)).toNat = a ^^^ b := by
    rw [BitVec.ofInt_natCast, BitVec.ofInt_natCast, BitVec.toNat_xor, BitVec.toNat_ofNat, BitVec.toNat_ofNat]
    show a % 2 ^ 64 ^^^ b % 2 ^ 64 = _
    rw [Nat.mod_eq_of_lt (by omega), Nat.mod_eq_of_lt (by omega)]
  show IntKind.i64.wrap _ = _
  rw [this]
  exact wrap_in ⟨by simp only [lo]; omega, by simp only [Go.Proofs.Ytdpgdeaefmghiaa.Sx.hi]; omega⟩
theorem tmod_in {a n : Int} (ha : 0 ≤ a) (hn : 1 ≤ n) : 0 ≤ a.tmod n ∧ a.tmod n < n := by
  rw [Int.tmod_eq_emod_of_nonneg ha]
  exact ⟨Int.emod_nonneg _ (by omega), Int.emod_lt_of_pos _ (by omega)⟩
theorem tdiv_in {a n : Int} (ha : 0 ≤ a) (hn : 1 ≤ n) : 0 ≤ a.tdiv n ∧ a.tdiv n ≤ a := by
  rw [Int.tdiv_eq_ediv_of_nonneg ha]
  exact ⟨Int.ediv_nonneg ha (by omega), Int.ediv_le_self _ ha⟩
noncomputable def S_spec_l26Open : Spec := fun args sub K => match args, sub with
  | [.v (.sl .u8 b)], [] => K (.v (.ptr 0 0)) [some (.box [.sl .u8 (b.take 2000), .int .i64 0])]
  | _, _ => False
theorem S_spec_l26Open_mono : Mono S_spec_l26Open := by
  intro args sub K K' hk h
  unfold S_spec_l26Open at h ⊢
  repeat' first | exact hk _ _ h | exact h.elim | exact ⟨fun hc => hk _ _ (h.1 hc), fun hc => hk _ _ (h.2 hc)⟩ | (refine ⟨h.1, ?_⟩; replace h := h.2) | (intro hc; replace h := h hc) | (refine And.imp ?_ ?_ h <;> clear h <;> intro h) | split at h
noncomputable abbrev E_spec_l26Open : Ent := ⟨nrm [[some .u8]] S_spec_l26Open, false⟩
theorem g_spec_l26Open : Good CA 12 E_spec_l26Open := by
  refine Good.nrm _ (fn_go (ex := 4) (l := []) (bor := []) CA_td CA_eq CA_mix trivial Try.func12 rfl (by simp [Try.f12]) S_spec_l26Open_mono fun args sub K hS hA hO => ?_)
  unfold S_spec_l26Open at hS
  split at hS
  · rename_i b
    refine ⟨by simp [Try.f12], fun E hx hnb => ?_⟩
    replace hx : Fx CA (hyOf [] []) 0 11 E := hx
    refine hx.run 400 ?_
    conv => whnf
    repeat' first | (refine And.intro (fun hb => ?_) (fun hb => ?_) <;> conv => whnf) | (refine And.intro ?_ ?_ <;> try conv => whnf)
    · rw [decide_eq_true_eq] at hb; exact ⟨by omega⟩
    · exact hS
    · rw [decide_eq_false_iff_not] at hb; rw [List.take_of_length_le (by omega)] at hS; exact hS
  · exact hS.elim
noncomputable def S_p_spec_l26Rd_pick : Spec := fun args sub K => match args, sub with
  | [.v (.ptr 0 0), .v (.int .i64 n)], [some (.box [.sl .u8 b, .int .i64 p])] => Hold (0 ≤ p ∧ p ≤ 1000000000 ∧ b.length ≤ 2000) ∧ ∀ v : Int, (v = 0 ∨ 0 ≤ v ∧ v < n) → K (.v (.int .i64 v)) [some (.box [.sl .u8 b, .int .i64 (p + 1)])]
  | _, _ => False
theorem S_p_spec_l26Rd_pick_mono : Mono S_p_spec_l26Rd_pick := by
  intro args sub K K' hk h
  unfold S_p_spec_l26Rd_pick at h ⊢
  repeat' first | exact hk _ _ h | exact h.elim | exact ⟨fun hc => hk _ _ (h.1 hc), fun hc => hk _ _ (h.2 hc)⟩ | (refine ⟨h.1, ?_⟩; replace h := h.2) | (intro hc; replace h := h hc) | (refine And.imp ?_ ?_ h <;> clear h <;> intro h) | split at h
noncomputable abbrev E_p_spec_l26Rd_pick : Ent := ⟨nrm [[none], [none]] S_p_spec_l26Rd_pick, false⟩
theorem g_p_spec_l26Rd_pick : Good CA 14 E_p_spec_l26Rd_pick := by
  refine Good.nrm _ (fn_go (ex := 4) (l := []) (bor := []) CA_td CA_eq CA_mix trivial Try.func14 rfl (by simp [Try.f14]) S_p_spec_l26Rd_pick_mono fun args sub K hS hA hO => ?_)
  unfold S_p_spec_l26Rd_pick at hS
  split at hS
  · rename_i n b p
    refine ⟨by simp [Try.f14], fun E hx hnb => ?_⟩
    replace hx : Fx CA (hyOf [] []) 1 100 E := hx
    obtain ⟨⟨hp⟩, hS⟩ := hS
    have hpp : p + 1 - 1 = p := by omega
    refine hx.run 400 ?_
    conv => whnf
    repeat' first | ((refine And.intro (fun hb => ?_) (fun hb => ?_)) <;> (try simp only [decide_eq_true_eq, decide_eq_false_iff_not, Bool.not_eq_true', Bool.not_eq_false', Bool.and_eq_true, Bool.or_eq_true, Bool.and_eq_false_iff, Bool.or_eq_false_iff] at hb) <;> (conv => whnf)) | (refine And.intro ?_ ?_ <;> try conv => whnf)
    all_goals (try exact ⟨by omega⟩)
    all_goals (try exact hin (by omega))
    all_goals (try exact hS 0 (.inl rfl))
    · exact hS _ (.inr (tmod_in (by omega) (by omega)))
    · have m1 := tmod_in (a := p) (n := b.length) (by omega) (by omega)
      have m2 := tmod_in (a := p * 7 + 3) (n := b.length) (by omega) (by omega)
      have d1 := tdiv_in (a := p) (n := b.length) (by omega) (by omega)
      have u1 := u8lt b (p.tmod b.length).toNat
      have u2 := u8lt b ((p * 7 + 3).tmod b.length).toNat
      have w1 : IntKind.i64.wrap (p.tdiv b.length) = p.tdiv b.length := wrap64 (by omega)
      refine hx.draw 400 (by kernel_rfl) ?_
      conv => whnf
      repeat' first | ((refine And.intro (fun hb => ?_) (fun hb => ?_)) <;> (try simp only [decide_eq_true_eq, decide_eq_false_iff_not, Bool.not_eq_true', Bool.not_eq_false', Bool.and_eq_true, Bool.or_eq_true, Bool.and_eq_false_iff, Bool.or_eq_false_iff] at hb) <;> (conv => whnf)) | (refine And.intro ?_ ?_ <;> try conv => whnf)
      all_goals (try rw [hpp])
      all_goals (try rw [w1])
      all_goals (try exact ⟨by omega⟩)
      all_goals (try exact hin (by omega))
      refine hS _ (.inr (tmod_in ?_ (by omega)))
      have he : 0 ≤ ((UInt8.toNat (b.getD (p.tmod b.length).toNat Ty.u8.dflt) : Nat) : Int) * 131 + ((UInt8.toNat (b.getD ((p * 7 + 3).tmod b.length).toNat Ty.u8.dflt) : Nat) : Int) * 1117 + p * 29 + p.tdiv b.length * 53 ∧ ((UInt8.toNat (b.getD (p.tmod b.length).toNat Ty.u8.dflt) : Nat) : Int) * 131 + ((UInt8.toNat (b.getD ((p * 7 + 3).tmod b.length).toNat Ty.u8.dflt) : Nat) : Int) * 1117 + p * 29 + p.tdiv b.length * 53 ≤ 1000000000000 := by omega
      generalize ((UInt8.toNat (b.getD (p.tmod b.length).toNat Ty.u8.dflt) : Nat) : Int) * 131 + ((UInt8.toNat (b.getD ((p * 7 + 3).tmod b.length).toNat Ty.u8.dflt) : Nat) : Int) * 1117 + p * 29 + p.tdiv b.length * 53 = e at he
      have d2 := tdiv_in (a := e) (n := 64) (by omega) (by omega)
      rw [wrap64 (by omega)]
      obtain ⟨x, hx'⟩ : ∃ x : Nat, e = x := ⟨e.toNat, by omega⟩
      obtain ⟨y, hy'⟩ : ∃ y : Nat, e.tdiv 64 = y := ⟨(e.tdiv 64).toNat, by omega⟩
      rw [hy', hx', bitsXor (by omega) (by omega)]
      omega
  · exact hS.elim
noncomputable def S_p_spec_l17In_take : Spec := fun args sub K => match args, sub with
  | [.v (.ptr 0 0), .v (.int .i64 n)], [some (.box [.sl .u8 b, .int .i64 p])] => Hold (0 ≤ p ∧ p ≤ b.length ∧ 0 ≤ n ∧ n ≤ 1000000) ∧ ((b.length : Int) - p < n → K (.tup [.v .nil, .v (.bool false)]) [some (.box [.sl .u8 b, .int .i64 p])]) ∧ (¬ (b.length : Int) - p < n → K (.tup [.v (.sl .u8 ((b.drop p.toNat).take n.toNat)), .v (.bool true)]) [some (.box [.sl .u8 b, .int .i64 (p + n)])])
  | _, _ => False
theorem S_p_spec_l17In_take_mono : Mono S_p_spec_l17In_take := by
  intro args sub K K' hk h
  unfold S_p_spec_l17In_take at h ⊢
  repeat' first | exact hk _ _ h | exact h.elim | exact ⟨fun hc => hk _ _ (h.1 hc), fun hc => hk _ _ (h.2 hc)⟩ | (refine ⟨h.1, ?_⟩; replace h := h.2) | (intro hc; replace h := h hc) | (refine And.imp ?_ ?_ h <;> clear h <;> intro h) | split at h
noncomputable abbrev E_p_spec_l17In_take : Ent := ⟨nrm [[none], [none]] S_p_spec_l17In_take, false⟩
theorem g_p_spec_l17In_take : Good CA 39 E_p_spec_l17In_take := by
  refine Good.nrm _ (fn_go (ex := 4) (l := []) (bor := []) CA_td CA_eq CA_mix trivial Try.func39 rfl (by simp [Try.f39]) S_p_spec_l17In_take_mono fun args sub K hS hA hO => ?_)
  unfold S_p_spec_l17In_take at hS
  split at hS
  · rename_i n b p
    refine ⟨by simp [Try.f39], fun E hx hnb => ?_⟩
    replace hx : Fx CA (hyOf [] []) 1 43 E := hx
    obtain ⟨⟨hp⟩, hS⟩ := hS
    have hO0 := hO 0 _ rfl
    have hbl : b.length ≤ big := by have h := (hO0 (.sl .u8 b) (by simp) : Ok (.sl .u8) b).1; exact Nat.le_trans (Nat.le_mul_of_pos_right _ Ty.u8.bytes_pos) h
    unfold big at hbl
    refine hx.run 400 ?_
    conv => whnf
    refine hx.draw 400 (by kernel_rfl) ?_
    conv => whnf
    repeat' first | ((refine And.intro (fun hb => ?_) (fun hb => ?_)) <;> (try simp only [decide_eq_true_eq, decide_eq_false_iff_not, Bool.not_eq_true', Bool.not_eq_false', Bool.and_eq_true, Bool.or_eq_true, Bool.and_eq_false_iff, Bool.or_eq_false_iff] at hb) <;> (conv => whnf)) | (refine And.intro ?_ ?_ <;> try conv => whnf)
    all_goals (try exact hin (by omega))
    · exact hS.1 hb
    refine hx.draw 400 (by kernel_rfl) ?_
    conv => whnf
    repeat' first | ((refine And.intro (fun hb => ?_) (fun hb => ?_)) <;> (try simp only [decide_eq_true_eq, decide_eq_false_iff_not, Bool.not_eq_true', Bool.not_eq_false', Bool.and_eq_true, Bool.or_eq_true, Bool.and_eq_false_iff, Bool.or_eq_false_iff] at hb) <;> (conv => whnf)) | (refine And.intro ?_ ?_ <;> try conv => whnf)
    · exact hin (by omega)
    · exact ⟨by omega⟩
    · have h := hS.2 hb
      rw [show p + n - n = p by omega, List.drop_take, show (p + n).toNat - p.toNat = n.toNat by omega]
      exact h
  · exact hS.elim
noncomputable def S_p_impl_picReader_take : Spec := fun args sub K => match args, sub with
  | [.v (.ptr 0 0), .v (.int .i64 n)], [some (.box [.sl .u8 b, .int .i64 c])] => Hold (0 ≤ n ∧ n ≤ 1000000) ∧ (¬ c = 0 → K (.v (.sl .u8 (List.replicate n.toNat (0 : UInt8)))) [some (.box [.sl .u8 b, .int .i64 c])]) ∧ (c = 0 → ((b.length : Int) < n → K (.v (.sl .u8 (List.replicate n.toNat (0 : UInt8)))) [some (.box [.sl .u8 b, .int .i64 6])]) ∧ (¬ (b.length : Int) < n → K (.v (.sl .u8 (b.take n.toNat))) [some (.box [.sl .u8 (b.drop n.toNat), .int .i64 c])]))
  | _, _ => False
theorem S_p_impl_picReader_take_mono : Mono S_p_impl_picReader_take := by
  intro args sub K K' hk h
  unfold S_p_impl_picReader_take at h ⊢
  repeat' first | exact hk _ _ h | exact h.elim | exact ⟨fun hc => hk _ _ (h.1 hc), fun hc => hk _ _ (h.2 hc)⟩ | (refine ⟨h.1, ?_⟩; replace h := h.2) | (intro hc; replace h := h hc) | (refine And.imp ?_ ?_ h <;> clear h <;> intro h) | split at h
noncomputable abbrev E_p_impl_picReader_take : Ent := ⟨nrm [[none], [none]] S_p_impl_picReader_take, false⟩
theorem g_p_impl_picReader_take : Good CA 44 E_p_impl_picReader_take := by
  refine Good.nrm _ (fn_go (ex := 4) (l := []) (bor := []) CA_td CA_eq CA_mix trivial Try.func44 rfl (by simp [Try.f44]) S_p_impl_picReader_take_mono fun args sub K hS hA hO => ?_)
  unfold S_p_impl_picReader_take at hS
  split at hS
  · rename_i n b c
    refine ⟨by simp [Try.f44], fun E hx hnb => ?_⟩
    replace hx : Fx CA (hyOf [] []) 1 47 E := hx
    obtain ⟨⟨hp⟩, h1, h2⟩ := hS
    have hbig : n * ((Ty.u8.bytes : Nat) : Int) ≤ ((big : Nat) : Int) := by show n * 1 ≤ _; unfold big; omega
    by_cases hc : c = 0
    · subst hc
      obtain ⟨h2, h3⟩ := h2 rfl
      refine hx.next 400 rfl ?_
      conv => whnf
      repeat' first | exact SameX.refl _ | exact trivial | (refine And.intro ?_ ?_ <;> first | (intro hb <;> (try simp only [decide_eq_true_eq, decide_eq_false_iff_not, Bool.not_eq_true', Bool.not_eq_false', Bool.and_eq_true, Bool.or_eq_true, Bool.and_eq_false_iff, Bool.or_eq_false_iff, Bool.not_true, Bool.not_false, reduceCtorEq, Bool.true_and, Bool.and_true, Bool.false_and, Bool.and_false, ne_eq, not_or, not_true_eq_false, not_false_eq_true, false_or, or_false, true_and, and_true, false_and, and_false, Int.natCast_zero, Int.natCast_add, Int.natCast_one, List.length_nil, List.length_cons, List.length_take, List.length_drop, List.length_replicate, List.length_append, List.length_set, Nat.zero_add] at hb) <;> (try (exfalso; omega)) <;> (try conv => whnf)) | (conv => whnf) | skip) | (intro hb <;> (try simp only [decide_eq_true_eq, decide_eq_false_iff_not, Bool.not_eq_true', Bool.not_eq_false', Bool.and_eq_true, Bool.or_eq_true, Bool.and_eq_false_iff, Bool.or_eq_false_iff, Bool.not_true, Bool.not_false, reduceCtorEq, Bool.true_and, Bool.and_true, Bool.false_and, Bool.and_false, ne_eq, not_or, not_true_eq_false, not_false_eq_true, false_or, or_false, true_and, and_true, false_and, and_false, Int.natCast_zero, Int.natCast_add, Int.natCast_one, List.length_nil, List.length_cons, List.length_take, List.length_drop, List.length_replicate, List.length_append, List.length_set, Nat.zero_add] at hb) <;> (try (exfalso; omega)) <;> (try conv => whnf)) | (refine hx.draw 400 (by kernel_rfl) ?_ <;> conv => whnf) | (refine hx.next 400 rfl ?_ <;> conv => whnf)
      all_goals try first | exact ⟨by decide⟩ | exact hin (by omega) | exact ⟨by omega⟩ | exact ⟨⟨by omega, by omega⟩⟩ | exact ⟨by omega, by omega⟩ | (exfalso; omega)
      all_goals (try exact ⟨by omega, by omega, hbig⟩)
      all_goals (try exact ⟨⟨by omega, by omega, hbig⟩⟩)
      · exact h2 (by omega)
      · exact h3 (by omega)
    · have h1 := h1 hc
      refine hx.next 400 rfl ?_
      conv => whnf
      repeat' first | exact SameX.refl _ | exact trivial | (refine And.intro ?_ ?_ <;> first | (intro hb <;> (try simp only [decide_eq_true_eq, decide_eq_false_iff_not, Bool.not_eq_true', Bool.not_eq_false', Bool.and_eq_true, Bool.or_eq_true, Bool.and_eq_false_iff, Bool.or_eq_false_iff, Bool.not_true, Bool.not_false, reduceCtorEq, Bool.true_and, Bool.and_true, Bool.false_and, Bool.and_false, ne_eq, not_or, not_true_eq_false, not_false_eq_true, false_or, or_false, true_and, and_true, false_and, and_false, Int.natCast_zero, Int.natCast_add, Int.natCast_one, List.length_nil, List.length_cons, List.length_take, List.length_drop, List.length_replicate, List.length_append, List.length_set, Nat.zero_add] at hb) <;> (try (exfalso; omega)) <;> (try conv => whnf)) | (conv => whnf) | skip) | (intro hb <;> (try simp only [decide_eq_true_eq, decide_eq_false_iff_not, Bool.not_eq_true', Bool.not_eq_false', Bool.and_eq_true, Bool.or_eq_true, Bool.and_eq_false_iff, Bool.or_eq_false_iff, Bool.not_true, Bool.not_false, reduceCtorEq, Bool.true_and, Bool.and_true, Bool.false_and, Bool.and_false, ne_eq, not_or, not_true_eq_false, not_false_eq_true, false_or, or_false, true_and, and_true, false_and, and_false, Int.natCast_zero, Int.natCast_add, Int.natCast_one, List.length_nil, List.length_cons, List.length_take, List.length_drop, List.length_replicate, List.length_append, List.length_set, Nat.zero_add] at hb) <;> (try (exfalso; omega)) <;> (try conv => whnf)) | (refine hx.draw 400 (by kernel_rfl) ?_ <;> conv => whnf) | (refine hx.next 400 rfl ?_ <;> conv => whnf)
      all_goals try first | exact ⟨by decide⟩ | exact hin (by omega) | exact ⟨by omega⟩ | exact ⟨⟨by omega, by omega⟩⟩ | exact ⟨by omega, by omega⟩ | (exfalso; omega)
      all_goals (try exact ⟨by omega, by omega, hbig⟩)
      all_goals exact h1
  · exact hS.elim
end Go.Proofs.Ytdpgdeaefmghiaa.Sx

/- Printed by gen2.py: contracts of functions. -/
namespace Go.Proofs.Ytdpgdeaefmghiaa.Sx
open Go.Proofs
set_option maxRecDepth 20000
set_option maxHeartbeats 4000000
set_option linter.unusedSimpArgs false
set_option linter.unusedVariables false
def beN (bs : List UInt8) : Nat := bs.foldl (fun n b => n * 256 + b.toNat) 0
theorem beN_take {bs : List UInt8} {i : Nat} (h : i < bs.length) : beN (bs.take (i + 1)) = beN (bs.take i) * 256 + bs[i].toNat := by
  unfold beN; rw [List.take_succ_eq_append_getElem h, List.foldl_append]; rfl
theorem foldl_be_lt : ∀ (bs : List UInt8) (n : Nat), bs.foldl (fun n b => n * 256 + b.toNat) n < (n + 1) * 256 ^ bs.length
  | [], n => by simp
  | b :: bs, n => by
    have := foldl_be_lt bs (n * 256 + b.toNat)
    have hb := UInt8.toNat_lt b
    simp only [List.foldl_cons, List.length_cons, Nat.pow_succ]
    refine Nat.lt_of_lt_of_le this ?_
    have : (n * 256 + b.toNat + 1) ≤ (n + 1) * 256 := by omega
    calc _ ≤ ((n + 1) * 256) * 256 ^ bs.length := Nat.mul_le_mul_right _ this
      _ = _ := by rw [Nat.mul_assoc, Nat.mul_comm 256]
theorem beN_lt (bs : List UInt8) : beN bs < 256 ^ bs.length := by have := foldl_be_lt bs 0; simpa [beN] using this
theorem pow256_le {n m : Nat} (h : n ≤ m) : 256 ^ n ≤ 256 ^ m := Nat.pow_le_pow_right (by omega) h
theorem orShl {a b : Nat} (ha : a < 2 ^ 48) (hb : b < 256) : bitsZ .or .i64 (IntKind.i64.wrap ((a : Int) * 2 ^ min (8 : Int).toNat IntKind.i64.bits)) (b : Int) = ((a * 256 + b : Nat) : Int) := by
  have e1 : ((a : Int) * 2 ^ min (8 : Int).toNat IntKind.i64.bits) = ((a * 256 : Nat) : Int) := by
    show (a : Int) * 2 ^ 8 = _; omega
  rw [e1, wrap64 (by omega)]
  have : (BitVec.ofInt IntKind.i64.bits ((a * 256 : Nat) : Int) ||| BitVec.ofInt IntKind.i64.bits (b : Int)).toNat = a * 256 + b := by
    rw [BitVec.ofInt_natCast, BitVec.ofInt_natCast, BitVec.toNat_or, BitVec.toNat_ofNat, BitVec.toNat_ofNat]
    show a * 256 % 2 ^ 64 ||| b % 2 ^ 64 = _
    rw [Nat.mod_eq_of_lt (by omega), Nat.mod_eq_of_lt (by omega), show a * 256 = 2 ^ 8 * a by omega, Nat.two_pow_add_eq_or_of_lt (by omega)]
  show IntKind.i64.wrap _ = _
  rw [this]
  exact wrap64 (by omega)
theorem getD_u8 {b : List UInt8} {i : Nat} (h : i < b.length) (d : UInt8) : b.getD i d = b[i] := by simp [List.getD_eq_getElem?_getD, h]
theorem nat_toNat (n : Nat) : ((n : Int)).toNat = n := by omega
def sval (b : List UInt8) : Int := if 1 < b.length ∧ 128 ≤ (b.getD 0 (0 : UInt8) : UInt8).toNat then (beN b : Int) - ((256 ^ b.length : Nat) : Int) else (beN b : Int)
theorem sval_hi {b : List UInt8} (h1 : (1 : Int) < b.length) (h2 : (128 : Int) ≤ ((UInt8.toNat (b.getD (Int.toNat 0) Ty.u8.dflt) : Nat) : Int)) : (beN b : Int) - ((256 ^ b.length : Nat) : Int) = sval b := by
  unfold sval; rw [if_pos ⟨by omega, Int.ofNat_le.1 h2⟩]
theorem sval_lo {b : List UInt8} (h : ¬ (1 : Int) < b.length ∨ ¬ (128 : Int) ≤ ((UInt8.toNat (b.getD (Int.toNat 0) Ty.u8.dflt) : Nat) : Int)) : (beN b : Int) = sval b := by
  unfold sval; rw [if_neg (fun q => by rcases h with h | h; · omega
                                       · exact h (Int.ofNat_le.2 q.2))]
theorem shl_pow {n : Nat} (h : n ≤ 7) : IntKind.i64.wrap (1 * 2 ^ min (8 * (n : Int)).toNat IntKind.i64.bits) = ((256 ^ n : Nat) : Int) := by
  have : n = 0 ∨ n = 1 ∨ n = 2 ∨ n = 3 ∨ n = 4 ∨ n = 5 ∨ n = 6 ∨ n = 7 := by omega
  rcases this with rfl | rfl | rfl | rfl | rfl | rfl | rfl | rfl <;> decide
theorem ansI {K : X → Obs → Prop} {k : IntKind} {a b : Int} {o : Obs} (h : K (.v (.int k a)) o) (e : b = a) : K (.v (.int k b)) o := e ▸ h
theorem ansS {K : X → Obs → Prop} {T : Ty} {a b : List T.D} {o : Obs} (h : K (.v (.sl T a)) o) (e : b = a) : K (.v (.sl T b)) o := e ▸ h
theorem ansB {K : X → Obs → Prop} {a b : Bool} {o : Obs} (h : K (.v (.bool a)) o) (e : b = a) : K (.v (.bool b)) o := e ▸ h
noncomputable def S_impl_fromBig : Spec := fun args sub K => match args, sub with
  | [.v (.sl .u8 b)], [] => Hold (b.length ≤ 7) ∧ K (.v (.int .i64 (beN b : Int))) []
  | _, _ => False
theorem S_impl_fromBig_mono : Mono S_impl_fromBig := by
  intro args sub K K' hk h
  unfold S_impl_fromBig at h ⊢
  repeat' first | exact hk _ _ h | exact h.elim | exact ⟨fun hc => hk _ _ (h.1 hc), fun hc => hk _ _ (h.2 hc)⟩ | (refine ⟨h.1, ?_⟩; replace h := h.2) | (intro hc; replace h := h hc) | (refine And.imp ?_ ?_ h <;> clear h <;> intro h) | split at h
noncomputable abbrev E_impl_fromBig : Ent := ⟨nrm [[some .u8]] S_impl_fromBig, false⟩
theorem g_impl_fromBig : Good CA 20 E_impl_fromBig := by
  refine Good.nrm _ (fn_go (ex := 4) (l := []) (bor := []) CA_td CA_eq CA_mix trivial Try.func20 rfl (by simp [Try.f20]) S_impl_fromBig_mono fun args sub K hS hA hO => ?_)
  unfold S_impl_fromBig at hS
  split at hS
  · rename_i b
    refine ⟨by simp [Try.f20], fun E hx hnb => ?_⟩
    replace hx : Fx CA (hyOf [] []) 0 19 E := hx
    obtain ⟨⟨hl⟩, hS⟩ := hS
    refine hx.next 400 rfl ?_
    conv => whnf
    repeat' first | exact SameX.refl _ | exact trivial | (refine And.intro ?_ ?_ <;> first | (intro hb <;> (try simp only [decide_eq_true_eq, decide_eq_false_iff_not, Bool.not_eq_true', Bool.not_eq_false', Bool.and_eq_true, Bool.or_eq_true, Bool.and_eq_false_iff, Bool.or_eq_false_iff, Bool.not_true, Bool.not_false, reduceCtorEq, Bool.true_and, Bool.and_true, Bool.false_and, Bool.and_false, ne_eq, not_or, not_true_eq_false, not_false_eq_true, false_or, or_false, true_and, and_true, false_and, and_false, Int.natCast_zero, Int.natCast_add, Int.natCast_one, List.length_nil, List.length_cons, List.length_take, List.length_drop, List.length_replicate, List.length_append, List.length_set, Nat.zero_add] at hb) <;> (try (exfalso; omega)) <;> (try conv => whnf)) | (conv => whnf) | skip) | (intro hb <;> (try simp only [decide_eq_true_eq, decide_eq_false_iff_not, Bool.not_eq_true', Bool.not_eq_false', Bool.and_eq_true, Bool.or_eq_true, Bool.and_eq_false_iff, Bool.or_eq_false_iff, Bool.not_true, Bool.not_false, reduceCtorEq, Bool.true_and, Bool.and_true, Bool.false_and, Bool.and_false, ne_eq, not_or, not_true_eq_false, not_false_eq_true, false_or, or_false, true_and, and_true, false_and, and_false, Int.natCast_zero, Int.natCast_add, Int.natCast_one, List.length_nil, List.length_cons, List.length_take, List.length_drop, List.length_replicate, List.length_append, List.length_set, Nat.zero_add] at hb) <;> (try (exfalso; omega)) <;> (try conv => whnf)) | (refine hx.draw 400 (by kernel_rfl) ?_ <;> conv => whnf) | (refine hx.next 400 rfl ?_ <;> conv => whnf)
    all_goals try first | exact ⟨by decide⟩ | exact hin (by omega) | exact ⟨by omega⟩ | exact ⟨⟨by omega, by omega⟩⟩ | exact ⟨by omega, by omega⟩ | (exfalso; omega)
    refine Safe.loopUP (Y := Nat) (fun i => [(3, N64 (beN (b.take i))), (5, .v .any), (8, N64 (i : Int)), (9, .v .any), (10, .v .any), (11, .v .any), (12, .v .any), (13, .v .any), (14, .v .any), (15, .v .any), (16, .v .any), (17, .v .any)]) (fun i => [(3, none), (5, none), (8, none), (9, none), (10, none), (11, none), (12, none), (13, none), (14, none), (15, none), (16, none), (17, none)]) (fun i => i ≤ b.length) (fun i => b.length - i) (0) ?_ (StLe.upd ?_) fun i hP => ?_
    · first | trivial | ((try dsimp only); first | trivial | omega | ((repeat' apply And.intro) <;> omega) | (simp; done))
    · conv => whnf
      repeat' first | exact trivial | exact .refl _ | exact .nilsl _ | exact .tt _ rfl | exact .ff _ rfl | exact .tb _ rfl | exact .fb _ rfl | exact .row _ _ _ _ rfl | (refine And.intro ?_ ?_ <;> try conv => whnf)
      all_goals try first | exact sameI (by omega) | exact sameI rfl | (refine sameI ?_; simp only [List.length_append, List.length_cons, List.length_nil]; omega)
    · try dsimp only at hP
      have hlt := beN_lt (b.take i)
      have hp := pow256_le (show (b.take i).length ≤ 7 by rw [List.length_take]; omega)
      refine hx.next 400 rfl ?_
      conv => whnf
      repeat' first | exact SameX.refl _ | exact trivial | (refine And.intro ?_ ?_ <;> first | (intro hb <;> (try simp only [decide_eq_true_eq, decide_eq_false_iff_not, Bool.not_eq_true', Bool.not_eq_false', Bool.and_eq_true, Bool.or_eq_true, Bool.and_eq_false_iff, Bool.or_eq_false_iff, Bool.not_true, Bool.not_false, reduceCtorEq, Bool.true_and, Bool.and_true, Bool.false_and, Bool.and_false, ne_eq, not_or, not_true_eq_false, not_false_eq_true, false_or, or_false, true_and, and_true, false_and, and_false, Int.natCast_zero, Int.natCast_add, Int.natCast_one, List.length_nil, List.length_cons, List.length_take, List.length_drop, List.length_replicate, List.length_append, List.length_set, Nat.zero_add] at hb) <;> (try (exfalso; omega)) <;> (try conv => whnf)) | (conv => whnf) | skip) | (intro hb <;> (try simp only [decide_eq_true_eq, decide_eq_false_iff_not, Bool.not_eq_true', Bool.not_eq_false', Bool.and_eq_true, Bool.or_eq_true, Bool.and_eq_false_iff, Bool.or_eq_false_iff, Bool.not_true, Bool.not_false, reduceCtorEq, Bool.true_and, Bool.and_true, Bool.false_and, Bool.and_false, ne_eq, not_or, not_true_eq_false, not_false_eq_true, false_or, or_false, true_and, and_true, false_and, and_false, Int.natCast_zero, Int.natCast_add, Int.natCast_one, List.length_nil, List.length_cons, List.length_take, List.length_drop, List.length_replicate, List.length_append, List.length_set, Nat.zero_add] at hb) <;> (try (exfalso; omega)) <;> (try conv => whnf)) | (refine hx.draw 400 (by kernel_rfl) ?_ <;> conv => whnf) | (refine hx.next 400 rfl ?_ <;> conv => whnf)
      all_goals try first | exact ⟨by decide⟩ | exact hin (by omega) | exact ⟨by omega⟩ | exact ⟨⟨by omega, by omega⟩⟩ | exact ⟨by omega, by omega⟩ | (exfalso; omega)
      all_goals try (have := u8lt b ((i : Int)).toNat)
      all_goals try first | exact ⟨by decide⟩ | exact hin (by omega) | exact ⟨by omega⟩ | exact ⟨⟨by omega, by omega⟩⟩ | exact ⟨by omega, by omega⟩ | (exfalso; omega)
      · have hlt' : i < b.length := by omega
        refine ⟨i + 1, by ((try dsimp only); first | trivial | omega | ((repeat' apply And.intro) <;> omega)), by first | omega | ((try dsimp only); (try simp only [List.length_append, List.length_cons, List.length_nil]); omega), StLe.upd ?_⟩
        conv => whnf
        repeat' first | exact trivial | exact .refl _ | exact .nilsl _ | exact .tt _ rfl | exact .ff _ rfl | exact .tb _ rfl | exact .fb _ rfl | exact .row _ _ _ _ rfl | (refine And.intro ?_ ?_ <;> try conv => whnf)
        all_goals try first | exact sameI (by omega) | exact sameI rfl | (refine sameI ?_; simp only [List.length_append, List.length_cons, List.length_nil]; omega)
        refine sameI ?_
        have hp6 := pow256_le (show (b.take i).length ≤ 6 by rw [List.length_take]; omega)
        have hu := UInt8.toNat_lt b[i]
        have h1 := orShl (a := beN (b.take i)) (b := b[i].toNat) (by omega) (by omega)
        rw [nat_toNat, getD_u8 hlt', h1, beN_take hlt']
      · have hib : i = b.length := by omega
        rw [hib, List.take_length]
        exact hS
  · exact hS.elim
noncomputable def S_spec_l17Val : Spec := fun args sub K => match args, sub with
  | [.v (.sl .u8 b)], [] => Hold (b.length ≤ 7) ∧ K (.v (.int .i64 (sval b))) []
  | _, _ => False
theorem S_spec_l17Val_mono : Mono S_spec_l17Val := by
  intro args sub K K' hk h
  unfold S_spec_l17Val at h ⊢
  repeat' first | exact hk _ _ h | exact h.elim | exact ⟨fun hc => hk _ _ (h.1 hc), fun hc => hk _ _ (h.2 hc)⟩ | (refine ⟨h.1, ?_⟩; replace h := h.2) | (intro hc; replace h := h hc) | (refine And.imp ?_ ?_ h <;> clear h <;> intro h) | split at h
noncomputable abbrev E_spec_l17Val : Ent := ⟨nrm [[some .u8]] S_spec_l17Val, false⟩
theorem g_spec_l17Val : Good CA 63 E_spec_l17Val := by
  refine Good.nrm _ (fn_go (ex := 4) (l := []) (bor := []) CA_td CA_eq CA_mix trivial Try.func63 rfl (by simp [Try.f63]) S_spec_l17Val_mono fun args sub K hS hA hO => ?_)
  unfold S_spec_l17Val at hS
  split at hS
  · rename_i b
    refine ⟨by simp [Try.f63], fun E hx hnb => ?_⟩
    replace hx : Fx CA (hyOf [] []) 0 35 E := hx
    obtain ⟨⟨hl⟩, hS⟩ := hS
    refine hx.next 400 rfl ?_
    conv => whnf
    repeat' first | exact SameX.refl _ | exact trivial | (refine And.intro ?_ ?_ <;> first | (intro hb <;> (try simp only [decide_eq_true_eq, decide_eq_false_iff_not, Bool.not_eq_true', Bool.not_eq_false', Bool.and_eq_true, Bool.or_eq_true, Bool.and_eq_false_iff, Bool.or_eq_false_iff, Bool.not_true, Bool.not_false, reduceCtorEq, Bool.true_and, Bool.and_true, Bool.false_and, Bool.and_false, ne_eq, not_or, not_true_eq_false, not_false_eq_true, false_or, or_false, true_and, and_true, false_and, and_false, Int.natCast_zero, Int.natCast_add, Int.natCast_one, List.length_nil, List.length_cons, List.length_take, List.length_drop, List.length_replicate, List.length_append, List.length_set, Nat.zero_add] at hb) <;> (try (exfalso; omega)) <;> (try conv => whnf)) | (conv => whnf) | skip) | (intro hb <;> (try simp only [decide_eq_true_eq, decide_eq_false_iff_not, Bool.not_eq_true', Bool.not_eq_false', Bool.and_eq_true, Bool.or_eq_true, Bool.and_eq_false_iff, Bool.or_eq_false_iff, Bool.not_true, Bool.not_false, reduceCtorEq, Bool.true_and, Bool.and_true, Bool.false_and, Bool.and_false, ne_eq, not_or, not_true_eq_false, not_false_eq_true, false_or, or_false, true_and, and_true, false_and, and_false, Int.natCast_zero, Int.natCast_add, Int.natCast_one, List.length_nil, List.length_cons, List.length_take, List.length_drop, List.length_replicate, List.length_append, List.length_set, Nat.zero_add] at hb) <;> (try (exfalso; omega)) <;> (try conv => whnf)) | (refine hx.draw 400 (by kernel_rfl) ?_ <;> conv => whnf) | (refine hx.next 400 rfl ?_ <;> conv => whnf)
    all_goals try first | exact ⟨by decide⟩ | exact hin (by omega) | exact ⟨by omega⟩ | exact ⟨⟨by omega, by omega⟩⟩ | exact ⟨by omega, by omega⟩ | (exfalso; omega)
    refine Safe.loopUP (Y := Nat) (fun i => [(3, N64 (beN (b.take i))), (4, N64 ((256 ^ i : Nat) : Int)), (5, N64 (i : Int)), (6, .v .any), (7, .v .any), (8, .v .any), (9, .v .any), (10, .v .any), (11, .v .any), (12, .v .any), (13, .v .any), (14, .v .any), (15, .v .any), (16, .v .any), (17, .v .any), (18, .v .any), (19, .v .any), (20, .v .any), (21, .v .any)]) (fun i => [(3, none), (4, none), (5, none), (6, none), (7, none), (8, none), (9, none), (10, none), (11, none), (12, none), (13, none), (14, none), (15, none), (16, none), (17, none), (18, none), (19, none), (20, none), (21, none)]) (fun i => i ≤ b.length) (fun i => b.length - i) (0) ?_ (StLe.upd ?_) fun i hP => ?_
    · first | trivial | ((try dsimp only); first | trivial | omega | ((repeat' apply And.intro) <;> omega) | (simp; done))
    · conv => whnf
      repeat' first | exact trivial | exact .refl _ | exact .nilsl _ | exact .tt _ rfl | exact .ff _ rfl | exact .tb _ rfl | exact .fb _ rfl | exact .row _ _ _ _ rfl | (refine And.intro ?_ ?_ <;> try conv => whnf)
      all_goals try first | exact sameI (by omega) | exact sameI rfl | (refine sameI ?_; simp only [List.length_append, List.length_cons, List.length_nil]; omega)
    · try dsimp only at hP
      have hlt := beN_lt (b.take i)
      have hp := pow256_le (show (b.take i).length ≤ 7 by rw [List.length_take]; omega)
      have hp' := pow256_le (show i ≤ 7 by omega)
      have hnn : (0 : Int) ≤ ((256 ^ i : Nat) : Int) := Int.natCast_nonneg _
      refine hx.next 400 rfl ?_
      conv => whnf
      repeat' first | exact SameX.refl _ | exact trivial | (refine And.intro ?_ ?_ <;> first | (intro hb <;> (try simp only [decide_eq_true_eq, decide_eq_false_iff_not, Bool.not_eq_true', Bool.not_eq_false', Bool.and_eq_true, Bool.or_eq_true, Bool.and_eq_false_iff, Bool.or_eq_false_iff, Bool.not_true, Bool.not_false, reduceCtorEq, Bool.true_and, Bool.and_true, Bool.false_and, Bool.and_false, ne_eq, not_or, not_true_eq_false, not_false_eq_true, false_or, or_false, true_and, and_true, false_and, and_false, Int.natCast_zero, Int.natCast_add, Int.natCast_one, List.length_nil, List.length_cons, List.length_take, List.length_drop, List.length_replicate, List.length_append, List.length_set, Nat.zero_add] at hb) <;> (try (exfalso; omega)) <;> (try conv => whnf)) | (conv => whnf) | skip) | (intro hb <;> (try simp only [decide_eq_true_eq, decide_eq_false_iff_not, Bool.not_eq_true', Bool.not_eq_false', Bool.and_eq_true, Bool.or_eq_true, Bool.and_eq_false_iff, Bool.or_eq_false_iff, Bool.not_true, Bool.not_false, reduceCtorEq, Bool.true_and, Bool.and_true, Bool.false_and, Bool.and_false, ne_eq, not_or, not_true_eq_false, not_false_eq_true, false_or, or_false, true_and, and_true, false_and, and_false, Int.natCast_zero, Int.natCast_add, Int.natCast_one, List.length_nil, List.length_cons, List.length_take, List.length_drop, List.length_replicate, List.length_append, List.length_set, Nat.zero_add] at hb) <;> (try (exfalso; omega)) <;> (try conv => whnf)) | (refine hx.draw 400 (by kernel_rfl) ?_ <;> conv => whnf) | (refine hx.next 400 rfl ?_ <;> conv => whnf)
      all_goals try first | exact ⟨by decide⟩ | exact hin (by omega) | exact ⟨by omega⟩ | exact ⟨⟨by omega, by omega⟩⟩ | exact ⟨by omega, by omega⟩ | (exfalso; omega)
      all_goals try (have := u8lt b ((i : Int)).toNat)
      all_goals try (have hp6 := pow256_le (show (b.take i).length ≤ 6 by rw [List.length_take]; omega))
      all_goals try (have hp6' := pow256_le (show i ≤ 6 by omega))
      all_goals try first | exact ⟨by decide⟩ | exact hin (by omega) | exact ⟨by omega⟩ | exact ⟨⟨by omega, by omega⟩⟩ | exact ⟨by omega, by omega⟩ | (exfalso; omega)
      · have hlt' : i < b.length := by omega
        refine ⟨i + 1, by ((try dsimp only); first | trivial | omega | ((repeat' apply And.intro) <;> omega)), by first | omega | ((try dsimp only); (try simp only [List.length_append, List.length_cons, List.length_nil]); omega), StLe.upd ?_⟩
        conv => whnf
        repeat' first | exact trivial | exact .refl _ | exact .nilsl _ | exact .tt _ rfl | exact .ff _ rfl | exact .tb _ rfl | exact .fb _ rfl | exact .row _ _ _ _ rfl | (refine And.intro ?_ ?_ <;> try conv => whnf)
        all_goals try first | exact sameI (by omega) | exact sameI rfl | (refine sameI ?_; simp only [List.length_append, List.length_cons, List.length_nil]; omega)
        · refine sameI ?_
          rw [nat_toNat]
          show _ = ((beN (b.take (i + 1)) : Nat) : Int)
          rw [beN_take hlt', Int.natCast_add, Int.natCast_mul]
          show (beN (b.take i) : Int) * 256 + (((b.getD i 0 : UInt8).toNat : Nat) : Int) = _
          rw [getD_u8 hlt']; rfl
      all_goals have hib : i = b.length := by omega
      all_goals have hbt : b.take i = b := by rw [hib, List.take_length]
      all_goals rw [hbt]
      · rename_i h1 h2
        exact ansI hS (by rw [hib]; exact sval_hi (by omega) hb)
      · exact ansI hS (sval_lo (.inr (by omega)))
      · exact ansI hS (sval_lo (.inl (by omega)))
  · exact hS.elim
noncomputable def S_impl_signed : Spec := fun args sub K => match args, sub with
  | [.v (.sl .u8 b)], [] => Hold (2 ≤ b.length ∧ b.length ≤ 7) ∧ K (.v (.int .i64 (sval b))) []
  | _, _ => False
theorem S_impl_signed_mono : Mono S_impl_signed := by
  intro args sub K K' hk h
  unfold S_impl_signed at h ⊢
  repeat' first | exact hk _ _ h | exact h.elim | exact ⟨fun hc => hk _ _ (h.1 hc), fun hc => hk _ _ (h.2 hc)⟩ | (refine ⟨h.1, ?_⟩; replace h := h.2) | (intro hc; replace h := h hc) | (refine And.imp ?_ ?_ h <;> clear h <;> intro h) | split at h
noncomputable abbrev E_impl_signed : Ent := ⟨nrm [[some .u8]] S_impl_signed, false⟩
theorem g_impl_signed : Good CA 64 E_impl_signed := by
  refine Good.nrm _ (fn_go (ex := 4) (l := [(20, E_impl_fromBig)]) (bor := []) CA_td CA_eq CA_mix ⟨g_impl_fromBig, trivial⟩ Try.func64 rfl (by simp [Try.f64]) S_impl_signed_mono fun args sub K hS hA hO => ?_)
  unfold S_impl_signed at hS
  split at hS
  · rename_i b
    refine ⟨by simp [Try.f64], fun E hx hnb => ?_⟩
    replace hx : Fx CA (hyOf [(20, E_impl_fromBig)] []) 0 17 E := hx
    obtain ⟨⟨hl⟩, hS⟩ := hS
    refine hx.next 400 rfl ?_
    conv => whnf
    repeat' first | exact SameX.refl _ | exact trivial | (refine And.intro ?_ ?_ <;> first | (intro hb <;> (try simp only [decide_eq_true_eq, decide_eq_false_iff_not, Bool.not_eq_true', Bool.not_eq_false', Bool.and_eq_true, Bool.or_eq_true, Bool.and_eq_false_iff, Bool.or_eq_false_iff, Bool.not_true, Bool.not_false, reduceCtorEq, Bool.true_and, Bool.and_true, Bool.false_and, Bool.and_false, ne_eq, not_or, not_true_eq_false, not_false_eq_true, false_or, or_false, true_and, and_true, false_and, and_false, Int.natCast_zero, Int.natCast_add, Int.natCast_one, List.length_nil, List.length_cons, List.length_take, List.length_drop, List.length_replicate, List.length_append, List.length_set, Nat.zero_add] at hb) <;> (try (exfalso; omega)) <;> (try conv => whnf)) | (conv => whnf) | skip) | (intro hb <;> (try simp only [decide_eq_true_eq, decide_eq_false_iff_not, Bool.not_eq_true', Bool.not_eq_false', Bool.and_eq_true, Bool.or_eq_true, Bool.and_eq_false_iff, Bool.or_eq_false_iff, Bool.not_true, Bool.not_false, reduceCtorEq, Bool.true_and, Bool.and_true, Bool.false_and, Bool.and_false, ne_eq, not_or, not_true_eq_false, not_false_eq_true, false_or, or_false, true_and, and_true, false_and, and_false, Int.natCast_zero, Int.natCast_add, Int.natCast_one, List.length_nil, List.length_cons, List.length_take, List.length_drop, List.length_replicate, List.length_append, List.length_set, Nat.zero_add] at hb) <;> (try (exfalso; omega)) <;> (try conv => whnf)) | (refine hx.draw 400 (by kernel_rfl) ?_ <;> conv => whnf) | (refine hx.next 400 rfl ?_ <;> conv => whnf)
    all_goals try first | exact ⟨by decide⟩ | exact hin (by omega) | exact ⟨by omega⟩ | exact ⟨⟨by omega, by omega⟩⟩ | exact ⟨by omega, by omega⟩ | (exfalso; omega)
    all_goals try (have hlt := beN_lt b; have hp := pow256_le (show b.length ≤ 7 by omega); have e := shl_pow (show b.length ≤ 7 by omega))
    · rw [e]; exact hin (by omega)
    · rw [e]
      exact ansI hS (sval_hi (by omega) (by assumption))
    · exact ansI hS (sval_lo (.inr (by omega)))
  · exact hS.elim
def toBE : Int → Nat → List UInt8
  | _, 0 => []
  | v, n + 1 => toBE (v / 256) n ++ [UInt8.ofNat (v % 256).toNat]
theorem toBE_length : ∀ (n : Nat) (v : Int), (toBE v n).length = n
  | 0, _ => rfl
  | n + 1, v => by simp [toBE, toBE_length n]
theorem toBE_cons : ∀ (n : Nat) (v : Int), toBE v (n + 1) = UInt8.ofNat (v / 256 ^ n % 256).toNat :: toBE v n
  | 0, v => by simp [toBE]
  | n + 1, v => by
    rw [toBE, toBE_cons n, toBE, List.cons_append]
    congr 3
    rw [Int.ediv_ediv_of_nonneg (by omega)]
    congr 1
    rw [Int.pow_succ, Int.mul_comm]
theorem set_rep {n j : Nat} (h : j < n) (x : UInt8) (l : List UInt8) : (List.replicate (n - j) (0 : UInt8) ++ l).set (n - 1 - j) x = List.replicate (n - (j + 1)) 0 ++ x :: l := by
  have : n - j = (n - (j + 1)) + 1 := by omega
  rw [this, List.replicate_succ', List.append_assoc, List.set_append, if_neg (by simp; omega)]
  simp only [List.length_replicate, show n - 1 - j - (n - (j + 1)) = 0 by omega]
  rfl
theorem div_in {v : Int} (h : -9223372036854775808 ≤ v ∧ v ≤ 9223372036854775807) (p : Int) (hp : 0 < p) : -9223372036854775808 ≤ v / p ∧ v / p ≤ 9223372036854775807 := by
  constructor
  · rw [Int.le_ediv_iff_mul_le hp]
    have : -9223372036854775808 * p ≤ -9223372036854775808 * 1 := Int.mul_le_mul_of_nonpos_left (by omega) (by omega)
    omega
  · rcases Int.lt_or_le v 0 with h0 | h0
    · have := Int.ediv_neg_of_neg_of_pos h0 hp; omega
    · have := Int.ediv_le_self p h0; omega
theorem tmod_eq (q : Int) : q.tmod 256 = if 0 ≤ q then q % 256 else -((-q) % 256) := by
  split
  · rw [Int.tmod_eq_emod_of_nonneg (by assumption)]
  · have := Int.neg_tmod (-q) 256
    rw [Int.neg_neg] at this
    rw [this, Int.tmod_eq_emod_of_nonneg (by omega)]
theorem tmod_mod (q : Int) : (q.tmod 256 < 0 → q.tmod 256 + 256 = q % 256) ∧ (¬ q.tmod 256 < 0 → q.tmod 256 = q % 256) := by
  rw [tmod_eq]; split <;> omega
theorem quo256 {q : Int} (h : -9223372036854775808 ≤ q ∧ q ≤ 9223372036854775807) : IntKind.i64.wrap ((q - q % 256).tdiv 256) = q / 256 := by
  have e : q - q % 256 = 256 * (q / 256) := by omega
  rw [e, Int.mul_tdiv_cancel_left _ (by omega)]
  exact wrap64 (by omega)
theorem wrap_u8 (q : Int) : IntKind.u8.wrap (q % 256) = q % 256 := wrap_in ⟨by simp only [lo]; omega, by simp only [Go.Proofs.Ytdpgdeaefmghiaa.Sx.hi]; omega⟩
noncomputable def S_spec_l17Num : Spec := fun args sub K => match args, sub with
  | [.v (.int .i64 v), .v (.int .i64 n)], [] => Hold (0 ≤ n ∧ n ≤ 8) ∧ K (.v (.sl .u8 (toBE v n.toNat))) []
  | _, _ => False
theorem S_spec_l17Num_mono : Mono S_spec_l17Num := by
  intro args sub K K' hk h
  unfold S_spec_l17Num at h ⊢
  repeat' first | exact hk _ _ h | exact h.elim | exact ⟨fun hc => hk _ _ (h.1 hc), fun hc => hk _ _ (h.2 hc)⟩ | (refine ⟨h.1, ?_⟩; replace h := h.2) | (intro hc; replace h := h hc) | (refine And.imp ?_ ?_ h <;> clear h <;> intro h) | split at h
noncomputable abbrev E_spec_l17Num : Ent := ⟨nrm [[none], [none]] S_spec_l17Num, false⟩
theorem g_spec_l17Num : Good CA 32 E_spec_l17Num := by
  refine Good.nrm _ (fn_go (ex := 4) (l := []) (bor := []) CA_td CA_eq CA_mix trivial Try.func32 rfl (by simp [Try.f32]) S_spec_l17Num_mono fun args sub K hS hA hO => ?_)
  unfold S_spec_l17Num at hS
  split at hS
  · rename_i v n
    refine ⟨by simp [Try.f32], fun E hx hnb => ?_⟩
    replace hx : Fx CA (hyOf [] []) 0 32 E := hx
    obtain ⟨⟨hl⟩, hS⟩ := hS
    have hv := hin' (hA (.v (.int .i64 v)) (by simp) : inR .i64 v) rfl
    have hbig : n * ((Ty.u8.bytes : Nat) : Int) ≤ ((big : Nat) : Int) := by show n * 1 ≤ _; unfold big; omega
    refine hx.next 400 rfl ?_
    conv => whnf
    repeat' first | exact SameX.refl _ | exact trivial | (refine And.intro ?_ ?_ <;> first | (intro hb <;> (try simp only [decide_eq_true_eq, decide_eq_false_iff_not, Bool.not_eq_true', Bool.not_eq_false', Bool.and_eq_true, Bool.or_eq_true, Bool.and_eq_false_iff, Bool.or_eq_false_iff, Bool.not_true, Bool.not_false, reduceCtorEq, Bool.true_and, Bool.and_true, Bool.false_and, Bool.and_false, ne_eq, not_or, not_true_eq_false, not_false_eq_true, false_or, or_false, true_and, and_true, false_and, and_false, Int.natCast_zero, Int.natCast_add, Int.natCast_one, List.length_nil, List.length_cons, List.length_take, List.length_drop, List.length_replicate, List.length_append, List.length_set, Nat.zero_add] at hb) <;> (try (exfalso; omega)) <;> (try conv => whnf)) | (conv => whnf) | skip) | (intro hb <;> (try simp only [decide_eq_true_eq, decide_eq_false_iff_not, Bool.not_eq_true', Bool.not_eq_false', Bool.and_eq_true, Bool.or_eq_true, Bool.and_eq_false_iff, Bool.or_eq_false_iff, Bool.not_true, Bool.not_false, reduceCtorEq, Bool.true_and, Bool.and_true, Bool.false_and, Bool.and_false, ne_eq, not_or, not_true_eq_false, not_false_eq_true, false_or, or_false, true_and, and_true, false_and, and_false, Int.natCast_zero, Int.natCast_add, Int.natCast_one, List.length_nil, List.length_cons, List.length_take, List.length_drop, List.length_replicate, List.length_append, List.length_set, Nat.zero_add] at hb) <;> (try (exfalso; omega)) <;> (try conv => whnf)) | (refine hx.draw 400 (by kernel_rfl) ?_ <;> conv => whnf) | (refine hx.next 400 rfl ?_ <;> conv => whnf)
    all_goals try first | exact ⟨by decide⟩ | exact hin (by omega) | exact ⟨by omega⟩ | exact ⟨⟨by omega, by omega⟩⟩ | exact ⟨by omega, by omega⟩ | (exfalso; omega)
    refine Safe.loopUP (Y := Nat) (fun j => [(0, N64 (v / 256 ^ j)), (6, N64 (n - 1 - (j : Int))), (7, .v .any), (12, .v .any), (13, .v .any), (14, .v .any), (15, .v .any), (16, .v .any), (17, .v .any), (18, .v .any), (19, .v .any), (20, .v .any), (21, .v .any), (22, .v .any), (23, .v .any), (24, .v .any), (25, .v .any), (26, .v .any), (27, .v .any), (28, .v .any), (29, .v .any), (30, .v .any)]) (fun j => [(0, none), (6, none), (7, none), (9, some (.row eU8 .u8 (List.replicate (n.toNat - j) 0 ++ toBE v j))), (12, none), (13, none), (14, none), (15, none), (16, none), (17, none), (18, none), (19, none), (20, none), (21, none), (22, none), (23, none), (24, none), (25, none), (26, none), (27, none), (28, none), (29, none), (30, none)]) (fun j => j ≤ n.toNat) (fun j => n.toNat - j) (0) ?_ (StLe.upd ?_) fun j hP => ?_
    · first | trivial | ((try dsimp only); first | trivial | omega | ((repeat' apply And.intro) <;> omega) | (simp; done))
    · conv => whnf
      repeat' first | exact trivial | exact .refl _ | exact .nilsl _ | exact .tt _ rfl | exact .ff _ rfl | exact .tb _ rfl | exact .fb _ rfl | exact .row _ _ _ _ rfl | (refine And.intro ?_ ?_ <;> try conv => whnf)
      all_goals try first | exact sameI (by omega) | exact sameI rfl | (refine sameI ?_; simp only [List.length_append, List.length_cons, List.length_nil]; omega)
      · refine sameRow ?_
        show List.replicate n.toNat (0 : UInt8) = List.replicate n.toNat (0 : UInt8) ++ []
        rw [List.append_nil]
    · try dsimp only at hP
      have hq := div_in hv (256 ^ j) (by exact_mod_cast Nat.pow_pos (by omega))
      have hlen := toBE_length j v
      have hll : (List.replicate (n.toNat - j) (0 : UInt8) ++ toBE v j).length = n.toNat := by rw [List.length_append, List.length_replicate, hlen]; omega
      refine hx.next 400 rfl ?_
      conv => whnf
      repeat' first | exact SameX.refl _ | exact trivial | (refine And.intro ?_ ?_ <;> first | (intro hb <;> (try simp only [decide_eq_true_eq, decide_eq_false_iff_not, Bool.not_eq_true', Bool.not_eq_false', Bool.and_eq_true, Bool.or_eq_true, Bool.and_eq_false_iff, Bool.or_eq_false_iff, Bool.not_true, Bool.not_false, reduceCtorEq, Bool.true_and, Bool.and_true, Bool.false_and, Bool.and_false, ne_eq, not_or, not_true_eq_false, not_false_eq_true, false_or, or_false, true_and, and_true, false_and, and_false, Int.natCast_zero, Int.natCast_add, Int.natCast_one, List.length_nil, List.length_cons, List.length_take, List.length_drop, List.length_replicate, List.length_append, List.length_set, Nat.zero_add] at hb) <;> (try (exfalso; omega)) <;> (try conv => whnf)) | (conv => whnf) | skip) | (intro hb <;> (try simp only [decide_eq_true_eq, decide_eq_false_iff_not, Bool.not_eq_true', Bool.not_eq_false', Bool.and_eq_true, Bool.or_eq_true, Bool.and_eq_false_iff, Bool.or_eq_false_iff, Bool.not_true, Bool.not_false, reduceCtorEq, Bool.true_and, Bool.and_true, Bool.false_and, Bool.and_false, ne_eq, not_or, not_true_eq_false, not_false_eq_true, false_or, or_false, true_and, and_true, false_and, and_false, Int.natCast_zero, Int.natCast_add, Int.natCast_one, List.length_nil, List.length_cons, List.length_take, List.length_drop, List.length_replicate, List.length_append, List.length_set, Nat.zero_add] at hb) <;> (try (exfalso; omega)) <;> (try conv => whnf)) | (refine hx.draw 400 (by kernel_rfl) ?_ <;> conv => whnf) | (refine hx.next 400 rfl ?_ <;> conv => whnf)
      all_goals try first | exact ⟨by decide⟩ | exact hin (by omega) | exact ⟨by omega⟩ | exact ⟨⟨by omega, by omega⟩⟩ | exact ⟨by omega, by omega⟩ | (exfalso; omega)
      all_goals try (have hm := tmod_mod (v / 256 ^ j))
      all_goals try (exact ⟨by rw [hll]; omega⟩)
      all_goals try first | exact ⟨by decide⟩ | exact hin (by omega) | exact ⟨by omega⟩ | exact ⟨⟨by omega, by omega⟩⟩ | exact ⟨by omega, by omega⟩ | (exfalso; omega)
      · rw [hm.1 hb]
        refine ⟨j + 1, by ((try dsimp only); first | trivial | omega | ((repeat' apply And.intro) <;> omega)), by first | omega | ((try dsimp only); (try simp only [List.length_append, List.length_cons, List.length_nil]); omega), StLe.upd ?_⟩
        conv => whnf
        repeat' first | exact trivial | exact .refl _ | exact .nilsl _ | exact .tt _ rfl | exact .ff _ rfl | exact .tb _ rfl | exact .fb _ rfl | exact .row _ _ _ _ rfl | (refine And.intro ?_ ?_ <;> try conv => whnf)
        all_goals try first | exact sameI (by omega) | exact sameI rfl | (refine sameI ?_; simp only [List.length_append, List.length_cons, List.length_nil]; omega)
        · refine sameI ?_
          rw [quo256 hq, Int.pow_succ, Int.ediv_ediv_of_nonneg (by exact_mod_cast Nat.zero_le _)]
        · refine sameRow ?_
          rw [toBE_cons]
          have e1 : 0 + (n - 1 - (j : Int)).toNat = n.toNat - 1 - j := by omega
          rw [e1, set_rep (by omega), wrap_u8]
      · rw [hm.2 hb]
        refine ⟨j + 1, by ((try dsimp only); first | trivial | omega | ((repeat' apply And.intro) <;> omega)), by first | omega | ((try dsimp only); (try simp only [List.length_append, List.length_cons, List.length_nil]); omega), StLe.upd ?_⟩
        conv => whnf
        repeat' first | exact trivial | exact .refl _ | exact .nilsl _ | exact .tt _ rfl | exact .ff _ rfl | exact .tb _ rfl | exact .fb _ rfl | exact .row _ _ _ _ rfl | (refine And.intro ?_ ?_ <;> try conv => whnf)
        all_goals try first | exact sameI (by omega) | exact sameI rfl | (refine sameI ?_; simp only [List.length_append, List.length_cons, List.length_nil]; omega)
        · refine sameI ?_
          rw [quo256 hq, Int.pow_succ, Int.ediv_ediv_of_nonneg (by exact_mod_cast Nat.zero_le _)]
        · refine sameRow ?_
          rw [toBE_cons]
          have e1 : 0 + (n - 1 - (j : Int)).toNat = n.toNat - 1 - j := by omega
          rw [e1, set_rep (by omega), wrap_u8]
      · have : j = n.toNat := by omega
        subst this
        rw [Nat.sub_self] at *
        exact hS
  · exact hS.elim
end Go.Proofs.Ytdpgdeaefmghiaa.Sx

/- Printed by gen2.py: contracts of functions. -/
namespace Go.Proofs.Ytdpgdeaefmghiaa.Sx
open Go.Proofs
set_option maxRecDepth 20000
set_option maxHeartbeats 4000000
set_option linter.unusedSimpArgs false
set_option linter.unusedVariables false
def AB (l : List DevArg) : Prop := ∀ a ∈ l, -1000000000000 ≤ a.n ∧ a.n ≤ 1000000000000
theorem devSize_bd (n : Int) : 0 ≤ devSize n ∧ devSize n ≤ 64 := by unfold devSize; (repeat' split) <;> omega
noncomputable def S_p_spec_l26Rd_num : Spec := fun args sub K => match args, sub with
  | [.v (.ptr 0 0), .v (.sl .i64 xs)], [some (.box [.sl .u8 b, .int .i64 p])] => Hold (0 ≤ p ∧ p + 1 ≤ 1000000000 ∧ b.length ≤ 2000) ∧ Hold (1 ≤ xs.length ∧ ∀ x ∈ xs, -1000000000000 ≤ x ∧ x ≤ 1000000000000) ∧ ∀ v : Int, (v ∈ xs ∧ -1000000000000 ≤ v ∧ v ≤ 1000000000000) → K (.v (.int .i64 v)) [some (.box [.sl .u8 b, .int .i64 (p + 1)])]
  | _, _ => False
theorem S_p_spec_l26Rd_num_mono : Mono S_p_spec_l26Rd_num := by
  intro args sub K K' hk h
  unfold S_p_spec_l26Rd_num at h ⊢
  repeat' first | exact hk _ _ h | exact h.elim | exact ⟨fun hc => hk _ _ (h.1 hc), fun hc => hk _ _ (h.2 hc)⟩ | (refine ⟨h.1, ?_⟩; replace h := h.2) | (intro hc; replace h := h hc) | (refine And.imp ?_ ?_ h <;> clear h <;> intro h) | split at h
noncomputable abbrev E_p_spec_l26Rd_num : Ent := ⟨nrm [[none], [some .i64]] S_p_spec_l26Rd_num, false⟩
theorem g_p_spec_l26Rd_num : Good CA 67 E_p_spec_l26Rd_num := by
  refine Good.nrm _ (fn_go (ex := 4) (l := [(14, E_p_spec_l26Rd_pick)]) (bor := []) CA_td CA_eq CA_mix ⟨g_p_spec_l26Rd_pick, trivial⟩ Try.func67 rfl (by simp [Try.f67]) S_p_spec_l26Rd_num_mono fun args sub K hS hA hO => ?_)
  unfold S_p_spec_l26Rd_num at hS
  split at hS
  · rename_i xs b p
    refine ⟨by simp [Try.f67], fun E hx hnb => ?_⟩
    replace hx : Fx CA (hyOf [(14, E_p_spec_l26Rd_pick)] []) 1 13 E := hx
    obtain ⟨⟨hp⟩, ⟨h1, h2⟩, hS⟩ := hS
    refine hx.next 400 rfl ?_
    conv => whnf
    repeat' first | exact SameX.refl _ | exact trivial | (refine And.intro ?_ ?_ <;> first | (intro hb <;> (try simp only [decide_eq_true_eq, decide_eq_false_iff_not, Bool.not_eq_true', Bool.not_eq_false', Bool.and_eq_true, Bool.or_eq_true, Bool.and_eq_false_iff, Bool.or_eq_false_iff, Bool.not_true, Bool.not_false, reduceCtorEq, Bool.true_and, Bool.and_true, Bool.false_and, Bool.and_false, ne_eq, not_or, not_true_eq_false, not_false_eq_true, false_or, or_false, true_and, and_true, false_and, and_false, Int.natCast_zero, Int.natCast_add, Int.natCast_one, List.length_nil, List.length_cons, List.length_take, List.length_drop, List.length_replicate, List.length_append, List.length_set, Nat.zero_add] at hb) <;> (try (exfalso; omega)) <;> (try conv => whnf)) | (conv => whnf) | skip) | (intro hb <;> (try simp only [decide_eq_true_eq, decide_eq_false_iff_not, Bool.not_eq_true', Bool.not_eq_false', Bool.and_eq_true, Bool.or_eq_true, Bool.and_eq_false_iff, Bool.or_eq_false_iff, Bool.not_true, Bool.not_false, reduceCtorEq, Bool.true_and, Bool.and_true, Bool.false_and, Bool.and_false, ne_eq, not_or, not_true_eq_false, not_false_eq_true, false_or, or_false, true_and, and_true, false_and, and_false, Int.natCast_zero, Int.natCast_add, Int.natCast_one, List.length_nil, List.length_cons, List.length_take, List.length_drop, List.length_replicate, List.length_append, List.length_set, Nat.zero_add] at hb) <;> (try (exfalso; omega)) <;> (try conv => whnf)) | (refine hx.draw 400 (by kernel_rfl) ?_ <;> conv => whnf) | (refine hx.next 400 rfl ?_ <;> conv => whnf)
    all_goals try first | exact ⟨by decide⟩ | exact hin (by omega) | exact ⟨by omega⟩ | exact ⟨⟨by omega, by omega⟩⟩ | exact ⟨by omega, by omega⟩ | (exfalso; omega)
    have hm : ∀ v : Int, v.toNat < xs.length → xs.getD v.toNat Ty.i64.dflt ∈ xs := fun v hv => by
      rw [List.getD_eq_getElem?_getD, List.getElem?_eq_getElem hv]
      exact List.getElem_mem _
    exact hS _ ⟨hm _ (by omega), h2 _ (hm _ (by omega))⟩
  · exact hS.elim
noncomputable def S_spec_l2Arg : Spec := fun args sub K => match args, sub with
  | [.v (.ptr 0 0), .v (.int .i64 kd)], [some (.box [.sl .u8 b, .int .i64 p])] => Hold (0 ≤ p ∧ p + 10 ≤ 1000000000 ∧ b.length ≤ 2000) ∧ ∀ k n q p' : Int, (p ≤ p' ∧ p' ≤ p + 10 ∧ -1000000000000 ≤ n ∧ n ≤ 1000000000000) → K (.agg [.int .i64 k, .int .i64 n, .int .i64 q]) [some (.box [.sl .u8 b, .int .i64 p'])]
  | _, _ => False
theorem S_spec_l2Arg_mono : Mono S_spec_l2Arg := by
  intro args sub K K' hk h
  unfold S_spec_l2Arg at h ⊢
  repeat' first | exact hk _ _ h | exact h.elim | exact ⟨fun hc => hk _ _ (h.1 hc), fun hc => hk _ _ (h.2 hc)⟩ | (refine ⟨h.1, ?_⟩; replace h := h.2) | (intro hc; replace h := h hc) | (refine And.imp ?_ ?_ h <;> clear h <;> intro h) | split at h
noncomputable abbrev E_spec_l2Arg : Ent := ⟨nrm [[none], [none]] S_spec_l2Arg, false⟩
theorem g_spec_l2Arg : Good CA 76 E_spec_l2Arg := by
  refine Good.nrm _ (fn_go (ex := 4) (l := [(14, E_p_spec_l26Rd_pick), (67, E_p_spec_l26Rd_num), (79, E_spec_DevSize)]) (bor := []) CA_td CA_eq CA_mix ⟨g_p_spec_l26Rd_pick, g_p_spec_l26Rd_num, g_spec_DevSize, trivial⟩ Try.func76 rfl (by simp [Try.f76]) S_spec_l2Arg_mono fun args sub K hS hA hO => ?_)
  unfold S_spec_l2Arg at hS
  split at hS
  · rename_i kd b p
    refine ⟨by simp [Try.f76], fun E hx hnb => ?_⟩
    replace hx : Fx CA (hyOf [(14, E_p_spec_l26Rd_pick), (67, E_p_spec_l26Rd_num), (79, E_spec_DevSize)] []) 1 54 E := hx
    obtain ⟨⟨hp⟩, hS⟩ := hS
    refine hx.next 400 rfl ?_
    conv => whnf
    repeat' first | exact SameX.refl _ | exact trivial | (refine And.intro ?_ ?_ <;> first | (intro hb <;> (try simp only [decide_eq_true_eq, decide_eq_false_iff_not, Bool.not_eq_true', Bool.not_eq_false', Bool.and_eq_true, Bool.or_eq_true, Bool.and_eq_false_iff, Bool.or_eq_false_iff, Bool.not_true, Bool.not_false, reduceCtorEq, Bool.true_and, Bool.and_true, Bool.false_and, Bool.and_false, ne_eq, not_or, not_true_eq_false, not_false_eq_true, false_or, or_false, true_and, and_true, false_and, and_false, Int.natCast_zero, Int.natCast_add, Int.natCast_one, List.length_nil, List.length_cons, List.length_take, List.length_drop, List.length_replicate, List.length_append, List.length_set, Nat.zero_add] at hb) <;> (try (exfalso; omega)) <;> (try conv => whnf)) | (conv => whnf) | skip) | (intro hb <;> (try simp only [decide_eq_true_eq, decide_eq_false_iff_not, Bool.not_eq_true', Bool.not_eq_false', Bool.and_eq_true, Bool.or_eq_true, Bool.and_eq_false_iff, Bool.or_eq_false_iff, Bool.not_true, Bool.not_false, reduceCtorEq, Bool.true_and, Bool.and_true, Bool.false_and, Bool.and_false, ne_eq, not_or, not_true_eq_false, not_false_eq_true, false_or, or_false, true_and, and_true, false_and, and_false, Int.natCast_zero, Int.natCast_add, Int.natCast_one, List.length_nil, List.length_cons, List.length_take, List.length_drop, List.length_replicate, List.length_append, List.length_set, Nat.zero_add] at hb) <;> (try (exfalso; omega)) <;> (try conv => whnf)) | (refine hx.draw 400 (by kernel_rfl) ?_ <;> conv => whnf) | (refine hx.next 400 rfl ?_ <;> conv => whnf)
    all_goals try first | exact ⟨by decide⟩ | exact hin (by omega) | exact ⟨by omega⟩ | exact ⟨⟨by omega, by omega⟩⟩ | exact ⟨by omega, by omega⟩ | (exfalso; omega)
    all_goals (have hds := devSize_bd kd)
    all_goals exact hS _ _ _ _ (by omega)
  · exact hS.elim
noncomputable def S_spec_l2Spoilt : Spec := fun args sub K => match args, sub with
  | [.v (.ptr 0 0), .agg [.int .i64 k, .int .i64 n, .int .i64 q]], [some (.box [.sl .u8 b, .int .i64 p])] => Hold (0 ≤ p ∧ p + 10 ≤ 1000000000 ∧ b.length ≤ 2000 ∧ -1000000000000 ≤ n ∧ n ≤ 1000000000000) ∧ ∀ k n q p' : Int, (p ≤ p' ∧ p' ≤ p + 10 ∧ -1000000000000 ≤ n ∧ n ≤ 1000000000000) → K (.agg [.int .i64 k, .int .i64 n, .int .i64 q]) [some (.box [.sl .u8 b, .int .i64 p'])]
  | _, _ => False
theorem S_spec_l2Spoilt_mono : Mono S_spec_l2Spoilt := by
  intro args sub K K' hk h
  unfold S_spec_l2Spoilt at h ⊢
  repeat' first | exact hk _ _ h | exact h.elim | exact ⟨fun hc => hk _ _ (h.1 hc), fun hc => hk _ _ (h.2 hc)⟩ | (refine ⟨h.1, ?_⟩; replace h := h.2) | (intro hc; replace h := h hc) | (refine And.imp ?_ ?_ h <;> clear h <;> intro h) | split at h
noncomputable abbrev E_spec_l2Spoilt : Ent := ⟨nrm [[none], [none, none, none]] S_spec_l2Spoilt, false⟩
theorem g_spec_l2Spoilt : Good CA 71 E_spec_l2Spoilt := by
  refine Good.nrm _ (fn_go (ex := 4) (l := [(14, E_p_spec_l26Rd_pick), (67, E_p_spec_l26Rd_num), (79, E_spec_DevSize)]) (bor := []) CA_td CA_eq CA_mix ⟨g_p_spec_l26Rd_pick, g_p_spec_l26Rd_num, g_spec_DevSize, trivial⟩ Try.func71 rfl (by simp [Try.f71]) S_spec_l2Spoilt_mono fun args sub K hS hA hO => ?_)
  unfold S_spec_l2Spoilt at hS
  split at hS
  · rename_i k n q b p
    refine ⟨by simp [Try.f71], fun E hx hnb => ?_⟩
    replace hx : Fx CA (hyOf [(14, E_p_spec_l26Rd_pick), (67, E_p_spec_l26Rd_num), (79, E_spec_DevSize)] []) 1 44 E := hx
    obtain ⟨⟨hp⟩, hS⟩ := hS
    have hds := devSize_bd k
    refine hx.next 400 rfl ?_
    conv => whnf
    repeat' first | exact SameX.refl _ | exact trivial | (refine And.intro ?_ ?_ <;> first | (intro hb <;> (try simp only [decide_eq_true_eq, decide_eq_false_iff_not, Bool.not_eq_true', Bool.not_eq_false', Bool.and_eq_true, Bool.or_eq_true, Bool.and_eq_false_iff, Bool.or_eq_false_iff, Bool.not_true, Bool.not_false, reduceCtorEq, Bool.true_and, Bool.and_true, Bool.false_and, Bool.and_false, ne_eq, not_or, not_true_eq_false, not_false_eq_true, false_or, or_false, true_and, and_true, false_and, and_false, Int.natCast_zero, Int.natCast_add, Int.natCast_one, List.length_nil, List.length_cons, List.length_take, List.length_drop, List.length_replicate, List.length_append, List.length_set, Nat.zero_add] at hb) <;> (try (exfalso; omega)) <;> (try conv => whnf)) | (conv => whnf) | skip) | (intro hb <;> (try simp only [decide_eq_true_eq, decide_eq_false_iff_not, Bool.not_eq_true', Bool.not_eq_false', Bool.and_eq_true, Bool.or_eq_true, Bool.and_eq_false_iff, Bool.or_eq_false_iff, Bool.not_true, Bool.not_false, reduceCtorEq, Bool.true_and, Bool.and_true, Bool.false_and, Bool.and_false, ne_eq, not_or, not_true_eq_false, not_false_eq_true, false_or, or_false, true_and, and_true, false_and, and_false, Int.natCast_zero, Int.natCast_add, Int.natCast_one, List.length_nil, List.length_cons, List.length_take, List.length_drop, List.length_replicate, List.length_append, List.length_set, Nat.zero_add] at hb) <;> (try (exfalso; omega)) <;> (try conv => whnf)) | (refine hx.draw 400 (by kernel_rfl) ?_ <;> conv => whnf) | (refine hx.next 400 rfl ?_ <;> conv => whnf)
    all_goals try first | exact ⟨by decide⟩ | exact hin (by omega) | exact ⟨by omega⟩ | exact ⟨⟨by omega, by omega⟩⟩ | exact ⟨by omega, by omega⟩ | (exfalso; omega)
    all_goals exact hS _ _ _ _ (by omega)
  · exact hS.elim
noncomputable def S_spec_l2Any : Spec := fun args sub K => match args, sub with
  | [.v (.ptr 0 0)], [some (.box [.sl .u8 b, .int .i64 p])] => Hold (0 ≤ p ∧ p + 40 ≤ 1000000000 ∧ b.length ≤ 2000) ∧ ∀ k n q p' : Int, (p ≤ p' ∧ p' ≤ p + 40 ∧ -1000000000000 ≤ n ∧ n ≤ 1000000000000) → K (.agg [.int .i64 k, .int .i64 n, .int .i64 q]) [some (.box [.sl .u8 b, .int .i64 p'])]
  | _, _ => False
theorem S_spec_l2Any_mono : Mono S_spec_l2Any := by
  intro args sub K K' hk h
  unfold S_spec_l2Any at h ⊢
  repeat' first | exact hk _ _ h | exact h.elim | exact ⟨fun hc => hk _ _ (h.1 hc), fun hc => hk _ _ (h.2 hc)⟩ | (refine ⟨h.1, ?_⟩; replace h := h.2) | (intro hc; replace h := h hc) | (refine And.imp ?_ ?_ h <;> clear h <;> intro h) | split at h
noncomputable abbrev E_spec_l2Any : Ent := ⟨nrm [[none]] S_spec_l2Any, false⟩
theorem g_spec_l2Any : Good CA 70 E_spec_l2Any := by
  refine Good.nrm _ (fn_go (ex := 4) (l := [(14, E_p_spec_l26Rd_pick), (71, E_spec_l2Spoilt), (76, E_spec_l2Arg)]) (bor := []) CA_td CA_eq CA_mix ⟨g_p_spec_l26Rd_pick, g_spec_l2Spoilt, g_spec_l2Arg, trivial⟩ Try.func70 rfl (by simp [Try.f70]) S_spec_l2Any_mono fun args sub K hS hA hO => ?_)
  unfold S_spec_l2Any at hS
  split at hS
  · rename_i b p
    refine ⟨by simp [Try.f70], fun E hx hnb => ?_⟩
    replace hx : Fx CA (hyOf [(14, E_p_spec_l26Rd_pick), (71, E_spec_l2Spoilt), (76, E_spec_l2Arg)] []) 1 17 E := hx
    obtain ⟨⟨hp⟩, hS⟩ := hS
    refine hx.next 400 rfl ?_
    conv => whnf
    repeat' first | exact SameX.refl _ | exact trivial | (refine And.intro ?_ ?_ <;> first | (intro hb <;> (try simp only [decide_eq_true_eq, decide_eq_false_iff_not, Bool.not_eq_true', Bool.not_eq_false', Bool.and_eq_true, Bool.or_eq_true, Bool.and_eq_false_iff, Bool.or_eq_false_iff, Bool.not_true, Bool.not_false, reduceCtorEq, Bool.true_and, Bool.and_true, Bool.false_and, Bool.and_false, ne_eq, not_or, not_true_eq_false, not_false_eq_true, false_or, or_false, true_and, and_true, false_and, and_false, Int.natCast_zero, Int.natCast_add, Int.natCast_one, List.length_nil, List.length_cons, List.length_take, List.length_drop, List.length_replicate, List.length_append, List.length_set, Nat.zero_add] at hb) <;> (try (exfalso; omega)) <;> (try conv => whnf)) | (conv => whnf) | skip) | (intro hb <;> (try simp only [decide_eq_true_eq, decide_eq_false_iff_not, Bool.not_eq_true', Bool.not_eq_false', Bool.and_eq_true, Bool.or_eq_true, Bool.and_eq_false_iff, Bool.or_eq_false_iff, Bool.not_true, Bool.not_false, reduceCtorEq, Bool.true_and, Bool.and_true, Bool.false_and, Bool.and_false, ne_eq, not_or, not_true_eq_false, not_false_eq_true, false_or, or_false, true_and, and_true, false_and, and_false, Int.natCast_zero, Int.natCast_add, Int.natCast_one, List.length_nil, List.length_cons, List.length_take, List.length_drop, List.length_replicate, List.length_append, List.length_set, Nat.zero_add] at hb) <;> (try (exfalso; omega)) <;> (try conv => whnf)) | (refine hx.draw 400 (by kernel_rfl) ?_ <;> conv => whnf) | (refine hx.next 400 rfl ?_ <;> conv => whnf)
    all_goals try first | exact ⟨by decide⟩ | exact hin (by omega) | exact ⟨by omega⟩ | exact ⟨⟨by omega, by omega⟩⟩ | exact ⟨by omega, by omega⟩ | (exfalso; omega)
    all_goals exact hS _ _ _ _ (by omega)
  · exact hS.elim
noncomputable def S_spec_l4Bit : Spec := fun args sub K => match args, sub with
  | [.v (.ptr 0 0)], [some (.box [.sl .u8 b, .int .i64 p])] => Hold (0 ≤ p ∧ p + 20 ≤ 1000000000 ∧ b.length ≤ 2000) ∧ ∀ k n q p' : Int, (p ≤ p' ∧ p' ≤ p + 20 ∧ -1000000000000 ≤ n ∧ n ≤ 1000000000000) → K (.agg [.int .i64 k, .int .i64 n, .int .i64 q]) [some (.box [.sl .u8 b, .int .i64 p'])]
  | _, _ => False
theorem S_spec_l4Bit_mono : Mono S_spec_l4Bit := by
  intro args sub K K' hk h
  unfold S_spec_l4Bit at h ⊢
  repeat' first | exact hk _ _ h | exact h.elim | exact ⟨fun hc => hk _ _ (h.1 hc), fun hc => hk _ _ (h.2 hc)⟩ | (refine ⟨h.1, ?_⟩; replace h := h.2) | (intro hc; replace h := h hc) | (refine And.imp ?_ ?_ h <;> clear h <;> intro h) | split at h
noncomputable abbrev E_spec_l4Bit : Ent := ⟨nrm [[none]] S_spec_l4Bit, false⟩
theorem g_spec_l4Bit : Good CA 75 E_spec_l4Bit := by
  refine Good.nrm _ (fn_go (ex := 4) (l := [(67, E_p_spec_l26Rd_num), (76, E_spec_l2Arg)]) (bor := []) CA_td CA_eq CA_mix ⟨g_p_spec_l26Rd_num, g_spec_l2Arg, trivial⟩ Try.func75 rfl (by simp [Try.f75]) S_spec_l4Bit_mono fun args sub K hS hA hO => ?_)
  unfold S_spec_l4Bit at hS
  split at hS
  · rename_i b p
    refine ⟨by simp [Try.f75], fun E hx hnb => ?_⟩
    replace hx : Fx CA (hyOf [(67, E_p_spec_l26Rd_num), (76, E_spec_l2Arg)] []) 1 9 E := hx
    obtain ⟨⟨hp⟩, hS⟩ := hS
    refine hx.next 400 rfl ?_
    conv => whnf
    repeat' first | exact SameX.refl _ | exact trivial | (refine And.intro ?_ ?_ <;> first | (intro hb <;> (try simp only [decide_eq_true_eq, decide_eq_false_iff_not, Bool.not_eq_true', Bool.not_eq_false', Bool.and_eq_true, Bool.or_eq_true, Bool.and_eq_false_iff, Bool.or_eq_false_iff, Bool.not_true, Bool.not_false, reduceCtorEq, Bool.true_and, Bool.and_true, Bool.false_and, Bool.and_false, ne_eq, not_or, not_true_eq_false, not_false_eq_true, false_or, or_false, true_and, and_true, false_and, and_false, Int.natCast_zero, Int.natCast_add, Int.natCast_one, List.length_nil, List.length_cons, List.length_take, List.length_drop, List.length_replicate, List.length_append, List.length_set, Nat.zero_add] at hb) <;> (try (exfalso; omega)) <;> (try conv => whnf)) | (conv => whnf) | skip) | (intro hb <;> (try simp only [decide_eq_true_eq, decide_eq_false_iff_not, Bool.not_eq_true', Bool.not_eq_false', Bool.and_eq_true, Bool.or_eq_true, Bool.and_eq_false_iff, Bool.or_eq_false_iff, Bool.not_true, Bool.not_false, reduceCtorEq, Bool.true_and, Bool.and_true, Bool.false_and, Bool.and_false, ne_eq, not_or, not_true_eq_false, not_false_eq_true, false_or, or_false, true_and, and_true, false_and, and_false, Int.natCast_zero, Int.natCast_add, Int.natCast_one, List.length_nil, List.length_cons, List.length_take, List.length_drop, List.length_replicate, List.length_append, List.length_set, Nat.zero_add] at hb) <;> (try (exfalso; omega)) <;> (try conv => whnf)) | (refine hx.draw 400 (by kernel_rfl) ?_ <;> conv => whnf) | (refine hx.next 400 rfl ?_ <;> conv => whnf)
    all_goals try first | exact ⟨by decide⟩ | exact hin (by omega) | exact ⟨by omega⟩ | exact ⟨⟨by omega, by omega⟩⟩ | exact ⟨by omega, by omega⟩ | (exfalso; omega)
    all_goals exact hS _ _ _ _ (by omega)
  · exact hS.elim
noncomputable def S_spec_l4Whole : Spec := fun args sub K => match args, sub with
  | [.v (.ptr 0 0)], [some (.box [.sl .u8 b, .int .i64 p])] => Hold (0 ≤ p ∧ p + 20 ≤ 1000000000 ∧ b.length ≤ 2000) ∧ ∀ k n q p' : Int, (p ≤ p' ∧ p' ≤ p + 20 ∧ -1000000000000 ≤ n ∧ n ≤ 1000000000000) → K (.agg [.int .i64 k, .int .i64 n, .int .i64 q]) [some (.box [.sl .u8 b, .int .i64 p'])]
  | _, _ => False
theorem S_spec_l4Whole_mono : Mono S_spec_l4Whole := by
  intro args sub K K' hk h
  unfold S_spec_l4Whole at h ⊢
  repeat' first | exact hk _ _ h | exact h.elim | exact ⟨fun hc => hk _ _ (h.1 hc), fun hc => hk _ _ (h.2 hc)⟩ | (refine ⟨h.1, ?_⟩; replace h := h.2) | (intro hc; replace h := h hc) | (refine And.imp ?_ ?_ h <;> clear h <;> intro h) | split at h
noncomputable abbrev E_spec_l4Whole : Ent := ⟨nrm [[none]] S_spec_l4Whole, false⟩
theorem g_spec_l4Whole : Good CA 77 E_spec_l4Whole := by
  refine Good.nrm _ (fn_go (ex := 4) (l := [(67, E_p_spec_l26Rd_num), (76, E_spec_l2Arg)]) (bor := []) CA_td CA_eq CA_mix ⟨g_p_spec_l26Rd_num, g_spec_l2Arg, trivial⟩ Try.func77 rfl (by simp [Try.f77]) S_spec_l4Whole_mono fun args sub K hS hA hO => ?_)
  unfold S_spec_l4Whole at hS
  split at hS
  · rename_i b p
    refine ⟨by simp [Try.f77], fun E hx hnb => ?_⟩
    replace hx : Fx CA (hyOf [(67, E_p_spec_l26Rd_num), (76, E_spec_l2Arg)] []) 1 9 E := hx
    obtain ⟨⟨hp⟩, hS⟩ := hS
    refine hx.next 400 rfl ?_
    conv => whnf
    repeat' first | exact SameX.refl _ | exact trivial | (refine And.intro ?_ ?_ <;> first | (intro hb <;> (try simp only [decide_eq_true_eq, decide_eq_false_iff_not, Bool.not_eq_true', Bool.not_eq_false', Bool.and_eq_true, Bool.or_eq_true, Bool.and_eq_false_iff, Bool.or_eq_false_iff, Bool.not_true, Bool.not_false, reduceCtorEq, Bool.true_and, Bool.and_true, Bool.false_and, Bool.and_false, ne_eq, not_or, not_true_eq_false, not_false_eq_true, false_or, or_false, true_and, and_true, false_and, and_false, Int.natCast_zero, Int.natCast_add, Int.natCast_one, List.length_nil, List.length_cons, List.length_take, List.length_drop, List.length_replicate, List.length_append, List.length_set, Nat.zero_add] at hb) <;> (try (exfalso; omega)) <;> (try conv => whnf)) | (conv => whnf) | skip) | (intro hb <;> (try simp only [decide_eq_true_eq, decide_eq_false_iff_not, Bool.not_eq_true', Bool.not_eq_false', Bool.and_eq_true, Bool.or_eq_true, Bool.and_eq_false_iff, Bool.or_eq_false_iff, Bool.not_true, Bool.not_false, reduceCtorEq, Bool.true_and, Bool.and_true, Bool.false_and, Bool.and_false, ne_eq, not_or, not_true_eq_false, not_false_eq_true, false_or, or_false, true_and, and_true, false_and, and_false, Int.natCast_zero, Int.natCast_add, Int.natCast_one, List.length_nil, List.length_cons, List.length_take, List.length_drop, List.length_replicate, List.length_append, List.length_set, Nat.zero_add] at hb) <;> (try (exfalso; omega)) <;> (try conv => whnf)) | (refine hx.draw 400 (by kernel_rfl) ?_ <;> conv => whnf) | (refine hx.next 400 rfl ?_ <;> conv => whnf)
    all_goals try first | exact ⟨by decide⟩ | exact hin (by omega) | exact ⟨by omega⟩ | exact ⟨⟨by omega, by omega⟩⟩ | exact ⟨by omega, by omega⟩ | (exfalso; omega)
    all_goals exact hS _ _ _ _ (by omega)
  · exact hS.elim
noncomputable def S_spec_l4Real : Spec := fun args sub K => match args, sub with
  | [.v (.ptr 0 0)], [some (.box [.sl .u8 b, .int .i64 p])] => Hold (0 ≤ p ∧ p + 20 ≤ 1000000000 ∧ b.length ≤ 2000) ∧ ∀ k n q p' : Int, (p ≤ p' ∧ p' ≤ p + 20 ∧ -1000000000000 ≤ n ∧ n ≤ 1000000000000) → K (.agg [.int .i64 k, .int .i64 n, .int .i64 q]) [some (.box [.sl .u8 b, .int .i64 p'])]
  | _, _ => False
theorem S_spec_l4Real_mono : Mono S_spec_l4Real := by
  intro args sub K K' hk h
  unfold S_spec_l4Real at h ⊢
  repeat' first | exact hk _ _ h | exact h.elim | exact ⟨fun hc => hk _ _ (h.1 hc), fun hc => hk _ _ (h.2 hc)⟩ | (refine ⟨h.1, ?_⟩; replace h := h.2) | (intro hc; replace h := h hc) | (refine And.imp ?_ ?_ h <;> clear h <;> intro h) | split at h
noncomputable abbrev E_spec_l4Real : Ent := ⟨nrm [[none]] S_spec_l4Real, false⟩
theorem g_spec_l4Real : Good CA 78 E_spec_l4Real := by
  refine Good.nrm _ (fn_go (ex := 4) (l := [(67, E_p_spec_l26Rd_num), (76, E_spec_l2Arg)]) (bor := []) CA_td CA_eq CA_mix ⟨g_p_spec_l26Rd_num, g_spec_l2Arg, trivial⟩ Try.func78 rfl (by simp [Try.f78]) S_spec_l4Real_mono fun args sub K hS hA hO => ?_)
  unfold S_spec_l4Real at hS
  split at hS
  · rename_i b p
    refine ⟨by simp [Try.f78], fun E hx hnb => ?_⟩
    replace hx : Fx CA (hyOf [(67, E_p_spec_l26Rd_num), (76, E_spec_l2Arg)] []) 1 9 E := hx
    obtain ⟨⟨hp⟩, hS⟩ := hS
    refine hx.next 400 rfl ?_
    conv => whnf
    repeat' first | exact SameX.refl _ | exact trivial | (refine And.intro ?_ ?_ <;> first | (intro hb <;> (try simp only [decide_eq_true_eq, decide_eq_false_iff_not, Bool.not_eq_true', Bool.not_eq_false', Bool.and_eq_true, Bool.or_eq_true, Bool.and_eq_false_iff, Bool.or_eq_false_iff, Bool.not_true, Bool.not_false, reduceCtorEq, Bool.true_and, Bool.and_true, Bool.false_and, Bool.and_false, ne_eq, not_or, not_true_eq_false, not_false_eq_true, false_or, or_false, true_and, and_true, false_and, and_false, Int.natCast_zero, Int.natCast_add, Int.natCast_one, List.length_nil, List.length_cons, List.length_take, List.length_drop, List.length_replicate, List.length_append, List.length_set, Nat.zero_add] at hb) <;> (try (exfalso; omega)) <;> (try conv => whnf)) | (conv => whnf) | skip) | (intro hb <;> (try simp only [decide_eq_true_eq, decide_eq_false_iff_not, Bool.not_eq_true', Bool.not_eq_false', Bool.and_eq_true, Bool.or_eq_true, Bool.and_eq_false_iff, Bool.or_eq_false_iff, Bool.not_true, Bool.not_false, reduceCtorEq, Bool.true_and, Bool.and_true, Bool.false_and, Bool.and_false, ne_eq, not_or, not_true_eq_false, not_false_eq_true, false_or, or_false, true_and, and_true, false_and, and_false, Int.natCast_zero, Int.natCast_add, Int.natCast_one, List.length_nil, List.length_cons, List.length_take, List.length_drop, List.length_replicate, List.length_append, List.length_set, Nat.zero_add] at hb) <;> (try (exfalso; omega)) <;> (try conv => whnf)) | (refine hx.draw 400 (by kernel_rfl) ?_ <;> conv => whnf) | (refine hx.next 400 rfl ?_ <;> conv => whnf)
    all_goals try first | exact ⟨by decide⟩ | exact hin (by omega) | exact ⟨by omega⟩ | exact ⟨⟨by omega, by omega⟩⟩ | exact ⟨by omega, by omega⟩ | (exfalso; omega)
    all_goals exact hS _ _ _ _ (by omega)
  · exact hS.elim
end Go.Proofs.Ytdpgdeaefmghiaa.Sx

/- Printed by gen2.py: contracts of functions. -/
namespace Go.Proofs.Ytdpgdeaefmghiaa.Sx
open Go.Proofs
set_option maxRecDepth 20000
set_option maxHeartbeats 4000000
set_option linter.unusedSimpArgs false
set_option linter.unusedVariables false
def wideN (k : Int) : Nat := if k = 11 then 2 else if k = 12 then 4 else 1
def argR (bs : List UInt8) : Except Int (DevArg × List UInt8) :=
  match bs with
  | [] => .error 6
  | k :: r => if (k.toNat : Int) < 1 ∨ 13 < (k.toNat : Int) then .error 3
    else if r.length < wideN k.toNat then .error 6
    else if (k.toNat : Int) = 12 then (match r.drop 4 with | [] => .error 6 | p :: r' => .ok (⟨k.toNat, sval (r.take 4), p.toNat⟩, r'))
    else .ok (⟨k.toNat, sval (r.take (wideN k.toNat)), 0⟩, r.drop (wideN k.toNat))
theorem drop_cons_of {b : List UInt8} {p : Nat} (h : p < b.length) : b.drop p = b[p] :: b.drop (p + 1) := List.drop_eq_getElem_cons h
theorem drop_next {b r : List UInt8} {k : UInt8} {p : Int} (h0 : 0 ≤ p) (hl : b.drop p.toNat = k :: r) : b.drop (p + 1).toNat = r := by
  have h1 : (p + 1).toNat = p.toNat + 1 := by omega
  rw [h1, ← List.drop_drop, hl]; rfl
theorem argR_1 {k : UInt8} {r : List UInt8} (h : (k.toNat : Int) < 1 ∨ 13 < (k.toNat : Int)) : argR (k :: r) = .error 3 := by simp only [argR]; rw [if_pos h]
theorem argR_2 {k : UInt8} {r : List UInt8} (h : ¬ ((k.toNat : Int) < 1 ∨ 13 < (k.toNat : Int))) (h2 : r.length < wideN k.toNat) : argR (k :: r) = .error 6 := by simp only [argR]; rw [if_neg h, if_pos h2]
theorem argR_3 {k : UInt8} {r : List UInt8} (h : ¬ ((k.toNat : Int) < 1 ∨ 13 < (k.toNat : Int))) (h2 : ¬ r.length < wideN k.toNat) (h3 : (k.toNat : Int) = 12) (h4 : r.drop 4 = []) : argR (k :: r) = .error 6 := by simp only [argR]; rw [if_neg h, if_neg h2, if_pos h3, h4]
theorem argR_4 {k q : UInt8} {r r' : List UInt8} (h : ¬ ((k.toNat : Int) < 1 ∨ 13 < (k.toNat : Int))) (h2 : ¬ r.length < wideN k.toNat) (h3 : (k.toNat : Int) = 12) (h4 : r.drop 4 = q :: r') : argR (k :: r) = .ok (⟨k.toNat, sval (r.take 4), q.toNat⟩, r') := by simp only [argR]; rw [if_neg h, if_neg h2, if_pos h3, h4]
theorem argR_5 {k : UInt8} {r : List UInt8} (h : ¬ ((k.toNat : Int) < 1 ∨ 13 < (k.toNat : Int))) (h2 : ¬ r.length < wideN k.toNat) (h3 : ¬ (k.toNat : Int) = 12) : argR (k :: r) = .ok (⟨k.toNat, sval (r.take (wideN k.toNat)), 0⟩, r.drop (wideN k.toNat)) := by simp only [argR]; rw [if_neg h, if_neg h2, if_neg h3]
theorem wideN_12 {k : Int} (h : k = 12) : wideN k = 4 := by subst h; rfl
theorem wideN_bd (k : Int) : 1 ≤ wideN k ∧ wideN k ≤ 4 := by unfold wideN; (repeat' split) <;> omega
theorem wide_eq (k : Int) : wide k = (wideN k : Int) := by unfold wide wideN; (repeat' split) <;> first | rfl | omega
noncomputable def S_p_spec_l17In_arg : Spec := fun args sub K => match args, sub with
  | [.v (.ptr 0 0)], [some (.box [.sl .u8 b, .int .i64 p])] => Hold (0 ≤ p ∧ p ≤ b.length) ∧ (∀ (c p' : Int), argR (b.drop p.toNat) = .error c → 0 < c → K (.tup [.agg [.int .i64 0, .int .i64 0, .int .i64 0], .v (.int .i64 c)]) [some (.box [.sl .u8 b, .int .i64 p'])]) ∧ (∀ (a : DevArg) (p' : Int), argR (b.drop p.toNat) = .ok (a, b.drop p'.toNat) → p < p' → p' ≤ b.length → K (.tup [.agg [.int .i64 a.kind, .int .i64 a.n, .int .i64 a.p], .v (.int .i64 0)]) [some (.box [.sl .u8 b, .int .i64 p'])])
  | _, _ => False
theorem S_p_spec_l17In_arg_mono : Mono S_p_spec_l17In_arg := by
  intro args sub K K' hk h
  unfold S_p_spec_l17In_arg at h ⊢
  repeat' first | exact hk _ _ h | exact h.elim | exact ⟨fun hc => hk _ _ (h.1 hc), fun hc => hk _ _ (h.2 hc)⟩ | (refine ⟨h.1, ?_⟩; replace h := h.2) | (intro hc; replace h := h hc) | (refine And.imp ?_ ?_ h <;> clear h <;> intro h) | split at h
noncomputable abbrev E_p_spec_l17In_arg : Ent := ⟨nrm [[none]] S_p_spec_l17In_arg, false⟩
theorem g_p_spec_l17In_arg : Good CA 43 E_p_spec_l17In_arg := by
  refine Good.nrm _ (fn_go (ex := 4) (l := [(39, E_p_spec_l17In_take), (61, E_spec_l17Wide), (63, E_spec_l17Val)]) (bor := []) CA_td CA_eq CA_mix ⟨g_p_spec_l17In_take, g_spec_l17Wide, g_spec_l17Val, trivial⟩ Try.func43 rfl (by simp [Try.f43]) S_p_spec_l17In_arg_mono fun args sub K hS hA hO => ?_)
  unfold S_p_spec_l17In_arg at hS
  split at hS
  · rename_i b p
    refine ⟨by simp [Try.f43], fun E hx hnb => ?_⟩
    replace hx : Fx CA (hyOf [(39, E_p_spec_l17In_take), (61, E_spec_l17Wide), (63, E_spec_l17Val)] []) 1 67 E := hx
    obtain ⟨⟨hp⟩, hE, hS⟩ := hS
    have hO0 := hO 0 _ rfl
    have hbl : b.length ≤ big := by have h := (hO0 (.sl .u8 b) (by simp) : Ok (.sl .u8) b).1; exact Nat.le_trans (Nat.le_mul_of_pos_right _ Ty.u8.bytes_pos) h
    unfold big at hbl
    have hlen : (b.drop p.toNat).length = b.length - p.toNat := List.length_drop
    rcases hl : b.drop p.toNat with _ | ⟨k, r⟩
    · rw [hl] at hlen hE hS
      simp only [List.length_nil] at hlen
      refine hx.next 400 rfl ?_
      conv => whnf
      repeat' first | exact SameX.refl _ | exact trivial | (refine And.intro ?_ ?_ <;> first | (intro hb <;> (try simp only [decide_eq_true_eq, decide_eq_false_iff_not, Bool.not_eq_true', Bool.not_eq_false', Bool.and_eq_true, Bool.or_eq_true, Bool.and_eq_false_iff, Bool.or_eq_false_iff, Bool.not_true, Bool.not_false, reduceCtorEq, Bool.true_and, Bool.and_true, Bool.false_and, Bool.and_false, ne_eq, not_or, not_true_eq_false, not_false_eq_true, false_or, or_false, true_and, and_true, false_and, and_false, Int.natCast_zero, Int.natCast_add, Int.natCast_one, List.length_nil, List.length_cons, List.length_take, List.length_drop, List.length_replicate, List.length_append, List.length_set, Nat.zero_add] at hb) <;> (try (exfalso; omega)) <;> (try conv => whnf)) | (conv => whnf) | skip) | (intro hb <;> (try simp only [decide_eq_true_eq, decide_eq_false_iff_not, Bool.not_eq_true', Bool.not_eq_false', Bool.and_eq_true, Bool.or_eq_true, Bool.and_eq_false_iff, Bool.or_eq_false_iff, Bool.not_true, Bool.not_false, reduceCtorEq, Bool.true_and, Bool.and_true, Bool.false_and, Bool.and_false, ne_eq, not_or, not_true_eq_false, not_false_eq_true, false_or, or_false, true_and, and_true, false_and, and_false, Int.natCast_zero, Int.natCast_add, Int.natCast_one, List.length_nil, List.length_cons, List.length_take, List.length_drop, List.length_replicate, List.length_append, List.length_set, Nat.zero_add] at hb) <;> (try (exfalso; omega)) <;> (try conv => whnf)) | (refine hx.draw 400 (by kernel_rfl) ?_ <;> conv => whnf) | (refine hx.next 400 rfl ?_ <;> conv => whnf)
      all_goals try first | exact ⟨by decide⟩ | exact hin (by omega) | exact ⟨by omega⟩ | exact ⟨⟨by omega, by omega⟩⟩ | exact ⟨by omega, by omega⟩ | (exfalso; omega)
      exact hE 6 _ rfl (by omega)
    · have e2 : b.drop (p + 1).toNat = r := drop_next hp.1 hl
      have ek : (List.take (Int.toNat 1) (b.drop p.toNat)).getD (Int.toNat 0) Ty.u8.dflt = k := by rw [hl]; rfl
      have ew := wide_eq k.toNat
      have hw := wideN_bd k.toNat
      rw [hl] at hE hS; have hlen' := hlen; rw [hl] at hlen'
      simp only [List.length_cons] at hlen'
      have hk := UInt8.toNat_lt k
      refine hx.next 400 rfl ?_
      conv => whnf
      repeat' first | exact SameX.refl _ | exact trivial | (refine And.intro ?_ ?_ <;> first | (intro hb <;> (try simp only [decide_eq_true_eq, decide_eq_false_iff_not, Bool.not_eq_true', Bool.not_eq_false', Bool.and_eq_true, Bool.or_eq_true, Bool.and_eq_false_iff, Bool.or_eq_false_iff, Bool.not_true, Bool.not_false, reduceCtorEq, Bool.true_and, Bool.and_true, Bool.false_and, Bool.and_false, ne_eq, not_or, not_true_eq_false, not_false_eq_true, false_or, or_false, true_and, and_true, false_and, and_false, Int.natCast_zero, Int.natCast_add, Int.natCast_one, List.length_nil, List.length_cons, List.length_take, List.length_drop, List.length_replicate, List.length_append, List.length_set, Nat.zero_add] at hb) <;> (try (exfalso; omega)) <;> (try conv => whnf)) | (conv => whnf) | skip) | (intro hb <;> (try simp only [decide_eq_true_eq, decide_eq_false_iff_not, Bool.not_eq_true', Bool.not_eq_false', Bool.and_eq_true, Bool.or_eq_true, Bool.and_eq_false_iff, Bool.or_eq_false_iff, Bool.not_true, Bool.not_false, reduceCtorEq, Bool.true_and, Bool.and_true, Bool.false_and, Bool.and_false, ne_eq, not_or, not_true_eq_false, not_false_eq_true, false_or, or_false, true_and, and_true, false_and, and_false, Int.natCast_zero, Int.natCast_add, Int.natCast_one, List.length_nil, List.length_cons, List.length_take, List.length_drop, List.length_replicate, List.length_append, List.length_set, Nat.zero_add] at hb) <;> (try (exfalso; omega)) <;> (try conv => whnf)) | (refine hx.draw 400 (by kernel_rfl) ?_ <;> conv => whnf) | (refine hx.next 400 rfl ?_ <;> conv => whnf)
      all_goals try simp only [ek, ew, e2] at *
      all_goals (have e2 := drop_next hp.1 hl; clear ek)
      all_goals try first | exact ⟨by decide⟩ | exact hin (by omega) | exact ⟨by omega⟩ | exact ⟨⟨by omega, by omega⟩⟩ | exact ⟨by omega, by omega⟩ | (exfalso; omega)
      all_goals try (simp only [List.length_take, List.length_drop, List.length_append, List.length_cons, List.length_nil, List.length_replicate, List.length_set, Ty.bytes, big, Nat.zero_add, Nat.add_zero]; first | exact hin (by omega) | exact ⟨by omega⟩ | exact ⟨⟨by omega, by omega⟩⟩ | exact ⟨by omega, by omega⟩)
      · exact hE 3 _ (argR_1 (by omega)) (by omega)
      · exact hE 3 _ (argR_1 (by omega)) (by omega)
      · exact hE 6 _ (argR_2 (by omega) (by omega)) (by omega)
      · rename_i hb12
        have hw4 := wideN_12 hb12
        exact hE 6 _ (argR_3 (by omega) (by omega) hb12 (List.drop_eq_nil_of_le (by omega))) (by omega)
      · rename_i hb12
        have hw4 := wideN_12 hb12
        rw [hw4]
        have h6 : b.drop (p + 1 + ((4 : Nat) : Int)).toNat = r.drop 4 := by rw [show (p + 1 + ((4 : Nat) : Int)).toNat = (p + 1).toNat + 4 by omega, ← List.drop_drop, e2]
        rw [h6]
        rcases h7 : r.drop 4 with _ | ⟨q, r'⟩
        · have : (r.drop 4).length = 0 := by rw [h7]; rfl
          rw [List.length_drop] at this; omega
        · have h8 := drop_next (p := p + 1 + ((4 : Nat) : Int)) (by omega) (h6.trans h7)
          exact hS ⟨k.toNat, sval (r.take 4), q.toNat⟩ _ (by rw [h8]; exact argR_4 (by omega) (by omega) hb12 h7) (by omega) (by omega)
      · have h6 : b.drop (p + 1 + (wideN k.toNat : Int)).toNat = r.drop (wideN k.toNat) := by rw [show (p + 1 + (wideN k.toNat : Int)).toNat = (p + 1).toNat + wideN k.toNat by omega, ← List.drop_drop, e2]
        rw [nat_toNat]
        exact hS ⟨k.toNat, sval (r.take (wideN k.toNat)), 0⟩ _ (by rw [h6]; exact argR_5 (by omega) (by omega) hb) (by omega) (by omega)
  · exact hS.elim
end Go.Proofs.Ytdpgdeaefmghiaa.Sx
