/- A part of the proof's own kit: symbolic walks over the model (SeatB7, SeatB8, SeatB9, SeatB10, SeatB26). No statement of the seat stands here. -/
import Derived.Test.YtdpgdeaefmghiaaOneP8
set_option linter.unusedSimpArgs false
set_option linter.unusedVariables false
/- Printed by gen2.py: contracts of functions. -/
namespace Go.Proofs.Ytdpgdeaefmghiaa.Sx
open Go.Proofs
set_option maxRecDepth 20000
set_option maxHeartbeats 4000000
set_option linter.unusedSimpArgs false
set_option linter.unusedVariables false
noncomputable def S_slices_Clone_impl_DevArg_impl_DevArg : Spec := fun args sub K => match args, sub with
  | [.v (.sl .devarg xs)], [] => (xs = [] → K (.v .nil) []) ∧ (True → K (.v (.sl .devarg xs)) [])
  | _, _ => False
theorem S_slices_Clone_impl_DevArg_impl_DevArg_mono : Mono S_slices_Clone_impl_DevArg_impl_DevArg := by
  intro args sub K K' hk h
  unfold S_slices_Clone_impl_DevArg_impl_DevArg at h ⊢
  repeat' first | exact hk _ _ h | exact h.elim | exact ⟨fun hc => hk _ _ (h.1 hc), fun hc => hk _ _ (h.2 hc)⟩ | (refine ⟨h.1, ?_⟩; replace h := h.2) | (intro hc; replace h := h hc) | (refine And.imp ?_ ?_ h <;> clear h <;> intro h) | split at h
noncomputable abbrev E_slices_Clone_impl_DevArg_impl_DevArg : Ent := ⟨nrm [[some .devarg]] S_slices_Clone_impl_DevArg_impl_DevArg, false⟩
theorem g_slices_Clone_impl_DevArg_impl_DevArg : Good CA 73 E_slices_Clone_impl_DevArg_impl_DevArg := by
  refine Good.nrm _ (fn_go (ex := 4) (l := []) (bor := []) CA_td CA_eq CA_mix trivial Try.func73 rfl (by simp [Try.f73]) S_slices_Clone_impl_DevArg_impl_DevArg_mono fun args sub K hS hA hO => ?_)
  unfold S_slices_Clone_impl_DevArg_impl_DevArg at hS
  split at hS
  · rename_i xs
    refine ⟨by simp [Try.f73], fun E hx hnb => ?_⟩
    replace hx : Fx CA (hyOf [] []) 0 8 E := hx
    obtain ⟨h1, h2⟩ := hS
    have hok := (hA (.v (.sl .devarg xs)) (by simp) : Ok (.sl .devarg) xs)
    have hbg := hok.1
    refine hx.next 400 rfl ?_
    conv => whnf
    repeat' first | exact SameX.refl _ | exact trivial | (refine And.intro ?_ ?_ <;> first | (intro hb <;> (try simp only [decide_eq_true_eq, decide_eq_false_iff_not, Bool.not_eq_true', Bool.not_eq_false', Bool.and_eq_true, Bool.or_eq_true, Bool.and_eq_false_iff, Bool.or_eq_false_iff, Bool.not_true, Bool.not_false, reduceCtorEq, Bool.true_and, Bool.and_true, Bool.false_and, Bool.and_false, ne_eq, not_or, not_true_eq_false, not_false_eq_true, false_or, or_false, true_and, and_true, false_and, and_false, Int.natCast_zero, Int.natCast_add, Int.natCast_one, List.length_nil, List.length_cons, List.length_take, List.length_drop, List.length_replicate, List.length_append, List.length_set, Nat.zero_add] at hb) <;> (try (exfalso; omega)) <;> (try conv => whnf)) | (conv => whnf) | skip) | (intro hb <;> (try simp only [decide_eq_true_eq, decide_eq_false_iff_not, Bool.not_eq_true', Bool.not_eq_false', Bool.and_eq_true, Bool.or_eq_true, Bool.and_eq_false_iff, Bool.or_eq_false_iff, Bool.not_true, Bool.not_false, reduceCtorEq, Bool.true_and, Bool.and_true, Bool.false_and, Bool.and_false, ne_eq, not_or, not_true_eq_false, not_false_eq_true, false_or, or_false, true_and, and_true, false_and, and_false, Int.natCast_zero, Int.natCast_add, Int.natCast_one, List.length_nil, List.length_cons, List.length_take, List.length_drop, List.length_replicate, List.length_append, List.length_set, Nat.zero_add] at hb) <;> (try (exfalso; omega)) <;> (try conv => whnf)) | (refine hx.draw 400 (by kernel_rfl) ?_ <;> conv => whnf) | (refine hx.next 400 rfl ?_ <;> conv => whnf)
    all_goals try first | exact ⟨by decide⟩ | exact hin (by omega) | exact ⟨by omega⟩ | exact ⟨⟨by omega, by omega⟩⟩ | exact ⟨by omega, by omega⟩ | (exfalso; omega)
    · rename_i hv; exact h1 (hv (by assumption))
    · exact ⟨by simpa using hbg⟩
    · exact h2 trivial
  · exact hS.elim
noncomputable def S_slices_Clip_impl_DevArg_impl_DevArg : Spec := fun args sub K => match args, sub with
  | [.v (.sl .devarg xs)], [] => K (.v (.sl .devarg xs)) []
  | _, _ => False
theorem S_slices_Clip_impl_DevArg_impl_DevArg_mono : Mono S_slices_Clip_impl_DevArg_impl_DevArg := by
  intro args sub K K' hk h
  unfold S_slices_Clip_impl_DevArg_impl_DevArg at h ⊢
  repeat' first | exact hk _ _ h | exact h.elim | exact ⟨fun hc => hk _ _ (h.1 hc), fun hc => hk _ _ (h.2 hc)⟩ | (refine ⟨h.1, ?_⟩; replace h := h.2) | (intro hc; replace h := h hc) | (refine And.imp ?_ ?_ h <;> clear h <;> intro h) | split at h
noncomputable abbrev E_slices_Clip_impl_DevArg_impl_DevArg : Ent := ⟨nrm [[some .devarg]] S_slices_Clip_impl_DevArg_impl_DevArg, false⟩
theorem g_slices_Clip_impl_DevArg_impl_DevArg : Good CA 72 E_slices_Clip_impl_DevArg_impl_DevArg := by
  refine Good.nrm _ (fn_go (ex := 4) (l := []) (bor := []) CA_td CA_eq CA_mix trivial Try.func72 rfl (by simp [Try.f72]) S_slices_Clip_impl_DevArg_impl_DevArg_mono fun args sub K hS hA hO => ?_)
  unfold S_slices_Clip_impl_DevArg_impl_DevArg at hS
  split at hS
  · rename_i xs
    refine ⟨by simp [Try.f72], fun E hx hnb => ?_⟩
    replace hx : Fx CA (hyOf [] []) 0 9 E := hx
    refine hx.next 400 rfl ?_
    conv => whnf
    repeat' first | exact SameX.refl _ | exact trivial | (refine And.intro ?_ ?_ <;> first | (intro hb <;> (try simp only [decide_eq_true_eq, decide_eq_false_iff_not, Bool.not_eq_true', Bool.not_eq_false', Bool.and_eq_true, Bool.or_eq_true, Bool.and_eq_false_iff, Bool.or_eq_false_iff, Bool.not_true, Bool.not_false, reduceCtorEq, Bool.true_and, Bool.and_true, Bool.false_and, Bool.and_false, ne_eq, not_or, not_true_eq_false, not_false_eq_true, false_or, or_false, true_and, and_true, false_and, and_false, Int.natCast_zero, Int.natCast_add, Int.natCast_one, List.length_nil, List.length_cons, List.length_take, List.length_drop, List.length_replicate, List.length_append, List.length_set, Nat.zero_add] at hb) <;> (try (exfalso; omega)) <;> (try conv => whnf)) | (conv => whnf) | skip) | (intro hb <;> (try simp only [decide_eq_true_eq, decide_eq_false_iff_not, Bool.not_eq_true', Bool.not_eq_false', Bool.and_eq_true, Bool.or_eq_true, Bool.and_eq_false_iff, Bool.or_eq_false_iff, Bool.not_true, Bool.not_false, reduceCtorEq, Bool.true_and, Bool.and_true, Bool.false_and, Bool.and_false, ne_eq, not_or, not_true_eq_false, not_false_eq_true, false_or, or_false, true_and, and_true, false_and, and_false, Int.natCast_zero, Int.natCast_add, Int.natCast_one, List.length_nil, List.length_cons, List.length_take, List.length_drop, List.length_replicate, List.length_append, List.length_set, Nat.zero_add] at hb) <;> (try (exfalso; omega)) <;> (try conv => whnf)) | (refine hx.draw 400 (by kernel_rfl) ?_ <;> conv => whnf) | (refine hx.next 400 rfl ?_ <;> conv => whnf)
    all_goals try first | exact ⟨by decide⟩ | exact hin (by omega) | exact ⟨by omega⟩ | exact ⟨⟨by omega, by omega⟩⟩ | exact ⟨by omega, by omega⟩ | (exfalso; omega)
    exact ansS hS (List.take_of_length_le (by omega))
  · exact hS.elim
noncomputable def S_impl_clone_impl_DevArg : Spec := fun args sub K => match args, sub with
  | [.v (.sl .devarg xs)], [] => K (.v (.sl .devarg xs)) []
  | _, _ => False
theorem S_impl_clone_impl_DevArg_mono : Mono S_impl_clone_impl_DevArg := by
  intro args sub K K' hk h
  unfold S_impl_clone_impl_DevArg at h ⊢
  repeat' first | exact hk _ _ h | exact h.elim | exact ⟨fun hc => hk _ _ (h.1 hc), fun hc => hk _ _ (h.2 hc)⟩ | (refine ⟨h.1, ?_⟩; replace h := h.2) | (intro hc; replace h := h hc) | (refine And.imp ?_ ?_ h <;> clear h <;> intro h) | split at h
noncomputable abbrev E_impl_clone_impl_DevArg : Ent := ⟨nrm [[some .devarg]] S_impl_clone_impl_DevArg, false⟩
theorem g_impl_clone_impl_DevArg : Good CA 65 E_impl_clone_impl_DevArg := by
  refine Good.nrm _ (fn_go (ex := 4) (l := [(72, E_slices_Clip_impl_DevArg_impl_DevArg), (73, E_slices_Clone_impl_DevArg_impl_DevArg)]) (bor := []) CA_td CA_eq CA_mix ⟨g_slices_Clip_impl_DevArg_impl_DevArg, g_slices_Clone_impl_DevArg_impl_DevArg, trivial⟩ Try.func65 rfl (by simp [Try.f65]) S_impl_clone_impl_DevArg_mono fun args sub K hS hA hO => ?_)
  unfold S_impl_clone_impl_DevArg at hS
  split at hS
  · rename_i xs
    refine ⟨by simp [Try.f65], fun E hx hnb => ?_⟩
    replace hx : Fx CA (hyOf [(72, E_slices_Clip_impl_DevArg_impl_DevArg), (73, E_slices_Clone_impl_DevArg_impl_DevArg)] []) 0 6 E := hx
    refine hx.next 400 rfl ?_
    conv => whnf
    repeat' first | exact SameX.refl _ | exact trivial | (refine And.intro ?_ ?_ <;> first | (intro hb <;> (try simp only [decide_eq_true_eq, decide_eq_false_iff_not, Bool.not_eq_true', Bool.not_eq_false', Bool.and_eq_true, Bool.or_eq_true, Bool.and_eq_false_iff, Bool.or_eq_false_iff, Bool.not_true, Bool.not_false, reduceCtorEq, Bool.true_and, Bool.and_true, Bool.false_and, Bool.and_false, ne_eq, not_or, not_true_eq_false, not_false_eq_true, false_or, or_false, true_and, and_true, false_and, and_false, Int.natCast_zero, Int.natCast_add, Int.natCast_one, List.length_nil, List.length_cons, List.length_take, List.length_drop, List.length_replicate, List.length_append, List.length_set, Nat.zero_add] at hb) <;> (try (exfalso; omega)) <;> (try conv => whnf)) | (conv => whnf) | skip) | (intro hb <;> (try simp only [decide_eq_true_eq, decide_eq_false_iff_not, Bool.not_eq_true', Bool.not_eq_false', Bool.and_eq_true, Bool.or_eq_true, Bool.and_eq_false_iff, Bool.or_eq_false_iff, Bool.not_true, Bool.not_false, reduceCtorEq, Bool.true_and, Bool.and_true, Bool.false_and, Bool.and_false, ne_eq, not_or, not_true_eq_false, not_false_eq_true, false_or, or_false, true_and, and_true, false_and, and_false, Int.natCast_zero, Int.natCast_add, Int.natCast_one, List.length_nil, List.length_cons, List.length_take, List.length_drop, List.length_replicate, List.length_append, List.length_set, Nat.zero_add] at hb) <;> (try (exfalso; omega)) <;> (try conv => whnf)) | (refine hx.draw 400 (by kernel_rfl) ?_ <;> conv => whnf) | (refine hx.next 400 rfl ?_ <;> conv => whnf)
    all_goals try first | exact ⟨by decide⟩ | exact hin (by omega) | exact ⟨by omega⟩ | exact ⟨⟨by omega, by omega⟩⟩ | exact ⟨by omega, by omega⟩ | (exfalso; omega)
    · subst hb; exact hS
    · exact hS
  · exact hS.elim
noncomputable def S_slices_Clone_byte_byte : Spec := fun args sub K => match args, sub with
  | [.v (.sl .u8 xs)], [] => (xs = [] → K (.v .nil) []) ∧ (True → K (.v (.sl .u8 xs)) [])
  | _, _ => False
theorem S_slices_Clone_byte_byte_mono : Mono S_slices_Clone_byte_byte := by
  intro args sub K K' hk h
  unfold S_slices_Clone_byte_byte at h ⊢
  repeat' first | exact hk _ _ h | exact h.elim | exact ⟨fun hc => hk _ _ (h.1 hc), fun hc => hk _ _ (h.2 hc)⟩ | (refine ⟨h.1, ?_⟩; replace h := h.2) | (intro hc; replace h := h hc) | (refine And.imp ?_ ?_ h <;> clear h <;> intro h) | split at h
noncomputable abbrev E_slices_Clone_byte_byte : Ent := ⟨nrm [[some .u8]] S_slices_Clone_byte_byte, false⟩
theorem g_slices_Clone_byte_byte : Good CA 59 E_slices_Clone_byte_byte := by
  refine Good.nrm _ (fn_go (ex := 4) (l := []) (bor := []) CA_td CA_eq CA_mix trivial Try.func59 rfl (by simp [Try.f59]) S_slices_Clone_byte_byte_mono fun args sub K hS hA hO => ?_)
  unfold S_slices_Clone_byte_byte at hS
  split at hS
  · rename_i xs
    refine ⟨by simp [Try.f59], fun E hx hnb => ?_⟩
    replace hx : Fx CA (hyOf [] []) 0 8 E := hx
    obtain ⟨h1, h2⟩ := hS
    have hok := (hA (.v (.sl .u8 xs)) (by simp) : Ok (.sl .u8) xs)
    have hbg := hok.1
    refine hx.next 400 rfl ?_
    conv => whnf
    repeat' first | exact SameX.refl _ | exact trivial | (refine And.intro ?_ ?_ <;> first | (intro hb <;> (try simp only [decide_eq_true_eq, decide_eq_false_iff_not, Bool.not_eq_true', Bool.not_eq_false', Bool.and_eq_true, Bool.or_eq_true, Bool.and_eq_false_iff, Bool.or_eq_false_iff, Bool.not_true, Bool.not_false, reduceCtorEq, Bool.true_and, Bool.and_true, Bool.false_and, Bool.and_false, ne_eq, not_or, not_true_eq_false, not_false_eq_true, false_or, or_false, true_and, and_true, false_and, and_false, Int.natCast_zero, Int.natCast_add, Int.natCast_one, List.length_nil, List.length_cons, List.length_take, List.length_drop, List.length_replicate, List.length_append, List.length_set, Nat.zero_add] at hb) <;> (try (exfalso; omega)) <;> (try conv => whnf)) | (conv => whnf) | skip) | (intro hb <;> (try simp only [decide_eq_true_eq, decide_eq_false_iff_not, Bool.not_eq_true', Bool.not_eq_false', Bool.and_eq_true, Bool.or_eq_true, Bool.and_eq_false_iff, Bool.or_eq_false_iff, Bool.not_true, Bool.not_false, reduceCtorEq, Bool.true_and, Bool.and_true, Bool.false_and, Bool.and_false, ne_eq, not_or, not_true_eq_false, not_false_eq_true, false_or, or_false, true_and, and_true, false_and, and_false, Int.natCast_zero, Int.natCast_add, Int.natCast_one, List.length_nil, List.length_cons, List.length_take, List.length_drop, List.length_replicate, List.length_append, List.length_set, Nat.zero_add] at hb) <;> (try (exfalso; omega)) <;> (try conv => whnf)) | (refine hx.draw 400 (by kernel_rfl) ?_ <;> conv => whnf) | (refine hx.next 400 rfl ?_ <;> conv => whnf)
    all_goals try first | exact ⟨by decide⟩ | exact hin (by omega) | exact ⟨by omega⟩ | exact ⟨⟨by omega, by omega⟩⟩ | exact ⟨by omega, by omega⟩ | (exfalso; omega)
    · rename_i hv; exact h1 (hv (by assumption))
    · exact ⟨by simpa using hbg⟩
    · exact h2 trivial
  · exact hS.elim
noncomputable def S_slices_Clip_byte_byte : Spec := fun args sub K => match args, sub with
  | [.v (.sl .u8 xs)], [] => K (.v (.sl .u8 xs)) []
  | _, _ => False
theorem S_slices_Clip_byte_byte_mono : Mono S_slices_Clip_byte_byte := by
  intro args sub K K' hk h
  unfold S_slices_Clip_byte_byte at h ⊢
  repeat' first | exact hk _ _ h | exact h.elim | exact ⟨fun hc => hk _ _ (h.1 hc), fun hc => hk _ _ (h.2 hc)⟩ | (refine ⟨h.1, ?_⟩; replace h := h.2) | (intro hc; replace h := h hc) | (refine And.imp ?_ ?_ h <;> clear h <;> intro h) | split at h
noncomputable abbrev E_slices_Clip_byte_byte : Ent := ⟨nrm [[some .u8]] S_slices_Clip_byte_byte, false⟩
theorem g_slices_Clip_byte_byte : Good CA 58 E_slices_Clip_byte_byte := by
  refine Good.nrm _ (fn_go (ex := 4) (l := []) (bor := []) CA_td CA_eq CA_mix trivial Try.func58 rfl (by simp [Try.f58]) S_slices_Clip_byte_byte_mono fun args sub K hS hA hO => ?_)
  unfold S_slices_Clip_byte_byte at hS
  split at hS
  · rename_i xs
    refine ⟨by simp [Try.f58], fun E hx hnb => ?_⟩
    replace hx : Fx CA (hyOf [] []) 0 9 E := hx
    refine hx.next 400 rfl ?_
    conv => whnf
    repeat' first | exact SameX.refl _ | exact trivial | (refine And.intro ?_ ?_ <;> first | (intro hb <;> (try simp only [decide_eq_true_eq, decide_eq_false_iff_not, Bool.not_eq_true', Bool.not_eq_false', Bool.and_eq_true, Bool.or_eq_true, Bool.and_eq_false_iff, Bool.or_eq_false_iff, Bool.not_true, Bool.not_false, reduceCtorEq, Bool.true_and, Bool.and_true, Bool.false_and, Bool.and_false, ne_eq, not_or, not_true_eq_false, not_false_eq_true, false_or, or_false, true_and, and_true, false_and, and_false, Int.natCast_zero, Int.natCast_add, Int.natCast_one, List.length_nil, List.length_cons, List.length_take, List.length_drop, List.length_replicate, List.length_append, List.length_set, Nat.zero_add] at hb) <;> (try (exfalso; omega)) <;> (try conv => whnf)) | (conv => whnf) | skip) | (intro hb <;> (try simp only [decide_eq_true_eq, decide_eq_false_iff_not, Bool.not_eq_true', Bool.not_eq_false', Bool.and_eq_true, Bool.or_eq_true, Bool.and_eq_false_iff, Bool.or_eq_false_iff, Bool.not_true, Bool.not_false, reduceCtorEq, Bool.true_and, Bool.and_true, Bool.false_and, Bool.and_false, ne_eq, not_or, not_true_eq_false, not_false_eq_true, false_or, or_false, true_and, and_true, false_and, and_false, Int.natCast_zero, Int.natCast_add, Int.natCast_one, List.length_nil, List.length_cons, List.length_take, List.length_drop, List.length_replicate, List.length_append, List.length_set, Nat.zero_add] at hb) <;> (try (exfalso; omega)) <;> (try conv => whnf)) | (refine hx.draw 400 (by kernel_rfl) ?_ <;> conv => whnf) | (refine hx.next 400 rfl ?_ <;> conv => whnf)
    all_goals try first | exact ⟨by decide⟩ | exact hin (by omega) | exact ⟨by omega⟩ | exact ⟨⟨by omega, by omega⟩⟩ | exact ⟨by omega, by omega⟩ | (exfalso; omega)
    exact ansS hS (List.take_of_length_le (by omega))
  · exact hS.elim
noncomputable def S_impl_clone_byte : Spec := fun args sub K => match args, sub with
  | [.v (.sl .u8 xs)], [] => K (.v (.sl .u8 xs)) []
  | _, _ => False
theorem S_impl_clone_byte_mono : Mono S_impl_clone_byte := by
  intro args sub K K' hk h
  unfold S_impl_clone_byte at h ⊢
  repeat' first | exact hk _ _ h | exact h.elim | exact ⟨fun hc => hk _ _ (h.1 hc), fun hc => hk _ _ (h.2 hc)⟩ | (refine ⟨h.1, ?_⟩; replace h := h.2) | (intro hc; replace h := h hc) | (refine And.imp ?_ ?_ h <;> clear h <;> intro h) | split at h
noncomputable abbrev E_impl_clone_byte : Ent := ⟨nrm [[some .u8]] S_impl_clone_byte, false⟩
theorem g_impl_clone_byte : Good CA 29 E_impl_clone_byte := by
  refine Good.nrm _ (fn_go (ex := 4) (l := [(58, E_slices_Clip_byte_byte), (59, E_slices_Clone_byte_byte)]) (bor := []) CA_td CA_eq CA_mix ⟨g_slices_Clip_byte_byte, g_slices_Clone_byte_byte, trivial⟩ Try.func29 rfl (by simp [Try.f29]) S_impl_clone_byte_mono fun args sub K hS hA hO => ?_)
  unfold S_impl_clone_byte at hS
  split at hS
  · rename_i xs
    refine ⟨by simp [Try.f29], fun E hx hnb => ?_⟩
    replace hx : Fx CA (hyOf [(58, E_slices_Clip_byte_byte), (59, E_slices_Clone_byte_byte)] []) 0 6 E := hx
    refine hx.next 400 rfl ?_
    conv => whnf
    repeat' first | exact SameX.refl _ | exact trivial | (refine And.intro ?_ ?_ <;> first | (intro hb <;> (try simp only [decide_eq_true_eq, decide_eq_false_iff_not, Bool.not_eq_true', Bool.not_eq_false', Bool.and_eq_true, Bool.or_eq_true, Bool.and_eq_false_iff, Bool.or_eq_false_iff, Bool.not_true, Bool.not_false, reduceCtorEq, Bool.true_and, Bool.and_true, Bool.false_and, Bool.and_false, ne_eq, not_or, not_true_eq_false, not_false_eq_true, false_or, or_false, true_and, and_true, false_and, and_false, Int.natCast_zero, Int.natCast_add, Int.natCast_one, List.length_nil, List.length_cons, List.length_take, List.length_drop, List.length_replicate, List.length_append, List.length_set, Nat.zero_add] at hb) <;> (try (exfalso; omega)) <;> (try conv => whnf)) | (conv => whnf) | skip) | (intro hb <;> (try simp only [decide_eq_true_eq, decide_eq_false_iff_not, Bool.not_eq_true', Bool.not_eq_false', Bool.and_eq_true, Bool.or_eq_true, Bool.and_eq_false_iff, Bool.or_eq_false_iff, Bool.not_true, Bool.not_false, reduceCtorEq, Bool.true_and, Bool.and_true, Bool.false_and, Bool.and_false, ne_eq, not_or, not_true_eq_false, not_false_eq_true, false_or, or_false, true_and, and_true, false_and, and_false, Int.natCast_zero, Int.natCast_add, Int.natCast_one, List.length_nil, List.length_cons, List.length_take, List.length_drop, List.length_replicate, List.length_append, List.length_set, Nat.zero_add] at hb) <;> (try (exfalso; omega)) <;> (try conv => whnf)) | (refine hx.draw 400 (by kernel_rfl) ?_ <;> conv => whnf) | (refine hx.next 400 rfl ?_ <;> conv => whnf)
    all_goals try first | exact ⟨by decide⟩ | exact hin (by omega) | exact ⟨by omega⟩ | exact ⟨⟨by omega, by omega⟩⟩ | exact ⟨by omega, by omega⟩ | (exfalso; omega)
    · subst hb; exact hS
    · exact hS
  · exact hS.elim
noncomputable def S_impl_Elem_copyOf : Spec := fun args sub K => match args, sub with
  | [.agg [.int .i64 op, .sl .devarg xs]], [] => K (.agg [.int .i64 op, .sl .devarg xs]) []
  | _, _ => False
theorem S_impl_Elem_copyOf_mono : Mono S_impl_Elem_copyOf := by
  intro args sub K K' hk h
  unfold S_impl_Elem_copyOf at h ⊢
  repeat' first | exact hk _ _ h | exact h.elim | exact ⟨fun hc => hk _ _ (h.1 hc), fun hc => hk _ _ (h.2 hc)⟩ | (refine ⟨h.1, ?_⟩; replace h := h.2) | (intro hc; replace h := h hc) | (refine And.imp ?_ ?_ h <;> clear h <;> intro h) | split at h
noncomputable abbrev E_impl_Elem_copyOf : Ent := ⟨nrm [[none, some .devarg]] S_impl_Elem_copyOf, false⟩
theorem g_impl_Elem_copyOf : Good CA 49 E_impl_Elem_copyOf := by
  refine Good.nrm _ (fn_go (ex := 4) (l := [(65, E_impl_clone_impl_DevArg)]) (bor := []) CA_td CA_eq CA_mix ⟨g_impl_clone_impl_DevArg, trivial⟩ Try.func49 rfl (by simp [Try.f49]) S_impl_Elem_copyOf_mono fun args sub K hS hA hO => ?_)
  unfold S_impl_Elem_copyOf at hS
  split at hS
  · rename_i op xs
    refine ⟨by simp [Try.f49], fun E hx hnb => ?_⟩
    replace hx : Fx CA (hyOf [(65, E_impl_clone_impl_DevArg)] []) 0 9 E := hx
    refine hx.next 400 rfl ?_
    conv => whnf
    repeat' first | exact SameX.refl _ | exact trivial | (refine And.intro ?_ ?_ <;> first | (intro hb <;> (try simp only [decide_eq_true_eq, decide_eq_false_iff_not, Bool.not_eq_true', Bool.not_eq_false', Bool.and_eq_true, Bool.or_eq_true, Bool.and_eq_false_iff, Bool.or_eq_false_iff, Bool.not_true, Bool.not_false, reduceCtorEq, Bool.true_and, Bool.and_true, Bool.false_and, Bool.and_false, ne_eq, not_or, not_true_eq_false, not_false_eq_true, false_or, or_false, true_and, and_true, false_and, and_false, Int.natCast_zero, Int.natCast_add, Int.natCast_one, List.length_nil, List.length_cons, List.length_take, List.length_drop, List.length_replicate, List.length_append, List.length_set, Nat.zero_add] at hb) <;> (try (exfalso; omega)) <;> (try conv => whnf)) | (conv => whnf) | skip) | (intro hb <;> (try simp only [decide_eq_true_eq, decide_eq_false_iff_not, Bool.not_eq_true', Bool.not_eq_false', Bool.and_eq_true, Bool.or_eq_true, Bool.and_eq_false_iff, Bool.or_eq_false_iff, Bool.not_true, Bool.not_false, reduceCtorEq, Bool.true_and, Bool.and_true, Bool.false_and, Bool.and_false, ne_eq, not_or, not_true_eq_false, not_false_eq_true, false_or, or_false, true_and, and_true, false_and, and_false, Int.natCast_zero, Int.natCast_add, Int.natCast_one, List.length_nil, List.length_cons, List.length_take, List.length_drop, List.length_replicate, List.length_append, List.length_set, Nat.zero_add] at hb) <;> (try (exfalso; omega)) <;> (try conv => whnf)) | (refine hx.draw 400 (by kernel_rfl) ?_ <;> conv => whnf) | (refine hx.next 400 rfl ?_ <;> conv => whnf)
    all_goals try first | exact ⟨by decide⟩ | exact hin (by omega) | exact ⟨by omega⟩ | exact ⟨⟨by omega, by omega⟩⟩ | exact ⟨by omega, by omega⟩ | (exfalso; omega)
    exact hS
  · exact hS.elim
theorem set_take {α : Type} {xs : List α} {i : Nat} (h : i < xs.length) (d : α) : (xs.take i ++ List.replicate (xs.length - i) d).set i xs[i] = xs.take (i + 1) ++ List.replicate (xs.length - (i + 1)) d := by
  have e : xs.length - i = (xs.length - (i + 1)) + 1 := by omega
  rw [List.set_append, if_neg (by rw [List.length_take]; omega), List.length_take, Nat.min_eq_left (by omega), Nat.sub_self, e, List.replicate_succ, List.set_cons_zero, List.take_succ_eq_append_getElem h, List.append_assoc]
  rfl
noncomputable def S_impl_copyList : Spec := fun args sub K => match args, sub with
  | [.v (.sl .inst xs)], [] => K (.v (.sl .inst xs)) []
  | _, _ => False
theorem S_impl_copyList_mono : Mono S_impl_copyList := by
  intro args sub K K' hk h
  unfold S_impl_copyList at h ⊢
  repeat' first | exact hk _ _ h | exact h.elim | exact ⟨fun hc => hk _ _ (h.1 hc), fun hc => hk _ _ (h.2 hc)⟩ | (refine ⟨h.1, ?_⟩; replace h := h.2) | (intro hc; replace h := h hc) | (refine And.imp ?_ ?_ h <;> clear h <;> intro h) | split at h
noncomputable abbrev E_impl_copyList : Ent := ⟨nrm [[some .inst]] S_impl_copyList, false⟩
theorem g_impl_copyList : Good CA 23 E_impl_copyList := by
  refine Good.nrm _ (fn_go (ex := 4) (l := [(49, E_impl_Elem_copyOf)]) (bor := []) CA_td CA_eq CA_mix ⟨g_impl_Elem_copyOf, trivial⟩ Try.func23 rfl (by simp [Try.f23]) S_impl_copyList_mono fun args sub K hS hA hO => ?_)
  unfold S_impl_copyList at hS
  split at hS
  · rename_i xs
    refine ⟨by simp [Try.f23], fun E hx hnb => ?_⟩
    replace hx : Fx CA (hyOf [(49, E_impl_Elem_copyOf)] []) 0 27 E := hx
    have hok := (hA (.v (.sl .inst xs)) (by simp) : Ok (.sl .inst) xs)
    have hbg := hok.1
    have hl : xs.length ≤ 140737488355328 := Nat.le_trans (Nat.le_mul_of_pos_right _ Ty.inst.bytes_pos) hbg
    refine hx.next 400 rfl ?_
    conv => whnf
    repeat' first | exact SameX.refl _ | exact trivial | (refine And.intro ?_ ?_ <;> first | (intro hb <;> (try simp only [decide_eq_true_eq, decide_eq_false_iff_not, Bool.not_eq_true', Bool.not_eq_false', Bool.and_eq_true, Bool.or_eq_true, Bool.and_eq_false_iff, Bool.or_eq_false_iff, Bool.not_true, Bool.not_false, reduceCtorEq, Bool.true_and, Bool.and_true, Bool.false_and, Bool.and_false, ne_eq, not_or, not_true_eq_false, not_false_eq_true, false_or, or_false, true_and, and_true, false_and, and_false, Int.natCast_zero, Int.natCast_add, Int.natCast_one, List.length_nil, List.length_cons, List.length_take, List.length_drop, List.length_replicate, List.length_append, List.length_set, Nat.zero_add] at hb) <;> (try (exfalso; omega)) <;> (try conv => whnf)) | (conv => whnf) | skip) | (intro hb <;> (try simp only [decide_eq_true_eq, decide_eq_false_iff_not, Bool.not_eq_true', Bool.not_eq_false', Bool.and_eq_true, Bool.or_eq_true, Bool.and_eq_false_iff, Bool.or_eq_false_iff, Bool.not_true, Bool.not_false, reduceCtorEq, Bool.true_and, Bool.and_true, Bool.false_and, Bool.and_false, ne_eq, not_or, not_true_eq_false, not_false_eq_true, false_or, or_false, true_and, and_true, false_and, and_false, Int.natCast_zero, Int.natCast_add, Int.natCast_one, List.length_nil, List.length_cons, List.length_take, List.length_drop, List.length_replicate, List.length_append, List.length_set, Nat.zero_add] at hb) <;> (try (exfalso; omega)) <;> (try conv => whnf)) | (refine hx.draw 400 (by kernel_rfl) ?_ <;> conv => whnf) | (refine hx.next 400 rfl ?_ <;> conv => whnf)
    all_goals try first | exact ⟨by decide⟩ | exact hin (by omega) | exact ⟨by omega⟩ | exact ⟨⟨by omega, by omega⟩⟩ | exact ⟨by omega, by omega⟩ | (exfalso; omega)
    all_goals (try exact ⟨by omega, by omega, by exact_mod_cast hbg⟩)
    all_goals (try exact ⟨⟨by omega, by omega, by exact_mod_cast hbg⟩⟩)
    refine Safe.loopUP (Y := Nat) (fun i => [(4, .v .any), (5, .v .any), (11, N64 (i : Int)), (12, .v .any), (13, .v .any), (14, .v .any), (15, .v .any), (16, .v .any), (17, .v .any), (18, .v .any), (19, .v .any), (20, .v .any), (21, .v .any), (22, .v .any), (23, .v .any), (24, .v .any), (25, .v .any)]) (fun i => [(4, none), (5, none), (8, some (.row eInst .inst (xs.take i ++ List.replicate (xs.length - i) Ty.inst.dflt))), (11, none), (12, none), (13, none), (14, none), (15, none), (16, none), (17, none), (18, none), (19, none), (20, none), (21, none), (22, none), (23, none), (24, none), (25, none)]) (fun i => i ≤ xs.length) (fun i => xs.length - i) (0) ?_ (StLe.upd ?_) fun i hP => ?_
    · first | trivial | ((try dsimp only); first | trivial | omega | ((repeat' apply And.intro) <;> omega) | (simp; done))
    · conv => whnf
      repeat' first | exact trivial | exact .refl _ | exact .nilsl _ | exact .tt _ rfl | exact .ff _ rfl | exact .tb _ rfl | exact .fb _ rfl | exact .row _ _ _ _ rfl | (refine And.intro ?_ ?_ <;> try conv => whnf)
      all_goals try first | exact sameI (by omega) | exact sameI rfl | (refine sameI ?_; simp only [List.length_append, List.length_cons, List.length_nil]; omega)
    · try dsimp only at hP
      refine hx.next 400 rfl ?_
      conv => whnf
      repeat' first | exact SameX.refl _ | exact trivial | (refine And.intro ?_ ?_ <;> first | (intro hb <;> (try simp only [decide_eq_true_eq, decide_eq_false_iff_not, Bool.not_eq_true', Bool.not_eq_false', Bool.and_eq_true, Bool.or_eq_true, Bool.and_eq_false_iff, Bool.or_eq_false_iff, Bool.not_true, Bool.not_false, reduceCtorEq, Bool.true_and, Bool.and_true, Bool.false_and, Bool.and_false, ne_eq, not_or, not_true_eq_false, not_false_eq_true, false_or, or_false, true_and, and_true, false_and, and_false, Int.natCast_zero, Int.natCast_add, Int.natCast_one, List.length_nil, List.length_cons, List.length_take, List.length_drop, List.length_replicate, List.length_append, List.length_set, Nat.zero_add] at hb) <;> (try (exfalso; omega)) <;> (try conv => whnf)) | (conv => whnf) | skip) | (intro hb <;> (try simp only [decide_eq_true_eq, decide_eq_false_iff_not, Bool.not_eq_true', Bool.not_eq_false', Bool.and_eq_true, Bool.or_eq_true, Bool.and_eq_false_iff, Bool.or_eq_false_iff, Bool.not_true, Bool.not_false, reduceCtorEq, Bool.true_and, Bool.and_true, Bool.false_and, Bool.and_false, ne_eq, not_or, not_true_eq_false, not_false_eq_true, false_or, or_false, true_and, and_true, false_and, and_false, Int.natCast_zero, Int.natCast_add, Int.natCast_one, List.length_nil, List.length_cons, List.length_take, List.length_drop, List.length_replicate, List.length_append, List.length_set, Nat.zero_add] at hb) <;> (try (exfalso; omega)) <;> (try conv => whnf)) | (refine hx.draw 400 (by kernel_rfl) ?_ <;> conv => whnf) | (refine hx.next 400 rfl ?_ <;> conv => whnf)
      all_goals try first | exact ⟨by decide⟩ | exact hin (by omega) | exact ⟨by omega⟩ | exact ⟨⟨by omega, by omega⟩⟩ | exact ⟨by omega, by omega⟩ | (exfalso; omega)
      all_goals try (simp only [List.length_take, List.length_drop, List.length_append, List.length_cons, List.length_nil, List.length_replicate, List.length_set, Ty.bytes, big, Nat.zero_add, Nat.add_zero]; first | exact hin (by omega) | exact ⟨by omega⟩ | exact ⟨⟨by omega, by omega⟩⟩ | exact ⟨by omega, by omega⟩)
      · have hlt : i < xs.length := by omega
        refine ⟨i + 1, by ((try dsimp only); first | trivial | omega | ((repeat' apply And.intro) <;> omega)), by first | omega | ((try dsimp only); (try simp only [List.length_append, List.length_cons, List.length_nil]); omega), StLe.upd ?_⟩
        conv => whnf
        repeat' first | exact trivial | exact .refl _ | exact .nilsl _ | exact .tt _ rfl | exact .ff _ rfl | exact .tb _ rfl | exact .fb _ rfl | exact .row _ _ _ _ rfl | (refine And.intro ?_ ?_ <;> try conv => whnf)
        all_goals try first | exact sameI (by omega) | exact sameI rfl | (refine sameI ?_; simp only [List.length_append, List.length_cons, List.length_nil]; omega)
        refine sameRow ?_
        rw [show 0 + (i : Int).toNat = i by omega]
        refine Eq.trans ?_ (set_take hlt Ty.inst.dflt)
        congr 1
        rw [nat_toNat, List.getD_eq_getElem?_getD, List.getElem?_eq_getElem hlt]
        rfl
      · have : i = xs.length := by omega
        subst this
        exact ansS hS (by rw [List.take_length, Nat.sub_self]; exact List.append_nil _)
  · exact hS.elim
end Go.Proofs.Ytdpgdeaefmghiaa.Sx

/- Printed by gen2.py: contracts of functions. -/
namespace Go.Proofs.Ytdpgdeaefmghiaa.Sx
open Go.Proofs
set_option maxRecDepth 20000
set_option maxHeartbeats 4000000
set_option linter.unusedSimpArgs false
set_option linter.unusedVariables false
def listR : Nat → Nat → List UInt8 → Except (Int × Int) (List Inst × List UInt8)
  | 0, _, bs => .ok ([], bs)
  | n + 1, k, bs => match instR bs with
    | .error e => .error (e, k)
    | .ok (i, r) => match listR n (k + 1) r with
      | .error e => .error e
      | .ok (xs, r') => .ok (i :: xs, r')
def listFrom (acc : List Inst) (n : Nat) (bs : List UInt8) : Except (Int × Int) (List Inst × List UInt8) := match listR n acc.length bs with
  | .error e => .error e
  | .ok (xs, r) => .ok (acc ++ xs, r)
theorem listFrom_nil (n : Nat) (bs : List UInt8) : listFrom [] n bs = listR n 0 bs := by unfold listFrom; rw [List.length_nil]; split <;> simp_all
theorem listFrom_ok {acc : List Inst} {n : Nat} {bs r : List UInt8} {i : Inst} (h : instR bs = .ok (i, r)) : listFrom acc (n + 1) bs = listFrom (acc ++ [i]) n r := by
  unfold listFrom; rw [listR, h, List.length_append]; simp only [List.length_cons, List.length_nil]; cases listR n (acc.length + (0 + 1)) r with
  | error e => rfl
  | ok p => obtain ⟨xs, r'⟩ := p; simp
theorem listFrom_err {acc : List Inst} {n : Nat} {bs : List UInt8} {e : Int} (h : instR bs = .error e) : listFrom acc (n + 1) bs = .error (e, acc.length) := by
  unfold listFrom; rw [listR, h]
theorem listFrom_0 {acc : List Inst} {bs : List UInt8} : listFrom acc 0 bs = .ok (acc, bs) := by simp [listFrom, listR]
def bodyR (many : Nat) (bs : List UInt8) : Except (Int × Int) (List Inst) := match listR many 0 bs with
  | .error e => .error e
  | .ok (xs, r) => if r = [] then .ok xs else .error (7, many)
def headOk (d : List UInt8) : Prop := 8 ≤ d.length ∧ d.length ≤ 20008 ∧ (d.getD 0 (0 : UInt8)).toNat = 83 ∧ (d.getD 1 (0 : UInt8)).toNat = 116 ∧ beN ((d.take 4).drop 2) = d.length
instance (d : List UInt8) : Decidable (headOk d) := by unfold headOk; infer_instance
def readR (d : List UInt8) : Except (Int × Int) (List Inst) :=
  if headOk d then
    if beN (d.drop (d.length - 2)) = crcN (d.take (d.length - 2)) then
      if 1000 < beN ((d.take 6).drop 4) then .error (1, 0) else bodyR (beN ((d.take 6).drop 4)) ((d.take (d.length - 2)).drop 6)
    else .error (5, 0)
  else .error (4, 0)
theorem readR_4 {d : List UInt8} (h : ¬ headOk d) : readR d = .error (4, 0) := if_neg h
theorem readR_5 {d : List UInt8} (h : headOk d) (h2 : ¬ beN (d.drop (d.length - 2)) = crcN (d.take (d.length - 2))) : readR d = .error (5, 0) := by unfold readR; rw [if_pos h, if_neg h2]
theorem readR_1 {d : List UInt8} (h : headOk d) (h2 : beN (d.drop (d.length - 2)) = crcN (d.take (d.length - 2))) (h3 : 1000 < beN ((d.take 6).drop 4)) : readR d = .error (1, 0) := by unfold readR; rw [if_pos h, if_pos h2, if_pos h3]
theorem readR_b {d : List UInt8} (h : headOk d) (h2 : beN (d.drop (d.length - 2)) = crcN (d.take (d.length - 2))) (h3 : ¬ 1000 < beN ((d.take 6).drop 4)) : readR d = bodyR (beN ((d.take 6).drop 4)) ((d.take (d.length - 2)).drop 6) := by unfold readR; rw [if_pos h, if_pos h2, if_neg h3]
theorem bodyR_e {many : Nat} {bs : List UInt8} {e : Int × Int} (h : listR many 0 bs = .error e) : bodyR many bs = .error e := by unfold bodyR; rw [h]
theorem bodyR_o {many : Nat} {bs r : List UInt8} {xs : List Inst} (h : listR many 0 bs = .ok (xs, r)) (hr : r = []) : bodyR many bs = .ok xs := by unfold bodyR; rw [h]; exact if_pos hr
theorem bodyR_r {many : Nat} {bs r : List UInt8} {xs : List Inst} (h : listR many 0 bs = .ok (xs, r)) (hr : ¬ r = []) : bodyR many bs = .error (7, many) := by unfold bodyR; rw [h]; exact if_neg hr
theorem two_be {x : List UInt8} (h : x.length = 2) : (((x.getD 0 (0 : UInt8) : UInt8).toNat : Int) * 256 + ((x.getD 1 (0 : UInt8) : UInt8).toNat : Int)) = (beN x : Int) := by
  rcases x with _ | ⟨a, _ | ⟨b, _ | ⟨c, x⟩⟩⟩ <;> simp_all [beN]
theorem instR_none {bs r : List UInt8} {i : Inst} (h : instR bs = .ok (i, r)) (hh : hasOne i.code = false) : i = ⟨i.code, ⟨0, []⟩⟩ := by
  unfold instR at h
  split at h
  · cases h
  · split at h
    · cases h
    · split at h
      · injection h with h; injection h with h1 h2; subst h1; rfl
      · rename_i hn
        split at h
        · cases h
        · split at h
          · cases h
          · split at h
            · cases h
            · injection h with h; injection h with h1 h2; subst h1; exact absurd hh hn
theorem dflt_u8 : (Ty.u8.dflt : UInt8) = 0 := rfl
noncomputable def S_spec_PicRead : Spec := fun args sub K => match args, sub with
  | [.v (.sl .u8 d)], [] => (∀ c a : Int, readR d = .error (c, a) → 0 < c → K (.tup [.v .nil, .agg [.int .i64 c, .int .i64 a]]) []) ∧ (∀ xs : List Inst, readR d = .ok xs → K (.tup [.v (.sl .inst xs), .agg [.int .i64 0, .int .i64 0]]) [])
  | _, _ => False
theorem S_spec_PicRead_mono : Mono S_spec_PicRead := by
  intro args sub K K' hk h
  unfold S_spec_PicRead at h ⊢
  repeat' first | exact hk _ _ h | exact h.elim | exact ⟨fun hc => hk _ _ (h.1 hc), fun hc => hk _ _ (h.2 hc)⟩ | (refine ⟨h.1, ?_⟩; replace h := h.2) | (intro hc; replace h := h hc) | (refine And.imp ?_ ?_ h <;> clear h <;> intro h) | split at h
noncomputable abbrev E_spec_PicRead : Ent := ⟨nrm [[some .u8]] S_spec_PicRead, false⟩
theorem g_spec_PicRead : Good CA 6 E_spec_PicRead := by
  refine Good.nrm _ (fn_go (ex := 4) (l := [(16, E_spec_l17Two), (17, E_spec_PicSum), (18, E_p_spec_l17In_inst)]) (bor := []) CA_td CA_eq CA_mix ⟨g_spec_l17Two, g_spec_PicSum, g_p_spec_l17In_inst, trivial⟩ Try.func6 rfl (by simp [Try.f6]) S_spec_PicRead_mono fun args sub K hS hA hO => ?_)
  unfold S_spec_PicRead at hS
  split at hS
  · rename_i d
    refine ⟨by simp [Try.f6], fun E hx hnb => ?_⟩
    replace hx : Fx CA (hyOf [(16, E_spec_l17Two), (17, E_spec_PicSum), (18, E_p_spec_l17In_inst)] []) 0 98 E := hx
    obtain ⟨hE, hS⟩ := hS
    have hbl : d.length ≤ big := by have h := (hA (.v (.sl .u8 d)) (by simp) : Ok (.sl .u8) d).1; exact Nat.le_trans (Nat.le_mul_of_pos_right _ Ty.u8.bytes_pos) h
    unfold big at hbl
    have e2 : ((d.length : Int) - 2).toNat = d.length - 2 := by omega
    have eb : 8 ≤ d.length → (List.drop 2 (List.take 4 d)).length = 2 := fun h => by rw [List.length_drop, List.length_take]; omega
    have ec : 8 ≤ d.length → (List.drop 4 (List.take 6 d)).length = 2 := fun h => by rw [List.length_drop, List.length_take]; omega
    have ee : 8 ≤ d.length → (List.drop (d.length - 2) d).length = 2 := fun h => by rw [List.length_drop]; omega
    refine hx.next 400 rfl ?_
    conv => whnf
    repeat' first | exact SameX.refl _ | exact trivial | (refine And.intro ?_ ?_ <;> first | (intro hb <;> (try simp only [decide_eq_true_eq, decide_eq_false_iff_not, Bool.not_eq_true', Bool.not_eq_false', Bool.and_eq_true, Bool.or_eq_true, Bool.and_eq_false_iff, Bool.or_eq_false_iff, Bool.not_true, Bool.not_false, reduceCtorEq, Bool.true_and, Bool.and_true, Bool.false_and, Bool.and_false, ne_eq, not_or, not_true_eq_false, not_false_eq_true, false_or, or_false, true_and, and_true, false_and, and_false, Int.natCast_zero, Int.natCast_add, Int.natCast_one, List.length_nil, List.length_cons, List.length_take, List.length_drop, List.length_replicate, List.length_append, List.length_set, Nat.zero_add] at hb) <;> (try (exfalso; omega)) <;> (try conv => whnf)) | (conv => whnf) | skip) | (intro hb <;> (try simp only [decide_eq_true_eq, decide_eq_false_iff_not, Bool.not_eq_true', Bool.not_eq_false', Bool.and_eq_true, Bool.or_eq_true, Bool.and_eq_false_iff, Bool.or_eq_false_iff, Bool.not_true, Bool.not_false, reduceCtorEq, Bool.true_and, Bool.and_true, Bool.false_and, Bool.and_false, ne_eq, not_or, not_true_eq_false, not_false_eq_true, false_or, or_false, true_and, and_true, false_and, and_false, Int.natCast_zero, Int.natCast_add, Int.natCast_one, List.length_nil, List.length_cons, List.length_take, List.length_drop, List.length_replicate, List.length_append, List.length_set, Nat.zero_add] at hb) <;> (try (exfalso; omega)) <;> (try conv => whnf)) | (refine hx.draw 400 (by kernel_rfl) ?_ <;> conv => whnf) | (refine hx.next 400 rfl ?_ <;> conv => whnf)
    all_goals try first | exact ⟨by decide⟩ | exact hin (by omega) | exact ⟨by omega⟩ | exact ⟨⟨by omega, by omega⟩⟩ | exact ⟨by omega, by omega⟩ | (exfalso; omega)
    all_goals try (simp only [List.length_take, List.length_drop, List.length_append, List.length_cons, List.length_nil, List.length_replicate, List.length_set, Ty.bytes, big, Nat.zero_add, Nat.add_zero]; first | exact hin (by omega) | exact ⟨by omega⟩ | exact ⟨⟨by omega, by omega⟩⟩ | exact ⟨by omega, by omega⟩)
    all_goals try simp only [e2] at *
    all_goals try simp only [Int.reduceToNat, dflt_u8] at *
    · exact hE 4 0 (readR_4 fun h => by unfold headOk at h; omega) (by omega)
    · exact hE 4 0 (readR_4 fun h => by unfold headOk at h; omega) (by omega)
    · exact hE 4 0 (readR_4 fun h => by unfold headOk at h; omega) (by omega)
    · exact hE 4 0 (readR_4 fun h => by unfold headOk at h; omega) (by omega)
    · exact hE 4 0 (readR_4 fun h => by rw [two_be (eb (by omega))] at hb; unfold headOk at h; omega) (by omega)
    all_goals rw [two_be (eb (by omega)), two_be (ee (by omega))] at *
    · exact hE 5 0 (readR_5 ⟨by omega, by omega, by omega, by omega, by omega⟩ (by omega)) (by omega)
    · rw [two_be (ec (by omega))] at *
      exact hE 1 0 (readR_1 ⟨by omega, by omega, by omega, by omega, by omega⟩ (by omega) (by omega)) (by omega)
    · rw [two_be (ec (by omega))] at *
      have hrd := readR_b (d := d) ⟨by omega, by omega, by omega, by omega, by omega⟩ (by omega) (by omega)
      have hbd : (List.drop 6 (List.take (d.length - 2) d)).length ≤ 20008 := by rw [List.length_drop, List.length_take]; omega
      have hmany : beN (List.drop 4 (List.take 6 d)) ≤ 1000 := by omega
      generalize beN (List.drop 4 (List.take 6 d)) = many at *
      generalize List.drop 6 (List.take (d.length - 2) d) = bs at *
      refine Safe.loopUP (Y := List Inst × Nat) (fun y => [(2, .v .any), (7, .v (.full 64)), (8, N64 (y.1.length : Int)), (9, .v .any), (10, .v .any), (64, A), (65, .v .any), (66, .v .any), (67, .v .any), (68, .v .any), (69, .v .any), (70, .v .any), (71, .v .any), (72, .v .any), (73, .v .any), (74, .v .any), (75, .v .any), (76, .v .any), (77, .v .any), (78, .v .any), (79, .v .any), (80, .v .any), (81, .v .any), (82, .v .any), (83, .v .any)]) (fun y => [(2, none), (7, none), (8, none), (9, none), (10, none), (63, some (.box [.sl .u8 bs, .int .i64 (y.2 : Int)])), (64, some (.row eInst .inst y.1)), (65, none), (66, none), (67, none), (68, none), (69, none), (70, none), (71, none), (72, none), (73, none), (74, none), (75, none), (76, none), (77, none), (78, none), (79, none), (80, none), (81, none), (82, none), (83, none)]) (fun y => y.2 ≤ bs.length ∧ y.1.length ≤ many ∧ listR many 0 bs = listFrom y.1 (many - y.1.length) (bs.drop y.2)) (fun y => many - y.1.length) (([], 0)) ?_ (StLe.upd ?_) fun y hP => ?_
      · exact ⟨by omega, by simp, by rw [listFrom_nil]; rfl⟩
      · conv => whnf
        repeat' first | exact trivial | exact .refl _ | exact .nilsl _ | exact .tt _ rfl | exact .ff _ rfl | exact .tb _ rfl | exact .fb _ rfl | exact .row _ _ _ _ rfl | (refine And.intro ?_ ?_ <;> try conv => whnf)
        all_goals try first | exact sameI (by omega) | exact sameI rfl | (refine sameI ?_; simp only [List.length_append, List.length_cons, List.length_nil]; omega)
      · try dsimp only at hP
        obtain ⟨q1, q2, q3⟩ := hP
        refine hx.next 400 rfl ?_
        conv => whnf
        repeat' first | exact SameX.refl _ | exact trivial | (refine And.intro ?_ ?_ <;> first | (intro hb <;> (try simp only [decide_eq_true_eq, decide_eq_false_iff_not, Bool.not_eq_true', Bool.not_eq_false', Bool.and_eq_true, Bool.or_eq_true, Bool.and_eq_false_iff, Bool.or_eq_false_iff, Bool.not_true, Bool.not_false, reduceCtorEq, Bool.true_and, Bool.and_true, Bool.false_and, Bool.and_false, ne_eq, not_or, not_true_eq_false, not_false_eq_true, false_or, or_false, true_and, and_true, false_and, and_false, Int.natCast_zero, Int.natCast_add, Int.natCast_one, List.length_nil, List.length_cons, List.length_take, List.length_drop, List.length_replicate, List.length_append, List.length_set, Nat.zero_add] at hb) <;> (try (exfalso; omega)) <;> (try conv => whnf)) | (conv => whnf) | skip) | (intro hb <;> (try simp only [decide_eq_true_eq, decide_eq_false_iff_not, Bool.not_eq_true', Bool.not_eq_false', Bool.and_eq_true, Bool.or_eq_true, Bool.and_eq_false_iff, Bool.or_eq_false_iff, Bool.not_true, Bool.not_false, reduceCtorEq, Bool.true_and, Bool.and_true, Bool.false_and, Bool.and_false, ne_eq, not_or, not_true_eq_false, not_false_eq_true, false_or, or_false, true_and, and_true, false_and, and_false, Int.natCast_zero, Int.natCast_add, Int.natCast_one, List.length_nil, List.length_cons, List.length_take, List.length_drop, List.length_replicate, List.length_append, List.length_set, Nat.zero_add] at hb) <;> (try (exfalso; omega)) <;> (try conv => whnf)) | (refine hx.draw 400 (by kernel_rfl) ?_ <;> conv => whnf) | (refine hx.next 400 rfl ?_ <;> conv => whnf)
        all_goals try first | exact ⟨by decide⟩ | exact hin (by omega) | exact ⟨by omega⟩ | exact ⟨⟨by omega, by omega⟩⟩ | exact ⟨by omega, by omega⟩ | (exfalso; omega)
        all_goals try (simp only [List.length_take, List.length_drop, List.length_append, List.length_cons, List.length_nil, List.length_replicate, List.length_set, Ty.bytes, big, Nat.zero_add, Nat.add_zero]; first | exact hin (by omega) | exact ⟨by omega⟩ | exact ⟨⟨by omega, by omega⟩⟩ | exact ⟨by omega, by omega⟩)
        · rename_i hlt e p' he _
          have hst : many - y.1.length = (many - (y.1.length + 1)) + 1 := by omega
          rw [hst] at q3
          exact hE _ _ (hrd.trans (bodyR_e (q3.trans (listFrom_err he)))) (by omega)
        · rename_i hlt i p' hi h1 _ hno
          have hst : many - y.1.length = (many - (y.1.length + 1)) + 1 := by omega
          rw [hst] at q3
          have hin := instR_none hi hno
          have hla : (y.1 ++ [i]).length = y.1.length + 1 := by simp
          refine ⟨(y.1 ++ [i], p'.toNat), ?_, by first | omega | ((try dsimp only); (try simp only [List.length_append, List.length_cons, List.length_nil]); omega), StLe.swapU 83 64 (hx.hnp _ (by omega)) (hx.hnp _ (by omega)) rfl rfl ?_⟩
          · dsimp only
            refine ⟨by omega, by omega, ?_⟩
            rw [hla]
            exact q3.trans (listFrom_ok hi)
          conv => whnf
          repeat' first | exact trivial | exact .refl _ | exact .nilsl _ | exact .tt _ rfl | exact .ff _ rfl | exact .tb _ rfl | exact .fb _ rfl | exact .row _ _ _ _ rfl | (refine And.intro ?_ ?_ <;> try conv => whnf)
          all_goals try first | exact sameI (by omega) | exact sameI rfl | (refine sameI ?_; simp only [List.length_append, List.length_cons, List.length_nil]; omega)
          all_goals (refine sameRow ?_; show y.1 ++ [_] = y.1 ++ [i]; rw [hin])
        · rename_i hlt i p' hi h1 _ hno
          have hst : many - y.1.length = (many - (y.1.length + 1)) + 1 := by omega
          rw [hst] at q3
          have hla : (y.1 ++ [i]).length = y.1.length + 1 := by simp
          refine ⟨(y.1 ++ [i], p'.toNat), ?_, by first | omega | ((try dsimp only); (try simp only [List.length_append, List.length_cons, List.length_nil]); omega), StLe.swapU 83 64 (hx.hnp _ (by omega)) (hx.hnp _ (by omega)) rfl rfl ?_⟩
          · dsimp only
            refine ⟨by omega, by omega, ?_⟩
            rw [hla]
            exact q3.trans (listFrom_ok hi)
          conv => whnf
          repeat' first | exact trivial | exact .refl _ | exact .nilsl _ | exact .tt _ rfl | exact .ff _ rfl | exact .tb _ rfl | exact .fb _ rfl | exact .row _ _ _ _ rfl | (refine And.intro ?_ ?_ <;> try conv => whnf)
          all_goals try first | exact sameI (by omega) | exact sameI rfl | (refine sameI ?_; simp only [List.length_append, List.length_cons, List.length_nil]; omega)
        · have h0 : many - y.1.length = 0 := by omega
          rw [h0, listFrom_0] at q3
          exact hE _ _ (hrd.trans (bodyR_r q3 (fun e => by have := congrArg List.length e; rw [List.length_drop] at this; simp only [List.length_nil] at this; omega))) (by omega)
        · have h0 : many - y.1.length = 0 := by omega
          rw [h0, listFrom_0] at q3
          exact hS _ (hrd.trans (bodyR_o q3 (List.drop_eq_nil_of_le (by omega))))
  · exact hS.elim
end Go.Proofs.Ytdpgdeaefmghiaa.Sx

/- Printed by gen2.py: contracts of functions. -/
namespace Go.Proofs.Ytdpgdeaefmghiaa.Sx
open Go.Proofs
set_option maxRecDepth 20000
set_option maxHeartbeats 4000000
set_option linter.unusedSimpArgs false
set_option linter.unusedVariables false
theorem bitsXor16 {a b : Nat} (ha : a < 65536) (hb : b < 65536) : bitsZ .xor .u16 (a : Int) (b : Int) = ((a ^^^ b : Nat) : Int) := by
  have hx : a ^^^ b < 2 ^ 16 := Nat.xor_lt_two_pow (by omega) (by omega)
  have : (BitVec.ofInt IntKind.u16.bits (a : Int) ^^^ BitVec.ofInt IntKind.u16.bits (b : Int)).toNat = a ^^^ b := by
    rw [BitVec.ofInt_natCast, BitVec.ofInt_natCast, BitVec.toNat_xor, BitVec.toNat_ofNat, BitVec.toNat_ofNat]
    show a % 2 ^ 16 ^^^ b % 2 ^ 16 = _
    rw [Nat.mod_eq_of_lt (by omega), Nat.mod_eq_of_lt (by omega)]
  show IntKind.u16.wrap _ = _
  rw [this]
  exact wrap_in ⟨by simp only [lo]; omega, by simp only [Go.Proofs.Ytdpgdeaefmghiaa.Sx.hi]; omega⟩
theorem wrap16 {e : Int} (h : 0 ≤ e ∧ e ≤ 65535) : IntKind.u16.wrap e = e := wrap_in ⟨h.1, h.2⟩
theorem wrap16m (n : Nat) : IntKind.u16.wrap (n : Int) = ((n % 65536 : Nat) : Int) := by
  simp only [IntKind.wrap, IntKind.bits, IntKind.signed, Bool.false_and, Bool.false_eq_true, if_false]
  show (n : Int) % 65536 = _; omega
theorem xorByte {c : Nat} {b : UInt8} (hc : c < 65536) : bitsZ .xor .u16 (c : Int) (IntKind.u16.wrap (((b.toNat : Nat) : Int) * 2 ^ min (8 : Int).toNat IntKind.u16.bits)) = (((c ^^^ (b.toNat * 256)) % 65536 : Nat) : Int) := by
  have hb := UInt8.toNat_lt b
  have e : ((b.toNat : Nat) : Int) * 2 ^ min (8 : Int).toNat IntKind.u16.bits = ((b.toNat * 256 : Nat) : Int) := by
    show ((b.toNat : Nat) : Int) * 2 ^ 8 = _; omega
  rw [e, wrap16 (by omega), bitsXor16 hc (by omega), Nat.mod_eq_of_lt]
  exact Nat.xor_lt_two_pow (n := 16) (by omega) (by omega)
theorem shr15 (x : Nat) : (x : Int).fdiv (2 ^ min (15 : Int).toNat IntKind.u16.bits) = ((x / 32768 : Nat) : Int) := by
  show (x : Int).fdiv (2 ^ 15) = _
  rw [Int.fdiv_eq_ediv_of_nonneg _ (by omega)]; omega
theorem shl1 {x : Nat} : IntKind.u16.wrap ((x : Int) * 2 ^ min (1 : Int).toNat IntKind.u16.bits) = ((x * 2 % 65536 : Nat) : Int) := by
  show IntKind.u16.wrap ((x : Int) * 2 ^ 1) = _
  have : (x : Int) * 2 ^ 1 = ((x * 2 : Nat) : Int) := by omega
  rw [this, wrap16m]
theorem step_hi {x : Nat} (hx : x < 65536) (h : x / 32768 = 1) : bitsZ .xor .u16 ((x * 2 % 65536 : Nat) : Int) 4129 = ((stepN x : Nat) : Int) := by
  have := bitsXor16 (a := x * 2 % 65536) (b := 4129) (by omega) (by omega)
  rw [show ((4129 : Nat) : Int) = 4129 from rfl] at this
  rw [this]
  unfold stepN
  rw [if_pos (by omega), show x * 2 % 65536 = x * 2 - 65536 by omega, Nat.mod_eq_of_lt (b := 65536)]
  exact Nat.xor_lt_two_pow (n := 16) (by omega) (by omega)
theorem step_lo {x : Nat} (hx : x < 65536) (h : ¬ x / 32768 = 1) : x * 2 % 65536 = stepN x := by
  unfold stepN; rw [if_neg (by omega), Nat.mod_eq_of_lt (by omega)]
abbrev NU16 (n : Int) : X := .v (.int .u16 n)
noncomputable def S_impl_PicSum : Spec := fun args sub K => match args, sub with
  | [.v (.sl .u8 b)], [] => K (.v (.int .u16 (crcN b : Int))) []
  | _, _ => False
theorem S_impl_PicSum_mono : Mono S_impl_PicSum := by
  intro args sub K K' hk h
  unfold S_impl_PicSum at h ⊢
  repeat' first | exact hk _ _ h | exact h.elim | exact ⟨fun hc => hk _ _ (h.1 hc), fun hc => hk _ _ (h.2 hc)⟩ | (refine ⟨h.1, ?_⟩; replace h := h.2) | (intro hc; replace h := h hc) | (refine And.imp ?_ ?_ h <;> clear h <;> intro h) | split at h
noncomputable abbrev E_impl_PicSum : Ent := ⟨nrm [[some .u8]] S_impl_PicSum, false⟩
theorem g_impl_PicSum : Good CA 21 E_impl_PicSum := by
  refine Good.nrm _ (fn_go (ex := 4) (l := []) (bor := []) CA_td CA_eq CA_mix trivial Try.func21 rfl (by simp [Try.f21]) S_impl_PicSum_mono fun args sub K hS hA hO => ?_)
  unfold S_impl_PicSum at hS
  split at hS
  · rename_i b
    refine ⟨by simp [Try.f21], fun E hx hnb => ?_⟩
    replace hx : Fx CA (hyOf [] []) 0 31 E := hx
    have hok := (hA (.v (.sl .u8 b)) (by simp) : Ok (.sl .u8) b)
    have hbl : b.length ≤ big := by have h := hok.1; exact Nat.le_trans (Nat.le_mul_of_pos_right _ Ty.u8.bytes_pos) h
    unfold big at hbl
    refine hx.next 400 rfl ?_
    conv => whnf
    repeat' first | exact SameX.refl _ | exact trivial | (refine And.intro ?_ ?_ <;> first | (intro hb <;> (try simp only [decide_eq_true_eq, decide_eq_false_iff_not, Bool.not_eq_true', Bool.not_eq_false', Bool.and_eq_true, Bool.or_eq_true, Bool.and_eq_false_iff, Bool.or_eq_false_iff, Bool.not_true, Bool.not_false, reduceCtorEq, Bool.true_and, Bool.and_true, Bool.false_and, Bool.and_false, ne_eq, not_or, not_true_eq_false, not_false_eq_true, false_or, or_false, true_and, and_true, false_and, and_false, Int.natCast_zero, Int.natCast_add, Int.natCast_one, List.length_nil, List.length_cons, List.length_take, List.length_drop, List.length_replicate, List.length_append, List.length_set, Nat.zero_add] at hb) <;> (try (exfalso; omega)) <;> (try conv => whnf)) | (conv => whnf) | skip) | (intro hb <;> (try simp only [decide_eq_true_eq, decide_eq_false_iff_not, Bool.not_eq_true', Bool.not_eq_false', Bool.and_eq_true, Bool.or_eq_true, Bool.and_eq_false_iff, Bool.or_eq_false_iff, Bool.not_true, Bool.not_false, reduceCtorEq, Bool.true_and, Bool.and_true, Bool.false_and, Bool.and_false, ne_eq, not_or, not_true_eq_false, not_false_eq_true, false_or, or_false, true_and, and_true, false_and, and_false, Int.natCast_zero, Int.natCast_add, Int.natCast_one, List.length_nil, List.length_cons, List.length_take, List.length_drop, List.length_replicate, List.length_append, List.length_set, Nat.zero_add] at hb) <;> (try (exfalso; omega)) <;> (try conv => whnf)) | (refine hx.draw 400 (by kernel_rfl) ?_ <;> conv => whnf) | (refine hx.next 400 rfl ?_ <;> conv => whnf)
    all_goals try first | exact ⟨by decide⟩ | exact hin (by omega) | exact ⟨by omega⟩ | exact ⟨⟨by omega, by omega⟩⟩ | exact ⟨by omega, by omega⟩ | (exfalso; omega)
    refine Safe.loopUP (Y := Nat) (fun i => [(3, NU16 (crcN (b.take i) : Int)), (5, .v .any), (6, .v .any), (9, N64 (i : Int)), (10, .v .any), (11, .v .any), (12, .v .any), (13, .v .any), (14, .v .any), (15, .v .any), (16, .v .any), (17, .v .any), (18, .v .any), (19, .v .any), (20, .v .any), (21, .v .any), (22, .v .any), (23, .v .any), (24, .v .any), (25, .v .any), (26, .v .any), (27, .v .any), (28, .v .any), (29, .v .any)]) (fun i => [(3, none), (5, none), (6, none), (9, none), (10, none), (11, none), (12, none), (13, none), (14, none), (15, none), (16, none), (17, none), (18, none), (19, none), (20, none), (21, none), (22, none), (23, none), (24, none), (25, none), (26, none), (27, none), (28, none), (29, none)]) (fun i => i ≤ b.length) (fun i => b.length - i) (0) ?_ (StLe.upd ?_) fun i hP => ?_
    · first | trivial | ((try dsimp only); first | trivial | omega | ((repeat' apply And.intro) <;> omega) | (simp; done))
    · conv => whnf
      repeat' first | exact trivial | exact .refl _ | exact .nilsl _ | exact .tt _ rfl | exact .ff _ rfl | exact .tb _ rfl | exact .fb _ rfl | exact .row _ _ _ _ rfl | (refine And.intro ?_ ?_ <;> try conv => whnf)
      all_goals try first | exact sameI (by omega) | exact sameI rfl | (refine sameI ?_; simp only [List.length_append, List.length_cons, List.length_nil]; omega)
    · try dsimp only at hP
      refine hx.next 400 rfl ?_
      conv => whnf
      repeat' first | exact SameX.refl _ | exact trivial | (refine And.intro ?_ ?_ <;> first | (intro hb <;> (try simp only [decide_eq_true_eq, decide_eq_false_iff_not, Bool.not_eq_true', Bool.not_eq_false', Bool.and_eq_true, Bool.or_eq_true, Bool.and_eq_false_iff, Bool.or_eq_false_iff, Bool.not_true, Bool.not_false, reduceCtorEq, Bool.true_and, Bool.and_true, Bool.false_and, Bool.and_false, ne_eq, not_or, not_true_eq_false, not_false_eq_true, false_or, or_false, true_and, and_true, false_and, and_false, Int.natCast_zero, Int.natCast_add, Int.natCast_one, List.length_nil, List.length_cons, List.length_take, List.length_drop, List.length_replicate, List.length_append, List.length_set, Nat.zero_add] at hb) <;> (try (exfalso; omega)) <;> (try conv => whnf)) | (conv => whnf) | skip) | (intro hb <;> (try simp only [decide_eq_true_eq, decide_eq_false_iff_not, Bool.not_eq_true', Bool.not_eq_false', Bool.and_eq_true, Bool.or_eq_true, Bool.and_eq_false_iff, Bool.or_eq_false_iff, Bool.not_true, Bool.not_false, reduceCtorEq, Bool.true_and, Bool.and_true, Bool.false_and, Bool.and_false, ne_eq, not_or, not_true_eq_false, not_false_eq_true, false_or, or_false, true_and, and_true, false_and, and_false, Int.natCast_zero, Int.natCast_add, Int.natCast_one, List.length_nil, List.length_cons, List.length_take, List.length_drop, List.length_replicate, List.length_append, List.length_set, Nat.zero_add] at hb) <;> (try (exfalso; omega)) <;> (try conv => whnf)) | (refine hx.draw 400 (by kernel_rfl) ?_ <;> conv => whnf) | (refine hx.next 400 rfl ?_ <;> conv => whnf)
      all_goals try first | exact ⟨by decide⟩ | exact hin (by omega) | exact ⟨by omega⟩ | exact ⟨⟨by omega, by omega⟩⟩ | exact ⟨by omega, by omega⟩ | (exfalso; omega)
      · have hlt : i < b.length := by omega
        have hcl := crcN_lt (b.take i)
        have hx0 : (crcN (b.take i) ^^^ ((b[i] : UInt8).toNat * 256)) % 65536 < 65536 := Nat.mod_lt _ (by omega)
        refine Safe.loopUP (Y := Nat) (fun j => [(3, NU16 (steps j ((crcN (b.take i) ^^^ ((b[i] : UInt8).toNat * 256)) % 65536) : Int)), (6, .v .any), (18, N64 (j : Int)), (19, .v .any), (20, .v .any), (21, .v .any), (22, .v .any), (23, .v .any), (24, .v .any), (25, .v .any), (26, .v .any), (27, .v .any), (28, .v .any)]) (fun j => [(3, none), (6, none), (18, none), (19, none), (20, none), (21, none), (22, none), (23, none), (24, none), (25, none), (26, none), (27, none), (28, none)]) (fun j => j ≤ 8) (fun j => 8 - j) (0) ?_ (StLe.upd ?_) fun j hP => ?_
        · first | trivial | ((try dsimp only); first | trivial | omega | ((repeat' apply And.intro) <;> omega) | (simp; done))
        · conv => whnf
          repeat' first | exact trivial | exact .refl _ | exact .nilsl _ | exact .tt _ rfl | exact .ff _ rfl | exact .tb _ rfl | exact .fb _ rfl | exact .row _ _ _ _ rfl | (refine And.intro ?_ ?_ <;> try conv => whnf)
          all_goals try first | exact sameI (by omega) | exact sameI rfl | (refine sameI ?_; simp only [List.length_append, List.length_cons, List.length_nil]; omega)
          refine sameI ?_
          rw [nat_toNat, getD_u8 hlt]
          exact xorByte hcl
        · try dsimp only at hP
          have hst := steps_lt hx0 j
          generalize hx0e : (crcN (b.take i) ^^^ ((b[i] : UInt8).toNat * 256)) % 65536 = x0 at *
          refine hx.next 400 rfl ?_
          conv => whnf
          repeat' first | exact SameX.refl _ | exact trivial | (refine And.intro ?_ ?_ <;> first | (intro hb <;> (try simp only [decide_eq_true_eq, decide_eq_false_iff_not, Bool.not_eq_true', Bool.not_eq_false', Bool.and_eq_true, Bool.or_eq_true, Bool.and_eq_false_iff, Bool.or_eq_false_iff, Bool.not_true, Bool.not_false, reduceCtorEq, Bool.true_and, Bool.and_true, Bool.false_and, Bool.and_false, ne_eq, not_or, not_true_eq_false, not_false_eq_true, false_or, or_false, true_and, and_true, false_and, and_false, Int.natCast_zero, Int.natCast_add, Int.natCast_one, List.length_nil, List.length_cons, List.length_take, List.length_drop, List.length_replicate, List.length_append, List.length_set, Nat.zero_add] at hb) <;> (try (exfalso; omega)) <;> (try conv => whnf)) | (conv => whnf) | skip) | (intro hb <;> (try simp only [decide_eq_true_eq, decide_eq_false_iff_not, Bool.not_eq_true', Bool.not_eq_false', Bool.and_eq_true, Bool.or_eq_true, Bool.and_eq_false_iff, Bool.or_eq_false_iff, Bool.not_true, Bool.not_false, reduceCtorEq, Bool.true_and, Bool.and_true, Bool.false_and, Bool.and_false, ne_eq, not_or, not_true_eq_false, not_false_eq_true, false_or, or_false, true_and, and_true, false_and, and_false, Int.natCast_zero, Int.natCast_add, Int.natCast_one, List.length_nil, List.length_cons, List.length_take, List.length_drop, List.length_replicate, List.length_append, List.length_set, Nat.zero_add] at hb) <;> (try (exfalso; omega)) <;> (try conv => whnf)) | (refine hx.draw 400 (by kernel_rfl) ?_ <;> conv => whnf) | (refine hx.next 400 rfl ?_ <;> conv => whnf)
          all_goals try simp only [shr15, shl1] at *
          all_goals try first | exact ⟨by decide⟩ | exact hin (by omega) | exact ⟨by omega⟩ | exact ⟨⟨by omega, by omega⟩⟩ | exact ⟨by omega, by omega⟩ | (exfalso; omega)
          · refine ⟨j + 1, by ((try dsimp only); first | trivial | omega | ((repeat' apply And.intro) <;> omega)), by first | omega | ((try dsimp only); (try simp only [List.length_append, List.length_cons, List.length_nil]); omega), StLe.upd ?_⟩
            conv => whnf
            repeat' first | exact trivial | exact .refl _ | exact .nilsl _ | exact .tt _ rfl | exact .ff _ rfl | exact .tb _ rfl | exact .fb _ rfl | exact .row _ _ _ _ rfl | (refine And.intro ?_ ?_ <;> try conv => whnf)
            all_goals try first | exact sameI (by omega) | exact sameI rfl | (refine sameI ?_; simp only [List.length_append, List.length_cons, List.length_nil]; omega)
            exact sameI (step_hi hst (by omega))
          · refine ⟨j + 1, by ((try dsimp only); first | trivial | omega | ((repeat' apply And.intro) <;> omega)), by first | omega | ((try dsimp only); (try simp only [List.length_append, List.length_cons, List.length_nil]); omega), StLe.upd ?_⟩
            conv => whnf
            repeat' first | exact trivial | exact .refl _ | exact .nilsl _ | exact .tt _ rfl | exact .ff _ rfl | exact .tb _ rfl | exact .fb _ rfl | exact .row _ _ _ _ rfl | (refine And.intro ?_ ?_ <;> try conv => whnf)
            all_goals try first | exact sameI (by omega) | exact sameI rfl | (refine sameI ?_; simp only [List.length_append, List.length_cons, List.length_nil]; omega)
            refine sameI ?_
            rw [step_lo hst (by omega)]; rfl
          · have hj8 : j = 8 := by omega
            refine ⟨i + 1, by ((try dsimp only); first | trivial | omega | ((repeat' apply And.intro) <;> omega)), by first | omega | ((try dsimp only); (try simp only [List.length_append, List.length_cons, List.length_nil]); omega), StLe.upd ?_⟩
            conv => whnf
            repeat' first | exact trivial | exact .refl _ | exact .nilsl _ | exact .tt _ rfl | exact .ff _ rfl | exact .tb _ rfl | exact .fb _ rfl | exact .row _ _ _ _ rfl | (refine And.intro ?_ ?_ <;> try conv => whnf)
            all_goals try first | exact sameI (by omega) | exact sameI rfl | (refine sameI ?_; simp only [List.length_append, List.length_cons, List.length_nil]; omega)
            refine sameI ?_
            rw [crcN_take hlt, hj8, ← hx0e]; rfl
      · have hib : i = b.length := by omega
        rw [hib, List.take_length]
        exact hS
  · exact hS.elim
end Go.Proofs.Ytdpgdeaefmghiaa.Sx

/- Printed by gen2.py: contracts of functions. -/
namespace Go.Proofs.Ytdpgdeaefmghiaa.Sx
open Go.Proofs
set_option maxRecDepth 20000
set_option maxHeartbeats 4000000
set_option linter.unusedSimpArgs false
set_option linter.unusedVariables false
def manyOf (d : List UInt8) : Nat := beN (List.drop 4 (List.take 6 d))
def bodyOf (d : List UInt8) : List UInt8 := List.drop 6 (List.take (d.length - 2) d)
noncomputable def S_impl_PicRead : Spec := fun args sub K => match args, sub with
  | [.v (.sl .u8 d)], [] => (∀ c a : Int, readR d = .error (c, a) → 0 < c → K (.tup [.v .nil, .agg [.int .i64 c, .int .i64 a]]) []) ∧ (∀ xs : List Inst, readR d = .ok xs → K (.tup [.v (.sl .inst xs), .agg [.int .i64 0, .int .i64 0]]) [])
  | _, _ => False
theorem S_impl_PicRead_mono : Mono S_impl_PicRead := by
  intro args sub K K' hk h
  unfold S_impl_PicRead at h ⊢
  repeat' first | exact hk _ _ h | exact h.elim | exact ⟨fun hc => hk _ _ (h.1 hc), fun hc => hk _ _ (h.2 hc)⟩ | (refine ⟨h.1, ?_⟩; replace h := h.2) | (intro hc; replace h := h hc) | (refine And.imp ?_ ?_ h <;> clear h <;> intro h) | split at h
noncomputable abbrev E_impl_PicRead : Ent := ⟨nrm [[some .u8]] S_impl_PicRead, false⟩
theorem g_impl_PicRead : Good CA 7 E_impl_PicRead := by
  refine Good.nrm _ (fn_go (ex := 4) (l := [(19, E_impl_in), (20, E_impl_fromBig), (21, E_impl_PicSum), (22, E_p_impl_picReader_inst), (23, E_impl_copyList)]) (bor := []) CA_td CA_eq CA_mix ⟨g_impl_in, g_impl_fromBig, g_impl_PicSum, g_p_impl_picReader_inst, g_impl_copyList, trivial⟩ Try.func7 rfl (by simp [Try.f7]) S_impl_PicRead_mono fun args sub K hS hA hO => ?_)
  unfold S_impl_PicRead at hS
  split at hS
  · rename_i d
    refine ⟨by simp [Try.f7], fun E hx hnb => ?_⟩
    replace hx : Fx CA (hyOf [(19, E_impl_in), (20, E_impl_fromBig), (21, E_impl_PicSum), (22, E_p_impl_picReader_inst), (23, E_impl_copyList)] []) 0 95 E := hx
    obtain ⟨hE, hS⟩ := hS
    have hbl : d.length ≤ big := by have h := (hA (.v (.sl .u8 d)) (by simp) : Ok (.sl .u8) d).1; exact Nat.le_trans (Nat.le_mul_of_pos_right _ Ty.u8.bytes_pos) h
    unfold big at hbl
    have e2 : ((d.length : Int) - 2).toNat = d.length - 2 := by omega
    have eb : 8 ≤ d.length → (List.drop 2 (List.take 4 d)).length = 2 := fun h => by rw [List.length_drop, List.length_take]; omega
    have ec : 8 ≤ d.length → (List.drop 4 (List.take 6 d)).length = 2 := fun h => by rw [List.length_drop, List.length_take]; omega
    have ee : 8 ≤ d.length → (List.drop (d.length - 2) d).length = 2 := fun h => by rw [List.length_drop]; omega
    refine hx.next 400 rfl ?_
    conv => whnf
    repeat' first | exact SameX.refl _ | exact trivial | (refine And.intro ?_ ?_ <;> first | (intro hb <;> (try simp only [decide_eq_true_eq, decide_eq_false_iff_not, Bool.not_eq_true', Bool.not_eq_false', Bool.and_eq_true, Bool.or_eq_true, Bool.and_eq_false_iff, Bool.or_eq_false_iff, Bool.not_true, Bool.not_false, reduceCtorEq, Bool.true_and, Bool.and_true, Bool.false_and, Bool.and_false, ne_eq, not_or, not_true_eq_false, not_false_eq_true, false_or, or_false, true_and, and_true, false_and, and_false, Int.natCast_zero, Int.natCast_add, Int.natCast_one, List.length_nil, List.length_cons, List.length_take, List.length_drop, List.length_replicate, List.length_append, List.length_set, Nat.zero_add] at hb) <;> (try (exfalso; omega)) <;> (try conv => whnf)) | (conv => whnf) | skip) | (intro hb <;> (try simp only [decide_eq_true_eq, decide_eq_false_iff_not, Bool.not_eq_true', Bool.not_eq_false', Bool.and_eq_true, Bool.or_eq_true, Bool.and_eq_false_iff, Bool.or_eq_false_iff, Bool.not_true, Bool.not_false, reduceCtorEq, Bool.true_and, Bool.and_true, Bool.false_and, Bool.and_false, ne_eq, not_or, not_true_eq_false, not_false_eq_true, false_or, or_false, true_and, and_true, false_and, and_false, Int.natCast_zero, Int.natCast_add, Int.natCast_one, List.length_nil, List.length_cons, List.length_take, List.length_drop, List.length_replicate, List.length_append, List.length_set, Nat.zero_add] at hb) <;> (try (exfalso; omega)) <;> (try conv => whnf)) | (refine hx.draw 400 (by kernel_rfl) ?_ <;> conv => whnf) | (refine hx.next 400 rfl ?_ <;> conv => whnf)
    all_goals try first | exact ⟨by decide⟩ | exact hin (by omega) | exact ⟨by omega⟩ | exact ⟨⟨by omega, by omega⟩⟩ | exact ⟨by omega, by omega⟩ | (exfalso; omega)
    all_goals try (simp only [List.length_take, List.length_drop, List.length_append, List.length_cons, List.length_nil, List.length_replicate, List.length_set, Ty.bytes, big, Nat.zero_add, Nat.add_zero]; first | exact hin (by omega) | exact ⟨by omega⟩ | exact ⟨⟨by omega, by omega⟩⟩ | exact ⟨by omega, by omega⟩)
    all_goals try simp only [e2] at *
    all_goals try simp only [Int.reduceToNat, dflt_u8] at *
    · exact hE 4 0 (readR_4 fun h => by unfold headOk at h; omega) (by omega)
    · exact hE 4 0 (readR_4 fun h => by unfold headOk at h; omega) (by omega)
    · exact hE 4 0 (readR_4 fun h => by unfold headOk at h; omega) (by omega)
    · exact hE 4 0 (readR_4 fun h => by unfold headOk at h; omega) (by omega)
    · exact hE 5 0 (readR_5 ⟨by omega, by omega, by omega, by omega, by omega⟩ (by omega)) (by omega)
    · exact hE 1 0 (readR_1 ⟨by omega, by omega, by omega, by omega, by omega⟩ (by omega) (by omega)) (by omega)
    · have hm : manyOf d = beN (List.drop 4 (List.take 6 d)) := rfl
      have hrd : readR d = bodyR (manyOf d) (bodyOf d) := readR_b (d := d) ⟨by omega, by omega, by omega, by omega, by omega⟩ (by omega) (by omega)
      have hbd : (bodyOf d).length ≤ 20008 := by unfold bodyOf; rw [List.length_drop, List.length_take]; omega
      refine Safe.loopUP (Y := List Inst × List UInt8) (fun y => [(2, .v .any), (7, .v (.full 95)), (8, .v .any), (9, .v .any), (63, N64 (y.1.length : Int)), (64, .v .any), (65, .v .any), (66, .v .any), (67, .v .any), (68, .v .any), (69, .v .any), (70, .v .any), (71, .v .any), (72, .v .any), (73, .v .any), (74, .v .any), (75, .v .any), (76, .v .any), (77, .v .any), (78, .v .any), (79, .v .any), (80, .v .any), (81, .v .any), (82, .v .any), (83, .v .any)]) (fun y => [(2, none), (7, none), (8, none), (9, none), (61, some (.box [.sl .u8 y.2, .int .i64 0])), (63, none), (64, none), (65, none), (66, none), (67, none), (68, none), (69, none), (70, none), (71, none), (72, none), (73, none), (74, none), (75, none), (76, none), (77, none), (78, none), (79, none), (80, none), (81, none), (82, none), (83, none), (95, some (.row eInst .inst y.1))]) (fun y => y.1.length ≤ manyOf d ∧ listR (manyOf d) 0 (bodyOf d) = listFrom y.1 (manyOf d - y.1.length) y.2) (fun y => manyOf d - y.1.length) (([], bodyOf d)) ?_ (StLe.virt 7 95 eInst .inst rfl rfl (Nat.le_of_ble_eq_true rfl) (hx.hnp _ (by omega)) rfl (StLe.upd ?_)) fun y hP => ?_
      · exact ⟨by simp, by rw [listFrom_nil]; rfl⟩
      · conv => whnf
        repeat' first | exact trivial | exact .refl _ | exact .nilsl _ | exact .tt _ rfl | exact .ff _ rfl | exact .tb _ rfl | exact .fb _ rfl | exact .row _ _ _ _ rfl | (refine And.intro ?_ ?_ <;> try conv => whnf)
        all_goals try first | exact sameI (by omega) | exact sameI rfl | (refine sameI ?_; simp only [List.length_append, List.length_cons, List.length_nil]; omega)
      · try dsimp only at hP
        obtain ⟨q1, q2⟩ := hP
        refine hx.next 400 rfl ?_
        conv => whnf
        repeat' first | exact SameX.refl _ | exact trivial | (refine And.intro ?_ ?_ <;> first | (intro hb <;> (try simp only [decide_eq_true_eq, decide_eq_false_iff_not, Bool.not_eq_true', Bool.not_eq_false', Bool.and_eq_true, Bool.or_eq_true, Bool.and_eq_false_iff, Bool.or_eq_false_iff, Bool.not_true, Bool.not_false, reduceCtorEq, Bool.true_and, Bool.and_true, Bool.false_and, Bool.and_false, ne_eq, not_or, not_true_eq_false, not_false_eq_true, false_or, or_false, true_and, and_true, false_and, and_false, Int.natCast_zero, Int.natCast_add, Int.natCast_one, List.length_nil, List.length_cons, List.length_take, List.length_drop, List.length_replicate, List.length_append, List.length_set, Nat.zero_add] at hb) <;> (try (exfalso; omega)) <;> (try conv => whnf)) | (conv => whnf) | skip) | (intro hb <;> (try simp only [decide_eq_true_eq, decide_eq_false_iff_not, Bool.not_eq_true', Bool.not_eq_false', Bool.and_eq_true, Bool.or_eq_true, Bool.and_eq_false_iff, Bool.or_eq_false_iff, Bool.not_true, Bool.not_false, reduceCtorEq, Bool.true_and, Bool.and_true, Bool.false_and, Bool.and_false, ne_eq, not_or, not_true_eq_false, not_false_eq_true, false_or, or_false, true_and, and_true, false_and, and_false, Int.natCast_zero, Int.natCast_add, Int.natCast_one, List.length_nil, List.length_cons, List.length_take, List.length_drop, List.length_replicate, List.length_append, List.length_set, Nat.zero_add] at hb) <;> (try (exfalso; omega)) <;> (try conv => whnf)) | (refine hx.draw 400 (by kernel_rfl) ?_ <;> conv => whnf) | (refine hx.next 400 rfl ?_ <;> conv => whnf)
        all_goals try first | exact ⟨by decide⟩ | exact hin (by omega) | exact ⟨by omega⟩ | exact ⟨⟨by omega, by omega⟩⟩ | exact ⟨by omega, by omega⟩ | (exfalso; omega)
        all_goals try (simp only [List.length_take, List.length_drop, List.length_append, List.length_cons, List.length_nil, List.length_replicate, List.length_set, Ty.bytes, big, Nat.zero_add, Nat.add_zero]; first | exact hin (by omega) | exact ⟨by omega⟩ | exact ⟨⟨by omega, by omega⟩⟩ | exact ⟨by omega, by omega⟩)
        · rename_i k n e b' he _
          have hst : manyOf d - y.1.length = (manyOf d - (y.1.length + 1)) + 1 := by omega
          rw [hst] at q2
          exact hE _ _ (hrd.trans (bodyR_e (q2.trans (listFrom_err he)))) (by omega)
        · rename_i k n e l b' he _
          have hst : manyOf d - y.1.length = (manyOf d - (y.1.length + 1)) + 1 := by omega
          rw [hst] at q2
          exact hE _ _ (hrd.trans (bodyR_e (q2.trans (listFrom_err he)))) (by omega)
        · rename_i hlt i b' hi hno
          have hst : manyOf d - y.1.length = (manyOf d - (y.1.length + 1)) + 1 := by omega
          rw [hst] at q2
          have hin := instR_none hi hno
          have hla : (y.1 ++ [i]).length = y.1.length + 1 := by simp
          refine ⟨(y.1 ++ [i], b'), ?_, by first | omega | ((try dsimp only); (try simp only [List.length_append, List.length_cons, List.length_nil]); omega), StLe.swapU 82 95 (hx.hnp _ (by omega)) (hx.hnp _ (by omega)) rfl rfl ?_⟩
          · dsimp only
            refine ⟨by omega, ?_⟩
            rw [hla]
            exact q2.trans (listFrom_ok hi)
          conv => whnf
          repeat' first | exact trivial | exact .refl _ | exact .nilsl _ | exact .tt _ rfl | exact .ff _ rfl | exact .tb _ rfl | exact .fb _ rfl | exact .row _ _ _ _ rfl | (refine And.intro ?_ ?_ <;> try conv => whnf)
          all_goals try first | exact sameI (by omega) | exact sameI rfl | (refine sameI ?_; simp only [List.length_append, List.length_cons, List.length_nil]; omega)
          all_goals (refine sameRow ?_; show y.1 ++ [_] = y.1 ++ [i]; rw [hin])
        · rename_i hlt i b' hi hno
          have hst : manyOf d - y.1.length = (manyOf d - (y.1.length + 1)) + 1 := by omega
          rw [hst] at q2
          have hla : (y.1 ++ [i]).length = y.1.length + 1 := by simp
          refine ⟨(y.1 ++ [i], b'), ?_, by first | omega | ((try dsimp only); (try simp only [List.length_append, List.length_cons, List.length_nil]); omega), StLe.swapU 82 95 (hx.hnp _ (by omega)) (hx.hnp _ (by omega)) rfl rfl ?_⟩
          · dsimp only
            refine ⟨by omega, ?_⟩
            rw [hla]
            exact q2.trans (listFrom_ok hi)
          conv => whnf
          repeat' first | exact trivial | exact .refl _ | exact .nilsl _ | exact .tt _ rfl | exact .ff _ rfl | exact .tb _ rfl | exact .fb _ rfl | exact .row _ _ _ _ rfl | (refine And.intro ?_ ?_ <;> try conv => whnf)
          all_goals try first | exact sameI (by omega) | exact sameI rfl | (refine sameI ?_; simp only [List.length_append, List.length_cons, List.length_nil]; omega)
        · have h0 : manyOf d - y.1.length = 0 := by omega
          rw [h0, listFrom_0] at q2
          refine hE _ _ (hrd.trans (bodyR_r q2 (fun e => by rw [e] at hb; simp only [List.length_nil] at hb; omega))) (by omega)
        · have h0 : manyOf d - y.1.length = 0 := by omega
          rw [h0, listFrom_0] at q2
          exact hS _ (hrd.trans (bodyR_o q2 (List.eq_nil_of_length_eq_zero (by omega))))
  · exact hS.elim
end Go.Proofs.Ytdpgdeaefmghiaa.Sx

/- Printed by gen2.py: contracts of functions. -/
namespace Go.Proofs.Ytdpgdeaefmghiaa.Sx
open Go.Proofs
set_option maxRecDepth 20000
set_option maxHeartbeats 4000000
set_option linter.unusedSimpArgs false
set_option linter.unusedVariables false
theorem stepN_inj {x y : Nat} (hx : x < 65536) (hy : y < 65536) (h : stepN x = stepN y) : x = y := by
  have par : ∀ n, (((n * 2 - 65536) ^^^ 4129) % 65536) % 2 = (((n * 2 - 65536) + 4129) % 2) := fun n => by
    rw [Nat.mod_mod_of_dvd _ (by decide), xor_mod2]
  have lt : ∀ n, n < 65536 → 65536 ≤ n * 2 → ((n * 2 - 65536) ^^^ 4129) % 65536 = (n * 2 - 65536) ^^^ 4129 := fun n h1 h2 =>
    Nat.mod_eq_of_lt (Nat.xor_lt_two_pow (n := 16) (by omega) (by omega))
  unfold stepN at h
  split at h <;> split at h
  · rename_i h1 h2
    rw [lt x hx h1, lt y hy h2] at h
    have := congrArg (· ^^^ 4129) h
    simp only [Nat.xor_assoc, Nat.xor_self, Nat.xor_zero] at this
    omega
  · have := par x; omega
  · have := par y; omega
  · omega
theorem steps_inj {x y : Nat} (hx : x < 65536) (hy : y < 65536) : ∀ n, steps n x = steps n y → x = y
  | 0, h => h
  | n + 1, h => steps_inj hx hy n (stepN_inj (steps_lt hx n) (steps_lt hy n) h)
theorem xor_lt16 {a b : Nat} (ha : a < 65536) (hb : b < 65536) : (a ^^^ b) % 65536 = a ^^^ b := Nat.mod_eq_of_lt (Nat.xor_lt_two_pow (n := 16) (by omega) (by omega))
theorem xor_left_inj {a b c : Nat} (h : a ^^^ c = b ^^^ c) : a = b := by
  have := congrArg (· ^^^ c) h
  simpa only [Nat.xor_assoc, Nat.xor_self, Nat.xor_zero] using this
theorem crcByte_inj {c c' b : Nat} (hc : c < 65536) (hc' : c' < 65536) (hb : b < 256) (h : crcByte c b = crcByte c' b) : c = c' := by
  have h1 := steps_inj (Nat.mod_lt _ (by omega)) (Nat.mod_lt _ (by omega)) 8 h
  rw [xor_lt16 hc (by omega), xor_lt16 hc' (by omega)] at h1
  exact xor_left_inj h1
theorem crcByte_ne {c b b' : Nat} (hc : c < 65536) (hb : b < 256) (hb' : b' < 256) (h : crcByte c b = crcByte c b') : b = b' := by
  have h1 := steps_inj (Nat.mod_lt _ (by omega)) (Nat.mod_lt _ (by omega)) 8 h
  rw [xor_lt16 hc (by omega), xor_lt16 hc (by omega), Nat.xor_comm c, Nat.xor_comm c] at h1
  have := xor_left_inj h1; omega
def crcF (c : Nat) (b : UInt8) : Nat := crcByte c b.toNat
theorem crcF_lt (c : Nat) (b : UInt8) : crcF c b < 65536 := crcByte_lt c b.toNat
theorem crcF_inj {c c' : Nat} {b : UInt8} (hc : c < 65536) (hc' : c' < 65536) (h : crcF c b = crcF c' b) : c = c' := crcByte_inj hc hc' (UInt8.toNat_lt b) h
theorem crcF_ne {c : Nat} {b b' : UInt8} (hc : c < 65536) (h : crcF c b = crcF c b') : b = b' := UInt8.toNat_inj.1 (crcByte_ne hc (UInt8.toNat_lt b) (UInt8.toNat_lt b') h)
theorem crcN_F (l : List UInt8) : crcN l = l.foldl crcF 65535 := rfl
attribute [local irreducible] crcF
theorem fold_inj (l : List UInt8) : ∀ (c c' : Nat), c < 65536 → c' < 65536 → l.foldl crcF c = l.foldl crcF c' → c = c' := by
  induction l with
  | nil => intro c c' _ _ h; exact h
  | cons b l ih =>
    intro c c' hc hc' h
    rw [List.foldl_cons, List.foldl_cons] at h
    exact crcF_inj hc hc' (ih (crcF c b) (crcF c' b) (crcF_lt c b) (crcF_lt c' b) h)
theorem fold_set (l : List UInt8) : ∀ (k : Nat) (h : k < l.length) (y : UInt8) (c : Nat), c < 65536 → (l.set k y).foldl crcF c = l.foldl crcF c → y = l[k] := by
  induction l with
  | nil => intro k h; simp at h
  | cons b l ih =>
    intro k h y c hc he
    cases k with
    | zero =>
      rw [List.set_cons_zero, List.foldl_cons, List.foldl_cons] at he
      exact crcF_ne hc (fold_inj l (crcF c y) (crcF c b) (crcF_lt c y) (crcF_lt c b) he)
    | succ k =>
      rw [List.set_cons_succ, List.foldl_cons, List.foldl_cons] at he
      exact ih k (by simpa using h) y (crcF c b) (crcF_lt c b) he
theorem be_fold : ∀ (l m : List UInt8) (a b : Nat), l.length = m.length → l.foldl (fun n b => n * 256 + b.toNat) a = m.foldl (fun n b => n * 256 + b.toNat) b → a = b ∧ l = m
  | [], [], _, _, _, h => ⟨h, rfl⟩
  | x :: l, y :: m, a, b, hl, h => by
    rw [List.foldl_cons, List.foldl_cons] at h
    obtain ⟨h1, h2⟩ := be_fold l m (a * 256 + x.toNat) (b * 256 + y.toNat) (by simpa using hl) h
    have hx := UInt8.toNat_lt x
    have hy := UInt8.toNat_lt y
    have e : x.toNat = y.toNat := by omega
    exact ⟨by omega, by rw [h2, UInt8.toNat_inj.1 e]⟩
  | [], _ :: _, _, _, hl, _ => by simp at hl
  | _ :: _, [], _, _, hl, _ => by simp at hl
theorem beN_inj {l m : List UInt8} (hl : l.length = m.length) (h : beN l = beN m) : l = m := (be_fold l m 0 0 hl h).2
theorem readR_ok {d : List UInt8} {xs : List Inst} (h : readR d = .ok xs) : headOk d ∧ beN (d.drop (d.length - 2)) = crcN (d.take (d.length - 2)) := by
  unfold readR at h
  split at h
  · rename_i h1
    split at h
    · rename_i h2; exact ⟨h1, h2⟩
    · cases h
  · cases h
/-- One byte turned: not read. -/
theorem one_turn {d : List UInt8} {xs : List Inst} (h : readR d = .ok xs) {k : Nat} (hk : k < d.length) {y : UInt8} (hy : y ≠ d[k]) : ∃ c a : Int, readR (d.set k y) = .error (c, a) ∧ 0 < c := by
  obtain ⟨h1, h2⟩ := readR_ok h
  by_cases hh : headOk (d.set k y)
  · refine ⟨5, 0, readR_5 hh fun he => ?_, by omega⟩
    rw [List.length_set] at he
    by_cases hkl : k < d.length - 2
    · have e1 : (d.set k y).drop (d.length - 2) = d.drop (d.length - 2) := by rw [List.drop_set, if_pos hkl]
      have e2 : (d.set k y).take (d.length - 2) = (d.take (d.length - 2)).set k y := by rw [List.take_set]
      rw [e1, e2, h2, crcN_F, crcN_F] at he
      have hkt : k < (d.take (d.length - 2)).length := by rw [List.length_take]; omega
      have := fold_set (d.take (d.length - 2)) k hkt y 65535 (by omega) he.symm
      rw [List.getElem_take] at this
      exact hy this
    · have e2 : (d.set k y).take (d.length - 2) = d.take (d.length - 2) := by rw [List.take_set, List.set_eq_of_length_le (by rw [List.length_take]; omega)]
      rw [e2, ← h2] at he
      have hd := beN_inj (by simp) he
      rw [List.drop_set, if_neg hkl] at hd
      have hkd : k - (d.length - 2) < (d.drop (d.length - 2)).length := by rw [List.length_drop]; omega
      have h3 := congrArg (fun l => l[k - (d.length - 2)]?) hd
      simp only [List.getElem?_set_self hkd, List.getElem?_eq_getElem hkd, Option.some.injEq, List.getElem_drop] at h3
      apply hy
      rw [h3]; congr 1; omega
  · exact ⟨4, 0, readR_4 hh, by omega⟩
theorem xor_u8_ne {a b : UInt8} (h : ¬ ((b.toNat : Nat) : Int) = 0) : UInt8.ofNat (bitsZ .xor .u8 ((a.toNat : Nat) : Int) ((b.toNat : Nat) : Int)).toNat ≠ a := by
  have ha := UInt8.toNat_lt a
  have hb := UInt8.toNat_lt b
  have hx : a.toNat ^^^ b.toNat < 2 ^ 8 := Nat.xor_lt_two_pow (by omega) (by omega)
  have e : bitsZ .xor .u8 ((a.toNat : Nat) : Int) ((b.toNat : Nat) : Int) = ((a.toNat ^^^ b.toNat : Nat) : Int) := by
    have : (BitVec.ofInt IntKind.u8.bits ((a.toNat : Nat) : Int) ^^^ BitVec.ofInt IntKind.u8.bits ((b.toNat : Nat) : Int)).toNat = a.toNat ^^^ b.toNat := by
      rw [BitVec.ofInt_natCast, BitVec.ofInt_natCast, BitVec.toNat_xor, BitVec.toNat_ofNat, BitVec.toNat_ofNat]
      show a.toNat % 2 ^ 8 ^^^ b.toNat % 2 ^ 8 = _
      rw [Nat.mod_eq_of_lt (by omega), Nat.mod_eq_of_lt (by omega)]
    show IntKind.u8.wrap _ = _
    rw [this]
    exact wrap_in ⟨by simp only [lo]; omega, by simp only [Go.Proofs.Ytdpgdeaefmghiaa.Sx.hi]; omega⟩
  rw [e, Int.toNat_natCast]
  intro he
  have h1 := congrArg UInt8.toNat he
  rw [UInt8.toNat_ofNat'] at h1
  have h2 : a.toNat ^^^ b.toNat = a.toNat := by rw [Nat.mod_eq_of_lt (by omega)] at h1; exact h1
  have h3 := congrArg (a.toNat ^^^ ·) h2
  simp only [← Nat.xor_assoc, Nat.xor_self, Nat.zero_xor] at h3
  apply h; omega
theorem flip_refused {d : List UInt8} {xs ys : List Inst} (h : readR d = .ok xs) {i : Nat} (hi : i < d.length) {b : UInt8} (hb : ¬ ((b.toNat : Nat) : Int) = 0)
    (h2 : readR (d.set i (UInt8.ofNat (bitsZ .xor .u8 ((UInt8.toNat (d.getD i Ty.u8.dflt) : Nat) : Int) ((b.toNat : Nat) : Int)).toNat)) = .ok ys) : False := by
  have e : d.getD i Ty.u8.dflt = d[i] := by rw [List.getD_eq_getElem?_getD, List.getElem?_eq_getElem hi]; rfl
  rw [e] at h2
  obtain ⟨c, a, h3, _⟩ := one_turn h hi (xor_u8_ne (a := d[i]) hb)
  rw [h3] at h2; cases h2
theorem flip_refused_own {d : List UInt8} {n : Nat} (hn : n ≤ d.length) {xs ys : List Inst} (h : readR (List.take n (List.drop 0 d)) = .ok xs) {i : Nat} (hi : i < n) {b : UInt8} (hb : ¬ ((b.toNat : Nat) : Int) = 0)
    (h2 : readR (List.take n (List.drop 0 (d.set i (UInt8.ofNat (bitsZ .xor .u8 ((UInt8.toNat (d.getD i Ty.u8.dflt) : Nat) : Int) ((b.toNat : Nat) : Int)).toNat)))) = .ok ys) : False := by
  have hl : i < (List.take n (List.drop 0 d)).length := by simp; omega
  have e : d.getD i Ty.u8.dflt = (List.take n (List.drop 0 d)).getD i Ty.u8.dflt := by
    rw [List.getD_eq_getElem?_getD, List.getD_eq_getElem?_getD, List.getElem?_eq_getElem hl, List.getElem?_eq_getElem (by omega)]; simp
  have e2 : ∀ y : UInt8, List.take n (List.drop 0 (d.set i y)) = (List.take n (List.drop 0 d)).set i y := fun y => by
    rw [List.drop_zero, List.drop_zero, List.take_set]
  rw [e, e2] at h2
  exact flip_refused h hl hb h2
theorem u2pos (p q : UInt8) : (0 : Int) ≤ ((p.toNat : Nat) : Int) * 256 + ((q.toNat : Nat) : Int) := by omega
theorem kin {n : Nat} (p q : UInt8) (hn : 1 ≤ n) : ((((p.toNat : Nat) : Int) * 256 + ((q.toNat : Nat) : Int)).tmod (n : Int)).toNat < n := by
  have := tmod_in (u2pos p q) (n := (n : Int)) (by omega)
  omega
theorem okLen {d : List UInt8} {xs : List Inst} (h : readR d = .ok xs) : 8 ≤ d.length := (readR_ok h).1.1
theorem okLen_own {d : List UInt8} {n : Nat} {xs : List Inst} (h : readR (List.take n (List.drop 0 d)) = .ok xs) : 8 ≤ n := by
  have := okLen h; simp at this; omega
noncomputable def S_laws_FnPicOne : Spec := fun args sub K => match args, sub with
  | [.v (.sl .u8 code), .v (.sl .u8 more)], [] => ∀ r : Bool, r = true → K (.v (.bool r)) []
  | _, _ => False
theorem S_laws_FnPicOne_mono : Mono S_laws_FnPicOne := by
  intro args sub K K' hk h
  unfold S_laws_FnPicOne at h ⊢
  repeat' first | exact hk _ _ h | exact h.elim | exact ⟨fun hc => hk _ _ (h.1 hc), fun hc => hk _ _ (h.2 hc)⟩ | (refine ⟨h.1, ?_⟩; replace h := h.2) | (intro hc; replace h := h hc) | (refine And.imp ?_ ?_ h <;> clear h <;> intro h) | split at h
noncomputable abbrev E_laws_FnPicOne : Ent := ⟨nrm [[some .u8], [some .u8]] S_laws_FnPicOne, false⟩
theorem g_laws_FnPicOne : Good CA 3 E_laws_FnPicOne := by
  refine Good.nrm _ (fn_go (ex := 4) (l := [(5, E_spec_DrawPicRead), (6, E_spec_PicRead), (7, E_impl_PicRead)]) (bor := [30, 35]) CA_td CA_eq CA_mix ⟨g_spec_DrawPicRead, g_spec_PicRead, g_impl_PicRead, trivial⟩ Try.func3 rfl (by simp [Try.f3]) S_laws_FnPicOne_mono fun args sub K hS hA hO => ?_)
  unfold S_laws_FnPicOne at hS
  split at hS
  · rename_i code more
    refine ⟨by simp [Try.f3], fun E hx hnb => ?_⟩
    replace hx : Fx CA (hyOf [(5, E_spec_DrawPicRead), (6, E_spec_PicRead), (7, E_impl_PicRead)] [30, 35]) 0 87 E := hx
    refine hx.next 400 rfl ?_
    conv => whnf
    repeat' first | exact SameX.refl _ | exact trivial | (refine And.intro ?_ ?_ <;> first | (intro hb <;> (try simp only [decide_eq_true_eq, decide_eq_false_iff_not, Bool.not_eq_true', Bool.not_eq_false', Bool.and_eq_true, Bool.or_eq_true, Bool.and_eq_false_iff, Bool.or_eq_false_iff, Bool.not_true, Bool.not_false, reduceCtorEq, Bool.true_and, Bool.and_true, Bool.false_and, Bool.and_false, ne_eq, not_or, not_true_eq_false, not_false_eq_true, false_or, or_false, true_and, and_true, false_and, and_false, Int.natCast_zero, Int.natCast_add, Int.natCast_one, List.length_nil, List.length_cons, List.length_take, List.length_drop, List.length_replicate, List.length_append, List.length_set, Nat.zero_add] at hb) <;> (try (exfalso; omega)) <;> (try conv => whnf)) | (conv => whnf) | skip) | (intro hb <;> (try simp only [decide_eq_true_eq, decide_eq_false_iff_not, Bool.not_eq_true', Bool.not_eq_false', Bool.and_eq_true, Bool.or_eq_true, Bool.and_eq_false_iff, Bool.or_eq_false_iff, Bool.not_true, Bool.not_false, reduceCtorEq, Bool.true_and, Bool.and_true, Bool.false_and, Bool.and_false, ne_eq, not_or, not_true_eq_false, not_false_eq_true, false_or, or_false, true_and, and_true, false_and, and_false, Int.natCast_zero, Int.natCast_add, Int.natCast_one, List.length_nil, List.length_cons, List.length_take, List.length_drop, List.length_replicate, List.length_append, List.length_set, Nat.zero_add] at hb) <;> (try (exfalso; omega)) <;> (try conv => whnf)) | (refine hx.draw 400 (by kernel_rfl) ?_ <;> conv => whnf) | (refine hx.next 400 rfl ?_ <;> conv => whnf)
    all_goals try first | exact ⟨by decide⟩ | exact hin (by omega) | exact ⟨by omega⟩ | exact ⟨⟨by omega, by omega⟩⟩ | exact ⟨by omega, by omega⟩ | (exfalso; omega)
    all_goals clear hx hA hO hnb
    all_goals try exact hS _ rfl
    all_goals try (exfalso; simp_all; done)
    all_goals (have hu0 := u8lt more (Int.toNat 0); have hu1 := u8lt more (Int.toNat 1))
    all_goals try first | exact ⟨by decide⟩ | exact hin (by omega) | exact ⟨by omega⟩ | exact ⟨⟨by omega, by omega⟩⟩ | exact ⟨by omega, by omega⟩ | (exfalso; omega)
    · have := okLen (by assumption); exact ⟨by omega⟩
    · have := okLen (by assumption); exact ⟨tmod_in (u2pos _ _) (by omega)⟩
    · have := okLen (by assumption); exact ⟨tmod_in (u2pos _ _) (by omega)⟩
    · rename_i h1 _ _ _ _ hz _ h2
      have := okLen h1
      exact (flip_refused h1 (kin _ _ (by omega)) hz h2).elim
    · have := okLen_own (by assumption); exact ⟨by omega⟩
    · have := okLen_own (by assumption); exact ⟨tmod_in (u2pos _ _) (by omega)⟩
    · have := okLen_own (by assumption); exact ⟨tmod_in (u2pos _ _) (by omega)⟩
    · rename_i hl _ h1 _ _ _ _ hz _ h2
      have := okLen_own h1
      exact (flip_refused_own hl.2 h1 (kin _ _ (by omega)) hz h2).elim
  · exact hS.elim
end Go.Proofs.Ytdpgdeaefmghiaa.Sx
