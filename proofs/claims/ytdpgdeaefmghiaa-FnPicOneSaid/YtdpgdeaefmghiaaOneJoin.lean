/-
  FnPicOneSaid: the join. It is true for every input, and its arguments read afterwards as before: no condition. The frame began as the kit's shell.
-/
import Derived.Test.YtdpgdeaefmghiaaRows
import Derived.WalkKit
import Derived.ProofKit
import Derived.OpenShut
import Derived.ShutString
import Derived.ChangeOld
import Derived.Below
import Derived.SizedLaws
import Derived.Test.YtdpgdeaefmghiaaOneP9
namespace Go.Proofs.Ytdpgdeaefmghiaa.fnPicOne
open Go.ChangeShapes Go.WideShapes Go.ChangeAt Go.RowKit
open Go.ChangeMaps (open_string shut_string)
set_option linter.unusedVariables false

theorem own : ownKnob Try.prog.godebug = none := by kernel_rfl
theorem laidOut : laidOutB Try.prog = true := by kernel_rfl

theorem walk (a0 : Option Addr) (len0 cap0 : Nat) (z0 : List Int) (a1 : Option Addr) (len1 cap1 : Nat) (z1 : List Int) (w : World) (w0 : Go.Proofs.Ytdpgdeaefmghiaa.Sx.RowU8 w a0 len0 cap0 z0) (b0 : cap0 ≤ Go.Proofs.Ytdpgdeaefmghiaa.Sx.big) (w1 : Go.Proofs.Ytdpgdeaefmghiaa.Sx.RowU8 w a1 len1 cap1 z1) (b1 : cap1 ≤ Go.Proofs.Ytdpgdeaefmghiaa.Sx.big) :
    Calls Try.prog 3 #[.slice a0 len0 cap0, .slice a1 len1 cap1] w fun e w' => e = .returned (.bool true) ∧ Below w.heap.size w w' := by
  refine ((Go.Proofs.Ytdpgdeaefmghiaa.Sx.g_laws_FnPicOne).entry (C := Go.Proofs.Ytdpgdeaefmghiaa.Sx.CA) (K := fun x _ => x = .v (.bool true)) ?_ (Go.Proofs.Ytdpgdeaefmghiaa.Sx.args2 (w0.vr b0) (w1.vr b1)) ?_).mono ?_
  · exact (fun r hr => by rw [hr] : ∀ r : Bool, r = true → Go.Proofs.Ytdpgdeaefmghiaa.Sx.X.v (.bool r) = .v (.bool true))
  · intro g cs h; cases (show (none : Option (List Go.Proofs.Ytdpgdeaefmghiaa.Sx.V)) = some cs from h)
  · rintro e w' ⟨v, x, sub', γ', I', rfl, rfl, hx, hb⟩
    rw [Go.Proofs.Ytdpgdeaefmghiaa.Sx.bool_true hx]
    exact ⟨rfl, hb⟩

/-! ### THE ROW's STEP: WRITTEN OUT: LEAVE IT -/
set_option maxRecDepth 100000 in
theorem lifted (os : Os) (started : os.Started) (H : Type) (enc : TypeId × Value → H) :
    ReturnsInHanded {} Try.checked os 3 .any (Rows.fnPicOneSpec.pre6 enc Try.prog Try.f3 Rows.fnPicOneRow.domain false) (Rows.fnPicOneSpec.post enc Try.prog Try.f3 false true false false) := by
  refine returnsInHanded_of_change_sized (C := Try.checked) own started (by kernel_rfl) Try.func3
    (ChangeSpec.witness6 (enc := enc) (C := Try.checked) false ⟨#[], #[.slice none 0 0, .slice none 0 0], []⟩ 8 (by kernel_rfl) (by kernel_rfl) (by kernel_rfl) (by kernel_rfl)) ?_
  intro W base args ds gs before hval0 hW hcnd hsz0 _
  have hval : ∀ (j : Nat) t v, Try.f3.params[j]? = some t → args[j]? = some v → Value.okWide Try.prog W .any base t v := hval0
  have hW' := hW
  obtain ⟨p, q, hA0, hV, rfl, hfz, hnd⟩ := hW
  have hA : DataW.TrodAll enc Try.prog W 0 (fun _ => true) true Try.f3.params.toList args.toList ds p := hA0
  have hsz := hsz0
  rw [Try.params3] at hA hval hsz
  obtain ⟨v0, vs0, d0, ds0, p0, q0, hargs, rfl, rfl, h0, r0⟩ := trodAll_cons hA
  obtain ⟨v1, vs1, d1, ds1, p1, q1, rfl, rfl, rfl, h1, r1⟩ := trodAll_cons r0
  obtain ⟨rfl, rfl, rfl⟩ := trodAll_nil r1
  obtain rfl : args = #[v0, v1] := by cases args; simp_all
  obtain ⟨rfl, rfl⟩ := trodVars_none hV
  obtain ⟨a0, len0, cap0, rfl⟩ := okWide_slice Try.underlying22 (hval 0 22 v0 rfl rfl)
  have k0 := h0
  have lt0 : ∀ x ∈ p0, x.block < W.heap.size := by obtain ⟨m, hm⟩ := k0; exact DataW.trod_lt m _ _ _ hm
  obtain ⟨z0, w0, b0⟩ : ∃ zs, Go.Proofs.Ytdpgdeaefmghiaa.Sx.RowU8 W a0 len0 cap0 zs ∧ cap0 ≤ Go.Proofs.Ytdpgdeaefmghiaa.Sx.big := by
    obtain ⟨fuel, hf⟩ := h0
    rcases open_ints Try.underlying22 Try.underlying5 (by kernel_rfl) hf with ⟨hcs, _⟩ | ⟨x, l, c, zs, hcs, _, hl, hm, hz, hx, hcell, hwz⟩
    · simp [Value.cells] at hcs
      obtain ⟨rfl, rfl, rfl⟩ := hcs
      exact ⟨[], .inl ⟨rfl, rfl, rfl, rfl⟩, by simp⟩
    · simp [Value.cells] at hcs
      obtain ⟨rfl, rfl, rfl⟩ := hcs
      have hz' : zs.length = cap0 := by simpa using hz
      injection hx with hd hp
      have hs := sized_slice hsz (j := 0) rfl (by rw [hd]; rfl) Try.underlying22
      have hbt : Try.checked.prog.bytesOf 5 = 1 := by kernel_rfl
      rw [hbt] at hs
      have hr := reachBytes_lt
      simp only [lits, List.length_map, List.length_take, List.length_drop] at hs
      exact ⟨zs, .inr ⟨_, rfl, hl, hz', hcell, hwz⟩, by simp only [Go.Proofs.Ytdpgdeaefmghiaa.Sx.big]; omega⟩
  obtain ⟨a1, len1, cap1, rfl⟩ := okWide_slice Try.underlying22 (hval 1 22 v1 rfl rfl)
  have k1 := h1
  have lt1 : ∀ x ∈ p1, x.block < W.heap.size := by obtain ⟨m, hm⟩ := k1; exact DataW.trod_lt m _ _ _ hm
  obtain ⟨z1, w1, b1⟩ : ∃ zs, Go.Proofs.Ytdpgdeaefmghiaa.Sx.RowU8 W a1 len1 cap1 zs ∧ cap1 ≤ Go.Proofs.Ytdpgdeaefmghiaa.Sx.big := by
    obtain ⟨fuel, hf⟩ := h1
    rcases open_ints Try.underlying22 Try.underlying5 (by kernel_rfl) hf with ⟨hcs, _⟩ | ⟨x, l, c, zs, hcs, _, hl, hm, hz, hx, hcell, hwz⟩
    · simp [Value.cells] at hcs
      obtain ⟨rfl, rfl, rfl⟩ := hcs
      exact ⟨[], .inl ⟨rfl, rfl, rfl, rfl⟩, by simp⟩
    · simp [Value.cells] at hcs
      obtain ⟨rfl, rfl, rfl⟩ := hcs
      have hz' : zs.length = cap1 := by simpa using hz
      injection hx with hd hp
      have hs := sized_slice hsz (j := 1) rfl (by rw [hd]; rfl) Try.underlying22
      have hbt : Try.checked.prog.bytesOf 5 = 1 := by kernel_rfl
      rw [hbt] at hs
      have hr := reachBytes_lt
      simp only [lits, List.length_map, List.length_take, List.length_drop] at hs
      exact ⟨zs, .inr ⟨_, rfl, hl, hz', hcell, hwz⟩, by simp only [Go.Proofs.Ytdpgdeaefmghiaa.Sx.big]; omega⟩
  clear hA0 hval0
  refine (walk a0 len0 cap0 z0 a1 len1 cap1 z1 W w0 b0 w1 b1).mono fun e W' ⟨he, bel⟩ => ?_
  subst he
  exact ⟨_, rfl, _, _, _, [], _, [], hW', trodAll_mk1 (shut_bool Try.underlying4 _), (trodAll_cons_mk (Below.trod laidOut (by kernel_rfl) (of_decide_eq_true (by kernel_rfl)) k0 bel lt0) (trodAll_cons_mk (Below.trod laidOut (by kernel_rfl) (of_decide_eq_true (by kernel_rfl)) k1 bel lt1) trodAll_mk0)), rfl, bel.frame _, fun h => by cases h⟩

theorem over : Rows.fnPicOneRow.holds Try.pinned (OpenSpec.ofChange Rows.fnPicOneSpec) :=
  OpenClaim.holds_of_wide 3 Try.f3 rfl rfl rfl rfl rfl rfl rfl ⟨rfl, rfl, rfl, rfl, rfl⟩ rfl rfl rfl rfl rfl (by kernel_rfl) Try.func3 (by kernel_rfl)
    (of_decide_eq_true (by kernel_rfl)) (by unfold Func.isWrapper; first | (rw [if_pos (by decide +kernel)]; kernel_rfl) | (rw [if_neg (by decide +kernel)]; exact ⟨rfl, rfl⟩))
    (fun os started H enc _ => lifted os started H enc)

/-- ████ THE STATEMENT ████ -/
theorem proved : Rows.FnPicOneSaid := over
#print axioms proved
end Go.Proofs.Ytdpgdeaefmghiaa.fnPicOne
