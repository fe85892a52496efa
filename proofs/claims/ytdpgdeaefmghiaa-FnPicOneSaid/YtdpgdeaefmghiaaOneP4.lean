/- A part of the proof's own kit: symbolic walks over the model (SxU, SxV, SxW, SxX, SxY). No statement of the seat stands here. -/
import Derived.Test.YtdpgdeaefmghiaaOneP3
import Derived.Orders
set_option linter.unusedSimpArgs false
set_option linter.unusedVariables false
/- What an operation looks at; what a reading yields, once for all. -/
namespace Go.Proofs.Ytdpgdeaefmghiaa.Sx
section
variable {C : Cfg} {H : Hy} {env env' : List X} {obs : Obs}
/-- The same operands, and no more said elsewhere. -/
structure EnvOf (C : Cfg) (env env' : List X) (os : List Operand) : Prop where
  same : ∀ x ∈ os, opd C env' x = opd C env x
  fr : ∀ k obs, fresh k env obs = true → fresh k env' obs = true
theorem newK_env {os : List Operand} (h : EnvOf C env env' os) {key : Nat} {ob : Ob} {K : Obs → Prop} (hK : newK key env obs ob K) : newK key env' obs ob K := by
  obtain ⟨h1, h2, h3, hK⟩ := newK_spec hK
  unfold newK
  rw [h.fr _ _ h2]
  have : obs[key]? = some none := by
    rw [List.getElem?_eq_getElem h1]
    unfold lk at h3; rw [List.getElem?_eq_getElem h1] at h3; simpa using h3
  simp only [this, setK_eq]; exact hK
theorem partsK_env {os : List Operand} (h : EnvOf C env env' os) {T : Ty} {len : Nat} : ∀ (ps : List (Nat × Operand)) (xs : List T.D) (K : List T.D → Prop), (∀ p ∈ ps, p.2 ∈ os) → partsK C env obs T len ps xs K = partsK C env' obs T len ps xs K
  | [], xs, K, _ => rfl
  | p :: ps, xs, K, hp => by
    have ih := fun xs K => partsK_env h (T := T) (len := len) ps xs K fun q hq => hp q (List.mem_cons_of_mem _ hq)
    rw [partsK, partsK, opdK_eq, opdK_eq, h.same p.2 (hp p List.mem_cons_self)]
    simp only [ih]
theorem bpartsK_env {os : List Operand} (h : ∀ x ∈ os, opd C env' x = opd C env x) {fs : List FD} {len : Nat} : ∀ (ps : List (Nat × Operand)) (xs : List V) (K : List V → Prop), (∀ p ∈ ps, p.2 ∈ os) → bpartsK C env obs fs len ps xs K = bpartsK C env' obs fs len ps xs K
  | [], xs, K, _ => rfl
  | p :: ps, xs, K, hp => by
    have ih := fun xs K => bpartsK_env h (fs := fs) (len := len) ps xs K fun q hq => hp q (List.mem_cons_of_mem _ hq)
    rw [bpartsK, bpartsK, opdK_eq, opdK_eq, h p.2 (hp p List.mem_cons_self)]
    simp only [ih]
theorem opdsK_env {os : List Operand} (h : ∀ x ∈ os, opd C env' x = opd C env x) (xs : List Operand) (hx : ∀ x ∈ xs, x ∈ os) (K : List X → Prop) : opdsK C env xs K = opdsK C env' xs K := by
  rw [opdsK_eq, opdsK_eq]
  congr 1
  exact List.map_congr_left fun x hm => (h x (hx x hm)).symm
theorem bkChk_env {os : List Operand} (h : EnvOf C env env' os) {ks : List Nat} : ∀ (l : List (Option Nat)) (i : Nat), bkChk ks env obs i l = true → bkChk ks env' obs i l = true
  | [], _, _ => rfl
  | none :: l, i, hc => by simp only [bkChk] at hc ⊢; exact bkChk_env h l _ hc
  | some k :: l, i, hc => by
    simp only [bkChk, Bool.and_eq_true] at hc ⊢
    refine ⟨⟨?_, hc.1.2⟩, bkChk_env h l _ hc.2⟩
    have := hc.1.1
    split at this
    · exact this
    · simp only [Bool.and_eq_true] at this ⊢
      exact ⟨h.fr _ _ this.1, this.2⟩
end
/-- One outcome, whatever is asked of it. -/
def Det {α : Type} (F : (α → Prop) → Prop) : Prop := ∀ K, F K → ∃ x, K x ∧ ∀ K', K' x → F K'
theorem Det.mono {α : Type} {F : (α → Prop) → Prop} (h : Det F) {K K' : α → Prop} (hk : ∀ x, K x → K' x) (hF : F K) : F K' := by
  obtain ⟨x, h1, h2⟩ := h K hF
  exact h2 K' (hk x h1)
theorem det_false {α : Type} : Det fun _ : α → Prop => False := fun _ h => h.elim
theorem det_ret {α : Type} (x : α) : Det fun K : α → Prop => K x := fun _ h => ⟨x, h, fun _ h => h⟩
theorem det_hold {α : Type} {p : Prop} {F : (α → Prop) → Prop} (h : Det F) : Det fun K => Hold p ∧ F K := fun K ⟨h1, h2⟩ =>
  let ⟨x, h3, h4⟩ := h K h2
  ⟨x, h3, fun K' hk => ⟨h1, h4 K' hk⟩⟩
theorem det_bind {α β : Type} {G : (β → Prop) → Prop} {F : β → (α → Prop) → Prop} (hG : Det G) (hF : ∀ x, Det (F x)) : Det fun K => G fun x => F x K := fun K h => by
  obtain ⟨x, h1, h2⟩ := hG _ h
  obtain ⟨y, h3, h4⟩ := hF x K h1
  exact ⟨y, h3, fun K' hk => h2 _ (h4 K' hk)⟩
theorem det_eq {α : Type} {F G : (α → Prop) → Prop} (h : ∀ K, F K = G K) (hG : Det G) : Det F := by rw [show F = G from funext h]; exact hG
theorem det_look {α : Type} (d : α) (l : List α) (n : Nat) : Det (look d l n) := det_eq (fun K => look_eq d l n K) (det_ret _)
theorem det_set {α : Type} (l : List α) (n : Nat) (v : α) : Det (setK l n v) := det_eq (fun K => setK_eq l n v K) (det_ret _)
theorem det_take {α : Type} (n : Nat) (l : List α) : Det (takeK n l) := det_eq (fun K => takeK_eq n l K) (det_ret _)
theorem det_drop {α : Type} (n : Nat) (l : List α) : Det (dropK n l) := det_eq (fun K => dropK_eq n l K) (det_ret _)
theorem det_fL (l : List V) : Det (fL l) := det_eq (fun K => fL_eq l K) (det_ret _)
theorem det_opd (C : Cfg) (env : List X) (o : Operand) : Det (opdK C env o) := det_eq (fun K => opdK_eq C env o K) (det_ret _)
theorem det_lk (obs : Obs) (k : Nat) : Det (lkK obs k) := by
  unfold lkK
  refine det_bind (det_look _ _ _) fun o => ?_
  cases o with
  | none => exact det_false
  | some ob => exact det_ret ob
theorem det_under (obs : Obs) (x : X) : Det (underK obs x) := by
  unfold underK
  repeat' first | exact det_false | exact det_ret _ | exact det_lk _ _ | exact det_opd _ _ _ | exact det_look _ _ _ | assumption | refine det_hold ?_ | refine det_bind (det_lk _ _) (fun _ => ?_) | refine det_bind (det_opd _ _ _) (fun _ => ?_) | refine det_bind (det_look _ _ _) (fun _ => ?_) | refine det_bind (det_take _ _) (fun _ => ?_) | refine det_bind (det_drop _ _) (fun _ => ?_) | refine det_bind (det_set _ _ _) (fun _ => ?_) | refine det_bind (det_fL _) (fun _ => ?_) | split
theorem det_loadAt (d : TD) (cs : List V) : Det (loadAtK d cs) := by
  unfold loadAtK headK
  repeat' first | exact det_false | exact det_ret _ | exact det_lk _ _ | exact det_opd _ _ _ | exact det_look _ _ _ | assumption | refine det_hold ?_ | refine det_bind (det_lk _ _) (fun _ => ?_) | refine det_bind (det_opd _ _ _) (fun _ => ?_) | refine det_bind (det_look _ _ _) (fun _ => ?_) | refine det_bind (det_take _ _) (fun _ => ?_) | refine det_bind (det_drop _ _) (fun _ => ?_) | refine det_bind (det_set _ _ _) (fun _ => ?_) | refine det_bind (det_fL _) (fun _ => ?_) | split
theorem det_load (C : Cfg) (t : TypeId) (obs : Obs) (x : X) : Det (loadK C t obs x) := by
  unfold loadK
  exact det_bind (det_under _ _) fun cs => det_loadAt _ cs
theorem det_unfull (obs : Obs) (x : X) : Det (unfullK obs x) := by
  unfold unfullK
  repeat' first | exact det_false | exact det_ret _ | exact det_lk _ _ | exact det_opd _ _ _ | exact det_look _ _ _ | assumption | refine det_hold ?_ | refine det_bind (det_lk _ _) (fun _ => ?_) | refine det_bind (det_opd _ _ _) (fun _ => ?_) | refine det_bind (det_look _ _ _) (fun _ => ?_) | refine det_bind (det_take _ _) (fun _ => ?_) | refine det_bind (det_drop _ _) (fun _ => ?_) | refine det_bind (det_set _ _ _) (fun _ => ?_) | refine det_bind (det_fL _) (fun _ => ?_) | split
theorem det_shift (obs : Obs) (n : Nat) (x : X) : Det (shiftK obs n x) := by
  unfold shiftK
  repeat' first | exact det_false | exact det_ret _ | exact det_lk _ _ | exact det_opd _ _ _ | exact det_look _ _ _ | assumption | refine det_hold ?_ | refine det_bind (det_lk _ _) (fun _ => ?_) | refine det_bind (det_opd _ _ _) (fun _ => ?_) | refine det_bind (det_look _ _ _) (fun _ => ?_) | refine det_bind (det_take _ _) (fun _ => ?_) | refine det_bind (det_drop _ _) (fun _ => ?_) | refine det_bind (det_set _ _ _) (fun _ => ?_) | refine det_bind (det_fL _) (fun _ => ?_) | split
theorem det_fieldAddr (C : Cfg) (t : TypeId) (f : Nat) (obs : Obs) (x : X) : Det (fieldAddrK C t f obs x) := by
  unfold fieldAddrK
  repeat' first | exact det_shift _ _ _ | exact det_false | split
theorem det_indexAddr (C : Cfg) (t : TypeId) (obs : Obs) (x i : X) : Det (indexAddrK C t obs x i) := by
  unfold indexAddrK
  repeat' first | exact det_false | exact det_ret _ | exact det_lk _ _ | exact det_opd _ _ _ | exact det_look _ _ _ | assumption | refine det_hold ?_ | refine det_bind (det_lk _ _) (fun _ => ?_) | refine det_bind (det_opd _ _ _) (fun _ => ?_) | refine det_bind (det_look _ _ _) (fun _ => ?_) | refine det_bind (det_take _ _) (fun _ => ?_) | refine det_bind (det_drop _ _) (fun _ => ?_) | refine det_bind (det_set _ _ _) (fun _ => ?_) | refine det_bind (det_fL _) (fun _ => ?_) | split
theorem det_ar (k : IntKind) (e : Int) : Det (arK k e) := by
  unfold arK
  repeat' first | exact det_false | exact det_ret _ | exact det_lk _ _ | exact det_opd _ _ _ | exact det_look _ _ _ | assumption | refine det_hold ?_ | refine det_bind (det_lk _ _) (fun _ => ?_) | refine det_bind (det_opd _ _ _) (fun _ => ?_) | refine det_bind (det_look _ _ _) (fun _ => ?_) | refine det_bind (det_take _ _) (fun _ => ?_) | refine det_bind (det_drop _ _) (fun _ => ?_) | refine det_bind (det_set _ _ _) (fun _ => ?_) | refine det_bind (det_fL _) (fun _ => ?_) | split
theorem det_bool (c : V) : Det (boolOf c) := by
  unfold boolOf
  repeat' first | exact det_false | exact det_ret _ | exact det_lk _ _ | exact det_opd _ _ _ | exact det_look _ _ _ | assumption | refine det_hold ?_ | refine det_bind (det_lk _ _) (fun _ => ?_) | refine det_bind (det_opd _ _ _) (fun _ => ?_) | refine det_bind (det_look _ _ _) (fun _ => ?_) | refine det_bind (det_take _ _) (fun _ => ?_) | refine det_bind (det_drop _ _) (fun _ => ?_) | refine det_bind (det_set _ _ _) (fun _ => ?_) | refine det_bind (det_fL _) (fun _ => ?_) | split
theorem det_bin (op : BinOp) (x y : X) : Det (binK op x y) := by
  unfold binK
  repeat' first | exact det_false | exact det_ar _ _ | exact det_bool _ | refine det_bind (det_bool _) (fun _ => ?_) | exact det_ret _ | exact det_lk _ _ | exact det_opd _ _ _ | exact det_look _ _ _ | assumption | refine det_hold ?_ | refine det_bind (det_lk _ _) (fun _ => ?_) | refine det_bind (det_opd _ _ _) (fun _ => ?_) | refine det_bind (det_look _ _ _) (fun _ => ?_) | refine det_bind (det_take _ _) (fun _ => ?_) | refine det_bind (det_drop _ _) (fun _ => ?_) | refine det_bind (det_set _ _ _) (fun _ => ?_) | refine det_bind (det_fL _) (fun _ => ?_) | split
theorem det_cut (obs : Obs) (x : X) (lo hi : Option Int) : Det (cutK obs x lo hi) := by
  unfold cutK
  repeat' first | exact det_false | exact det_ret _ | exact det_lk _ _ | exact det_opd _ _ _ | exact det_look _ _ _ | assumption | refine det_hold ?_ | refine det_bind (det_lk _ _) (fun _ => ?_) | refine det_bind (det_opd _ _ _) (fun _ => ?_) | refine det_bind (det_look _ _ _) (fun _ => ?_) | refine det_bind (det_take _ _) (fun _ => ?_) | refine det_bind (det_drop _ _) (fun _ => ?_) | refine det_bind (det_set _ _ _) (fun _ => ?_) | refine det_bind (det_fL _) (fun _ => ?_) | split
theorem det_len (d : TD) (obs : Obs) (x : X) : Det (lenK d obs x) := by
  unfold lenK
  repeat' first | exact det_false | exact det_ret _ | exact det_lk _ _ | exact det_opd _ _ _ | exact det_look _ _ _ | assumption | refine det_hold ?_ | refine det_bind (det_lk _ _) (fun _ => ?_) | refine det_bind (det_opd _ _ _) (fun _ => ?_) | refine det_bind (det_look _ _ _) (fun _ => ?_) | refine det_bind (det_take _ _) (fun _ => ?_) | refine det_bind (det_drop _ _) (fun _ => ?_) | refine det_bind (det_set _ _ _) (fun _ => ?_) | refine det_bind (det_fL _) (fun _ => ?_) | split
theorem det_seq (obs : Obs) (T : Ty) (x : X) : Det (seqK obs T x) := by
  unfold seqK
  repeat' first | exact det_false | exact det_ret _ | exact det_lk _ _ | exact det_opd _ _ _ | exact det_look _ _ _ | assumption | refine det_hold ?_ | refine det_bind (det_lk _ _) (fun _ => ?_) | refine det_bind (det_opd _ _ _) (fun _ => ?_) | refine det_bind (det_look _ _ _) (fun _ => ?_) | refine det_bind (det_take _ _) (fun _ => ?_) | refine det_bind (det_drop _ _) (fun _ => ?_) | refine det_bind (det_set _ _ _) (fun _ => ?_) | refine det_bind (det_fL _) (fun _ => ?_) | split
theorem det_src (d : TD) (obs : Obs) (T : Ty) (x : X) : Det (srcK d obs T x) := by
  unfold srcK
  repeat' first | exact det_false | exact det_ret _ | exact det_lk _ _ | exact det_opd _ _ _ | exact det_look _ _ _ | assumption | refine det_hold ?_ | refine det_bind (det_lk _ _) (fun _ => ?_) | refine det_bind (det_opd _ _ _) (fun _ => ?_) | refine det_bind (det_look _ _ _) (fun _ => ?_) | refine det_bind (det_take _ _) (fun _ => ?_) | refine det_bind (det_drop _ _) (fun _ => ?_) | refine det_bind (det_set _ _ _) (fun _ => ?_) | refine det_bind (det_fL _) (fun _ => ?_) | split
theorem det_cells (obs : Obs) (x : X) : Det (cellsK obs x) := by
  unfold cellsK
  repeat' first | exact det_false | exact det_ret _ | exact det_lk _ _ | exact det_opd _ _ _ | exact det_look _ _ _ | assumption | refine det_hold ?_ | refine det_bind (det_lk _ _) (fun _ => ?_) | refine det_bind (det_opd _ _ _) (fun _ => ?_) | refine det_bind (det_look _ _ _) (fun _ => ?_) | refine det_bind (det_take _ _) (fun _ => ?_) | refine det_bind (det_drop _ _) (fun _ => ?_) | refine det_bind (det_set _ _ _) (fun _ => ?_) | refine det_bind (det_fL _) (fun _ => ?_) | split
theorem det_convert (C : Cfg) (s d : TypeId) (obs : Obs) (x : X) : Det (convertK C s d obs x) := by
  unfold convertK
  repeat' first | exact det_false | refine det_bind (det_seq _ _ _) (fun _ => ?_) | exact det_ret _ | exact det_lk _ _ | exact det_opd _ _ _ | exact det_look _ _ _ | assumption | refine det_hold ?_ | refine det_bind (det_lk _ _) (fun _ => ?_) | refine det_bind (det_opd _ _ _) (fun _ => ?_) | refine det_bind (det_look _ _ _) (fun _ => ?_) | refine det_bind (det_take _ _) (fun _ => ?_) | refine det_bind (det_drop _ _) (fun _ => ?_) | refine det_bind (det_set _ _ _) (fun _ => ?_) | refine det_bind (det_fL _) (fun _ => ?_) | split
theorem det_un (op : UnOp) (x : X) : Det (unK op x) := by
  unfold unK
  repeat' first | exact det_false | exact det_ar _ _ | exact det_ret _ | exact det_lk _ _ | exact det_opd _ _ _ | exact det_look _ _ _ | assumption | refine det_hold ?_ | refine det_bind (det_lk _ _) (fun _ => ?_) | refine det_bind (det_opd _ _ _) (fun _ => ?_) | refine det_bind (det_look _ _ _) (fun _ => ?_) | refine det_bind (det_take _ _) (fun _ => ?_) | refine det_bind (det_drop _ _) (fun _ => ?_) | refine det_bind (det_set _ _ _) (fun _ => ?_) | refine det_bind (det_fL _) (fun _ => ?_) | split
theorem det_index (d : TD) (x i : X) : Det (indexK d x i) := by
  unfold indexK
  repeat' first | exact det_false | exact det_ret _ | exact det_lk _ _ | exact det_opd _ _ _ | exact det_look _ _ _ | assumption | refine det_hold ?_ | refine det_bind (det_lk _ _) (fun _ => ?_) | refine det_bind (det_opd _ _ _) (fun _ => ?_) | refine det_bind (det_look _ _ _) (fun _ => ?_) | refine det_bind (det_take _ _) (fun _ => ?_) | refine det_bind (det_drop _ _) (fun _ => ?_) | refine det_bind (det_set _ _ _) (fun _ => ?_) | refine det_bind (det_fL _) (fun _ => ?_) | split
theorem det_extract (n : Nat) (x : X) : Det (extractK n x) := by
  unfold extractK
  repeat' first | exact det_false | exact det_ret _ | exact det_lk _ _ | exact det_opd _ _ _ | exact det_look _ _ _ | assumption | refine det_hold ?_ | refine det_bind (det_lk _ _) (fun _ => ?_) | refine det_bind (det_opd _ _ _) (fun _ => ?_) | refine det_bind (det_look _ _ _) (fun _ => ?_) | refine det_bind (det_take _ _) (fun _ => ?_) | refine det_bind (det_drop _ _) (fun _ => ?_) | refine det_bind (det_set _ _ _) (fun _ => ?_) | refine det_bind (det_fL _) (fun _ => ?_) | split
theorem det_field (d : TD) (f : Nat) (x : X) : Det (fieldK d f x) := by
  unfold fieldK headK
  repeat' first | exact det_false | exact det_ret _ | exact det_lk _ _ | exact det_opd _ _ _ | exact det_look _ _ _ | assumption | refine det_hold ?_ | refine det_bind (det_lk _ _) (fun _ => ?_) | refine det_bind (det_opd _ _ _) (fun _ => ?_) | refine det_bind (det_look _ _ _) (fun _ => ?_) | refine det_bind (det_take _ _) (fun _ => ?_) | refine det_bind (det_drop _ _) (fun _ => ?_) | refine det_bind (det_set _ _ _) (fun _ => ?_) | refine det_bind (det_fL _) (fun _ => ?_) | split
theorem det_cellEq (k : Nat) (c d : V) : Det (cellEqK k c d) := by
  unfold cellEqK
  repeat' first | exact det_false | exact det_ret _ | split
theorem det_cellsEq : ∀ (ks : List Nat) (cs ds : List V), Det (cellsEqK ks cs ds)
  | [], [], [] => det_ret true
  | k :: ks, c :: cs, d :: ds => by
    have ih := det_cellsEq ks cs ds
    show Det fun K => cellsEqK (k :: ks) (c :: cs) (d :: ds) K
    simp only [cellsEqK]
    refine det_bind (det_cellEq _ _ _) fun b => ?_
    cases ks with
    | nil =>
      cases cs with
      | nil => cases ds with
        | nil => exact det_ret b
        | cons => exact det_false
      | cons => exact det_false
    | cons k' ks => exact det_bind ih fun b' => det_ret (b && b')
  | [], [], _ :: _ => det_false
  | [], _ :: _, _ => fun K h => by simp only [cellsEqK] at h
  | _ :: _, [], _ => fun K h => by simp only [cellsEqK] at h
  | _ :: _, _ :: _, [] => fun K h => by simp only [cellsEqK] at h
theorem det_binT (C : Cfg) (op : BinOp) (t : TypeId) (x y : X) : Det (binTK C op t x y) := by
  unfold binTK
  split
  · split
    · split
      · exact det_false
      · split
        · exact det_bind (det_cellsEq _ _ _) fun b => det_ret _
        · exact det_bind (det_cellsEq _ _ _) fun b => det_ret _
        · exact det_false
    · exact det_false
  · exact det_bin _ _ _
theorem det_cut3 (x : X) (lo : Option Int) (h m : Int) : Det (cut3K x lo h m) := by
  unfold cut3K
  repeat' first | exact det_false | exact det_ret _ | refine det_hold ?_ | split
/-- The operations that only look. -/
def reads (op : Op) : Bool := match op with
  | .move _ | .assign _ | .pick .. | .build .. | .load .. | .nilCheck _ | .unOp .. | .convert .. | .slice .. | .fieldAddr .. | .field .. | .indexAddr .. | .index .. | .extract .. => true
  | .binOp op _ _ y _ => (nilC op y).isNone
  | .call c => match c.callee with
    | .builtin .len => true
    | _ => false
  | _ => false
def DetR (obs : Obs) (F : (X → Obs → Prop) → Prop) : Prop := ∀ K, F K → ∃ x, K x obs ∧ ∀ K', K' x obs → F K'
theorem DetR.of {obs : Obs} {G : (X → Prop) → Prop} (h : Det G) : DetR obs fun K => G fun x => K x obs := fun K hK =>
  let ⟨x, h1, h2⟩ := h _ hK
  ⟨x, h1, fun K' hk => h2 (fun x => K' x obs) hk⟩
theorem DetR.bind {α : Type} {obs : Obs} {G : (α → Prop) → Prop} {F : α → (X → Obs → Prop) → Prop} (hG : Det G) (hF : ∀ x, DetR obs (F x)) : DetR obs fun K => G fun x => F x K := fun K h => by
  obtain ⟨x, h1, h2⟩ := hG _ h
  obtain ⟨y, h3, h4⟩ := hF x K h1
  exact ⟨y, h3, fun K' hk => h2 _ (h4 K' hk)⟩
theorem detR_false {obs : Obs} : DetR obs fun _ => False := fun _ h => h.elim
theorem detR_ret {obs : Obs} (x : X) : DetR obs fun K => K x obs := fun _ h => ⟨x, h, fun _ h => h⟩
theorem det_bparts (C : Cfg) (env : List X) (obs : Obs) (fs : List FD) (len : Nat) : ∀ (ps : List (Nat × Operand)) (acc : List V), Det (bpartsK C env obs fs len ps acc)
  | [], acc => det_ret acc
  | p :: ps, acc => by
    have ih := fun acc => det_bparts C env obs fs len ps acc
    show Det fun K => bpartsK C env obs fs len (p :: ps) acc K
    simp only [bpartsK]
    refine det_bind (det_opd _ _ _) fun x => det_bind (det_cells _ _) fun cs => ?_
    split
    · split
      · exact det_bind (det_fL _) fun acc => ih acc
      · exact det_false
    · exact det_false
theorem det_parts (C : Cfg) (env : List X) (obs : Obs) (T : Ty) (len : Nat) : ∀ (ps : List (Nat × Operand)) (acc : List T.D), Det (partsK C env obs T len ps acc)
  | [], acc => det_ret acc
  | p :: ps, acc => by
    have ih := fun acc => det_parts C env obs T len ps acc
    show Det fun K => partsK C env obs T len (p :: ps) acc K
    simp only [partsK]
    refine det_bind (det_opd _ _ _) fun x => det_bind (det_cells _ _) fun cs => ?_
    split
    · split
      · exact det_bind (det_set _ _ _) fun acc => ih acc
      · exact det_false
    · exact det_false
theorem det_partsV (obs : Obs) (T : Ty) (len : Nat) : ∀ (ps : List (Nat × Operand)) (vs : List X) (acc : List T.D), Det (partsVK obs T len ps vs acc)
  | [], vs, acc => by
    show Det fun K => partsVK obs T len [] vs acc K
    simp only [partsVK]; exact det_ret acc
  | p :: ps, [], acc => by
    show Det fun K => partsVK obs T len (p :: ps) [] acc K
    simp only [partsVK]; exact det_false
  | p :: ps, v :: vs, acc => by
    have ih := fun acc => det_partsV obs T len ps vs acc
    show Det fun K => partsVK obs T len (p :: ps) (v :: vs) acc K
    simp only [partsVK]
    refine det_bind (det_cells _ _) fun cs => ?_
    split
    · split
      · exact det_bind (det_set _ _ _) fun acc => ih acc
      · exact det_false
    · exact det_false
theorem det_build (C : Cfg) (t : TypeId) (ps : List (Nat × Operand)) (env : List X) (obs : Obs) : Det (buildK C t ps env obs) := by
  unfold buildK
  split
  · exact det_bind (det_bparts _ _ _ _ _ _ _) fun cs => det_ret _
  · exact det_false
theorem det_optOpd (C : Cfg) (env : List X) (o : Option Operand) : Det (optOpd C env o) := by
  unfold optOpd
  split
  · exact det_ret _
  · refine det_bind (det_opd _ _ _) fun x => ?_
    split
    · exact det_ret _
    · exact det_false
theorem opK_reads {C : Cfg} {H : Hy} {np xb : Nat} {o : Oper} (hr : reads o.op = true) (env : List X) (obs : Obs) : DetR obs (opK C H np xb o env obs) := by
  unfold opK
  unfold reads at hr
  split at hr
  all_goals first | (cases hr; done) | skip
  all_goals simp only [*]
  · exact DetR.of (det_opd _ _ _)
  · exact DetR.of (det_opd _ _ _)
  · refine DetR.bind (det_opd _ _ _) fun v => ?_
    unfold pickK
    split
    · exact DetR.of (det_opd _ _ _)
    · exact DetR.of (det_opd _ _ _)
    · rename_i t
      cases t with
      | true => 
        intro K h
        obtain ⟨x, h1, h2⟩ := DetR.of (obs := obs) (det_opd C env _) K (h.1 rfl)
        exact ⟨x, h1, fun K' hk => ⟨fun _ => h2 K' hk, fun e => (by cases e)⟩⟩
      | false => 
        intro K h
        obtain ⟨x, h1, h2⟩ := DetR.of (obs := obs) (det_opd C env _) K (h.2 rfl)
        exact ⟨x, h1, fun K' hk => ⟨fun e => (by cases e), fun _ => h2 K' hk⟩⟩
    · exact detR_false
  · exact DetR.of (det_build _ _ _ _ _)
  · exact DetR.bind (det_opd _ _ _) fun v => DetR.of (det_load _ _ _ _)
  · refine DetR.bind (det_opd _ _ _) fun v => ?_
    unfold nilK
    split
    · exact DetR.bind (det_lk _ _) fun _ => detR_ret _
    · exact detR_ret _
    · exact detR_false
  · exact DetR.bind (det_opd _ _ _) fun v => DetR.of (det_un _ _)
  · exact DetR.bind (det_opd _ _ _) fun v => DetR.of (det_convert _ _ _ _ _)
  · split
    · refine DetR.bind (det_opd _ _ _) fun v => DetR.bind (det_unfull _ _) fun v => DetR.bind (det_optOpd _ _ _) fun l => DetR.bind (det_optOpd _ _ _) fun h => ?_
      split
      · exact DetR.of (det_cut _ _ _ _)
      · exact detR_false
    · refine DetR.bind (det_opd _ _ _) fun v => DetR.bind (det_optOpd _ _ _) fun l => DetR.bind (det_optOpd _ _ _) fun h => DetR.bind (det_optOpd _ _ _) fun m => ?_
      split
      · split
        · split
          · exact DetR.of (det_cut3 _ _ _ _)
          · exact detR_false
        · exact detR_false
      · exact detR_false
  · exact DetR.bind (det_opd _ _ _) fun v => DetR.of (det_fieldAddr _ _ _ _ _)
  · exact DetR.bind (det_opd _ _ _) fun v => DetR.of (det_field _ _ _)
  · exact DetR.bind (det_opd _ _ _) fun v => DetR.bind (det_opd _ _ _) fun v' => DetR.bind (det_unfull _ _) fun v => DetR.of (det_indexAddr _ _ _ _ _)
  · exact DetR.bind (det_opd _ _ _) fun v => DetR.bind (det_opd _ _ _) fun v' => DetR.of (det_index _ _ _)
  · exact DetR.bind (det_opd _ _ _) fun v => DetR.of (det_extract _ _)
  · rename_i op t x y t' ho
    cases hn : nilC op y with
    | some ng => rw [hn] at hr; cases hr
    | none => exact DetR.bind (det_opd _ _ _) fun v => DetR.bind (det_opd _ _ _) fun v' => DetR.of (det_binT _ _ _ _ _)
  · split at hr
    · rename_i hb
      simp only [hb, keyK_eq]
      unfold builtinK
      simp only
      split
      · split
        · exact DetR.bind (det_opd _ _ _) fun v => DetR.of (det_len _ _ _)
        · exact detR_false
      · exact detR_false
    · cases hr
def Mono (S : Spec) : Prop := ∀ args sub (K K' : X → Obs → Prop), (∀ x o, K x o → K' x o) → S args sub K → S args sub K'
theorem convV_mono {c : V} {obs : Obs} {K K' : V → Obs → Prop} (hk : ∀ c o, K c o → K' c o) (h : convVK c obs K) : convVK c obs K' := by
  unfold convVK at h ⊢
  split at h
  · obtain ⟨ob, h1, h⟩ := lkK_spec h
    refine lkK_of h1 ?_
    split at h
    · rw [setK_eq] at h ⊢; exact hk _ _ h
    · exact h.elim
  · obtain ⟨ob, h1, h⟩ := lkK_spec h
    refine lkK_of h1 ?_
    split at h
    · rw [setK_eq] at h ⊢; exact hk _ _ h
    · exact h.elim
  · exact hk _ _ h
theorem convL_mono : ∀ {cs : List V} {obs : Obs} {K K' : List V → Obs → Prop}, (∀ c o, K c o → K' c o) → convLK cs obs K → convLK cs obs K'
  | [], _, _, _, hk, h => hk _ _ h
  | c :: cs, obs, K, K', hk, h => by
    rw [convLK] at h ⊢
    exact convV_mono (fun c o h => convL_mono (fun cs o h => hk _ _ h) h) h
theorem convX_mono {x : X} {obs : Obs} {K K' : X → Obs → Prop} (hk : ∀ c o, K c o → K' c o) (h : convXK x obs K) : convXK x obs K' := by
  cases x with
  | v c => exact convV_mono (K := fun c o => K (.v c) o) (K' := fun c o => K' (.v c) o) (fun c o h => hk _ _ h) h
  | agg cs => exact convL_mono (K := fun c o => K (.agg c) o) (K' := fun c o => K' (.agg c) o) (fun c o h => hk _ _ h) h
  | tup xs => exact hk _ _ h
theorem convA_mono : ∀ {xs : List X} {obs : Obs} {K K' : List X → Obs → Prop}, (∀ c o, K c o → K' c o) → convAK xs obs K → convAK xs obs K'
  | [], _, _, _, hk, h => hk _ _ h
  | x :: xs, obs, K, K', hk, h => by
    rw [convAK] at h ⊢
    exact convX_mono (fun c o h => convA_mono (fun cs o h => hk _ _ h) h) h
section
variable {C : Cfg} {H : Hy} {env env' : List X} {obs : Obs}
theorem enter_env {os : List Operand} (h : EnvOf C env env' os) {xb key : Nat} {S : Spec} (hS : Mono S) {args : List X} {K : X → Obs → Prop} (hK : enterK xb key env obs S args K) : enterK xb key env' obs S args K := by
  unfold enterK at hK ⊢
  rw [ksK_eq] at hK ⊢
  split at hK
  · exact hK.elim
  · rw [fXs_eq, fObs_eq] at hK ⊢
    refine hS _ _ _ _ (fun x o hk => ?_) hK
    rw [fB_eq] at hk ⊢
    split at hk
    · rename_i hc
      simp only [Bool.and_eq_true] at hc
      rw [bkChk_env h _ _ hc.1, hc.2]
      exact hk
    · exact hk.elim
theorem call0_env {os : List Operand} (h : EnvOf C env env' os) (hM : ∀ f en, H.tab f = some en → Mono en.spec) {xb key : Nat} {dst : Option Nat} {f : FuncId} {args : List X} {K : X → Obs → Prop} (hK : callK0 H xb key dst env obs f args K) : callK0 H xb key dst env' obs f args K := by
  unfold callK0 at hK ⊢
  split at hK
  · exact hK.elim
  · rename_i en hen
    split at hK
    · exact hK
    · split at hK
      · exact enter_env h (hM f en hen) hK
      · exact convA_mono (fun args o hk => enter_env h (hM f en hen) hk) hK
theorem call_env {os : List Operand} (h : EnvOf C env env' os) (hM : ∀ f en, H.tab f = some en → Mono en.spec) {xb key : Nat} {dst : Option Nat} {f : FuncId} {args : List X} {K : X → Obs → Prop} (hK : callK H xb key dst env obs f args K) : callK H xb key dst env' obs f args K := by
  unfold callK at hK ⊢
  rw [fXs_eq] at hK ⊢
  exact call0_env h hM hK
theorem append_env {os : List Operand} (h : EnvOf C env env' os) {t tx : TypeId} {key : Nat} {s x : X} {K : X → Obs → Prop} (hK : appendK C t tx key env obs s x K) : appendK C t tx key env' obs s x K := by
  unfold appendK at hK ⊢
  have gr : ∀ {T : Ty} (e k n : Nat) (zs : List T.D) (m : Nat), growK e key env obs k n zs m K → growK e key env' obs k n zs m K := fun e k n zs m hg => by
    unfold growK at hg ⊢
    exact ⟨hg.1, newK_env h hg.2⟩
  split at hK
  · rename_i e T htd
    refine (det_src _ _ _ _).mono (fun ys hK => ?_) hK
    split at hK
    · exact ⟨hK.1, newK_env h hK.2⟩
    · refine (det_lk _ _).mono (fun ob hK => ?_) hK
      split at hK
      · split at hK
        · rename_i hb
          split at hK
          · exact gr _ _ _ _ _ hK
          · exact hK.elim
        · exact hK.elim
      · exact hK.elim
    · split at hK
      · refine (det_lk _ _).mono (fun ob hK => ?_) hK
        split at hK
        · split at hK
          · rename_i hb
            split at hK
            · exact gr _ _ _ _ _ hK
            · exact hK.elim
          · exact hK.elim
        · exact hK.elim
      · exact hK.elim
    · exact hK.elim
  · exact hK.elim
theorem opK_env {np xb : Nat} {o : Oper} (hsame : ∀ x ∈ o.op.operands.toList, opd C env' x = opd C env x) (hfr : reads o.op = false → ∀ k obs, fresh k env obs = true → fresh k env' obs = true) (hM : ∀ f en, H.tab f = some en → Mono en.spec) {K : X → Obs → Prop} (hK : opK C H np xb o env obs K) : opK C H np xb o env' obs K := by
  obtain ⟨dst, op, ty, pos, after, guard⟩ := o
  unfold opK at hK ⊢
  have e1 : ∀ x ∈ op.operands.toList, ∀ K : X → Prop, opdK C env x K = opdK C env' x K := fun x hx K => by rw [opdK_eq, opdK_eq, hsame x hx]
  cases op
  all_goals simp only [keyK_eq] at hK ⊢
  all_goals first | exact hK | exact hK.elim | skip
  case move x => rw [← e1 x (by simp [Op.operands])]; exact hK
  case assign x => rw [← e1 x (by simp [Op.operands])]; exact hK
  case load t x => rw [← e1 x (by simp [Op.operands])]; exact hK
  case nilCheck x => rw [← e1 x (by simp [Op.operands])]; exact hK
  case unOp op t x => rw [← e1 x (by simp [Op.operands])]; exact hK
  case convert s d x => rw [← e1 x (by simp [Op.operands])]; exact hK
  case fieldAddr t x f => rw [← e1 x (by simp [Op.operands])]; exact hK
  case field t x f => rw [← e1 x (by simp [Op.operands])]; exact hK
  case extract x n => rw [← e1 x (by simp [Op.operands])]; exact hK
  case box t x => 
    rw [← e1 x (by simp [Op.operands])]
    refine (det_opd _ _ _).mono (fun v hK => ?_) hK
    unfold boxK at hK ⊢
    exact (det_cells _ _).mono (fun cs hK => newK_env ⟨hsame, hfr rfl⟩ hK) hK
  case alloc t =>
    unfold allocK at hK ⊢
    split at hK
    · exact hK.elim
    · exact (det_fL _).mono (fun cs hK => newK_env ⟨hsame, hfr rfl⟩ hK) hK
  case store t x y => 
    rw [← e1 x (by simp [Op.operands])]
    simp only [← e1 y (by simp [Op.operands])]
    exact hK
  case binOp op t x y t' => 
    split at hK
    · rw [← e1 x (by simp [Op.operands])]
      simp only [← e1 y (by simp [Op.operands])]
      exact hK
    · rw [← e1 x (by simp [Op.operands])]
      exact hK
  case indexAddr t x y => 
    rw [← e1 x (by simp [Op.operands])]
    simp only [← e1 y (by simp [Op.operands])]
    exact hK
  case index t x y => 
    rw [← e1 x (by simp [Op.operands])]
    simp only [← e1 y (by simp [Op.operands])]
    exact hK
  case pick c x y =>
    rw [← e1 c (by simp [Op.operands])]
    have : ∀ v, pickK C env obs x y v K = pickK C env' obs x y v K := fun v => by
      unfold pickK
      simp only [← e1 x (by simp [Op.operands]), ← e1 y (by simp [Op.operands])]
    simp only [← this]
    exact hK
  case makeSlice t x y => 
    rw [← e1 x (by simp [Op.operands])]
    simp only [← e1 y (by simp [Op.operands])]
    refine (det_opd _ _ _).mono (fun v hK => (det_opd _ _ _).mono (fun v' hK => ?_) hK) hK
    unfold makeK at hK ⊢
    split at hK
    · split at hK
      · split at hK
        · exact ⟨hK.1, newK_env ⟨hsame, hfr rfl⟩ hK.2⟩
        · exact hK.elim
      · exact hK.elim
    · exact hK.elim
  case build t ps =>
    unfold buildK at hK ⊢
    split at hK
    · rw [← bpartsK_env hsame _ _ _ (fun p hp => by simp only [Op.operands]; exact List.mem_map_of_mem hp)]; exact hK
    · exact hK.elim
  case buildSlice t len ps =>
    unfold buildSliceCK at hK ⊢
    split at hK
    · split at hK
      · rw [evalPK_eq] at hK ⊢
        have hm : (ps.toList.map fun p => opd C env' p.2) = ps.toList.map fun p => opd C env p.2 := List.map_congr_left fun p hp => hsame p.2 (by simp only [Op.operands]; exact List.mem_map_of_mem (by simpa using hp))
        rw [hm]
        exact convA_mono (fun vs o hK => (det_partsV _ _ _ _ _ _).mono (fun xs hK => newK_env ⟨hsame, hfr rfl⟩ hK) hK) hK
      · exact hK.elim
    · exact hK.elim
  case makeFunc fn first caps =>
    split at hK
    · split at hK
      · rw [← opdsK_env hsame _ (fun x hx => by simp [Op.operands] at hx ⊢; exact .inr hx)]; exact hK
      · exact hK.elim
    · exact hK.elim
  case slice t x lo hi mx =>
    split at hK
    · rw [← e1 x (by simp [Op.operands])]
      have hl : ∀ K, optOpd C env lo K = optOpd C env' lo K := fun K => by
        cases lo with
        | none => rfl
        | some l => simp only [optOpd]; exact e1 l (by simp [Op.operands]) _
      have hh : ∀ K, optOpd C env hi K = optOpd C env' hi K := fun K => by
        cases hi with
        | none => rfl
        | some l => simp only [optOpd]; exact e1 l (by simp [Op.operands]) _
      simp only [← hl, ← hh]
      exact hK
    · rename_i mx
      rw [← e1 x (by simp [Op.operands])]
      have hl : ∀ K, optOpd C env lo K = optOpd C env' lo K := fun K => by
        cases lo with
        | none => rfl
        | some l => simp only [optOpd]; exact e1 l (by simp [Op.operands]) _
      have hh : ∀ K, optOpd C env hi K = optOpd C env' hi K := fun K => by
        cases hi with
        | none => rfl
        | some l => simp only [optOpd]; exact e1 l (by simp [Op.operands]) _
      have hmx : ∀ K, optOpd C env (some mx) K = optOpd C env' (some mx) K := fun K => by
        simp only [optOpd]; exact e1 mx (by simp [Op.operands]) _
      simp only [← hl, ← hh, ← hmx]
      exact hK
  case call c =>
    have ha : ∀ x ∈ c.args.toList, x ∈ (Op.call c).operands.toList := fun x hx => by
      simp only [Op.operands, Call.operands, Array.toList_append, List.mem_append]; exact .inr hx
    split at hK
    · rename_i bi hcal
      unfold builtinK at hK ⊢
      split at hK
      · split at hK
        · rename_i x hx
          split at hK
          · rw [← e1 x (ha x (by rw [hx]; simp))]; exact hK
          · exact hK.elim
        · exact hK.elim
      · split at hK
        · rename_i s x hx
          split at hK
          · rw [← e1 s (ha s (by rw [hx]; simp))]
            simp only [← e1 x (ha x (by rw [hx]; simp))]
            exact (det_opd _ _ _).mono (fun v hK => (det_opd _ _ _).mono (fun v' hK => append_env ⟨hsame, hfr (by simp [reads, hcal])⟩ hK) hK) hK
          · exact hK.elim
        · exact hK.elim
      · unfold mmK at hK ⊢; rw [← opdsK_env hsame _ ha]; exact hK
      · unfold mmK at hK ⊢; rw [← opdsK_env hsame _ ha]; exact hK
      · split at hK
        · rename_i x hx
          split at hK
          · split at hK
            · rw [← e1 x (ha x (by rw [hx]; simp))]; exact hK
            · exact hK.elim
          · exact hK.elim
        · exact hK.elim
      · exact hK.elim
    · rename_i f hf
      rw [← e1 f (by simp [Op.operands, Call.operands, hf])]
      refine (det_opd _ _ _).mono (fun v hK => ?_) hK
      unfold fnK at hK ⊢
      split at hK
      · rw [← opdsK_env hsame _ ha]
        rw [opdsK_eq] at hK ⊢
        exact call_env ⟨hsame, hfr (by simp [reads, hf])⟩ hM hK
      · exact hK.elim
    · exact hK.elim
end
end Go.Proofs.Ytdpgdeaefmghiaa.Sx

/- Regions that draw their order: a plan, and why it serves every order. -/
namespace Go.Proofs.Ytdpgdeaefmghiaa.Sx
/-- How a region is gone through: look (in whatever order), or do; and again by every order of the doings. -/
inductive Plan
  | done
  | rd (i : Nat) (rest : Plan)
  | nr (i : Nat) (rc : List Nat) (rest : Plan)
  | alt (p q : Plan)
def Xle (x y : X) : Prop := ∀ γ I w L u, XR γ I w L x u → XR γ I w L y u
inductive SameX : X → X → Prop
  | refl (x : X) : SameX x x
  | tt (b : Bool) (h : b = true) : SameX (.v (.bool b)) (.v .tt)
  | ff (b : Bool) (h : b = false) : SameX (.v (.bool b)) (.v .ff)
  | tb (b : Bool) (h : b = true) : SameX (.v .tt) (.v (.bool b))
  | fb (b : Bool) (h : b = false) : SameX (.v .ff) (.v (.bool b))
  | nilsl (T : Ty) : SameX (.v .nil) (.v (.sl T []))
theorem SameX.le {x y : X} (h : SameX x y) : Xle x y := by
  intro γ I w L u hx
  cases h with
  | refl => exact hx
  | tt b h => subst h; cases hx; exact VR.tt
  | ff b h => subst h; cases hx; exact VR.ff
  | tb b h => subst h; cases hx; exact VR.bool _
  | fb b h => subst h; cases hx; exact VR.bool _
  | nilsl T => cases hx; exact VR.slE T none 0
/-- Operations that look at slots alone. -/
def pureOp (op : Op) : Bool := match op with
  | .move _ | .assign _ | .pick .. | .unOp .. | .field .. | .index .. | .extract .. => true
  | .binOp op _ _ y _ => (nilC op y).isNone
  | _ => false
noncomputable section
def againK (C : Cfg) (H : Hy) (np xb : Nat) (o : Oper) (env : List X) (obs : Obs) (yes : Bool) : Prop := match yes with
  | true => opK C H np xb o env obs fun x _ => match o.dst with
    | some d => look (.v .any) env d fun y => SameX x y
    | none => True
  | false => True
def rcK (C : Cfg) (H : Hy) (np xb : Nat) (ops : List Oper) (env : List X) (obs : Obs) : List Nat → Prop
  | [] => True
  | i :: is => (match ops[i]? with
    | none => False
    | some o => wantK ops o env fun _ yes => againK C H np xb o env obs yes) ∧ rcK C H np xb ops env obs is
def cr (C : Cfg) (H : Hy) (np xb : Nat) (ops : List Oper) (K : List X → Obs → Prop) (p : Plan) : List X → Obs → Prop :=
  Plan.rec (motive := fun _ => List X → Obs → Prop) (fun env obs => K env obs)
    (fun i _ ih env obs => match ops[i]? with
      | none => False
      | some o => wantK ops o env fun env yes => match yes with
        | true => opK C H np xb o env obs fun x obs => putK env o.dst x fun env => ih env obs
        | false => putK env o.dst (.tup []) fun env => ih env obs)
    (fun i rc _ ih env obs => match ops[i]? with
      | none => False
      | some o => wantK ops o env fun env yes => match yes with
        | true => opK C H np xb o env obs fun x obs => putK env o.dst x fun env => rcK C H np xb ops env obs rc ∧ ih env obs
        | false => putK env o.dst (.tup []) fun env => rcK C H np xb ops env obs rc ∧ ih env obs)
    (fun _ _ ih1 ih2 env obs => ih1 env obs ∧ ih2 env obs) p
end
/-! What is checked of a region and a plan, once. -/
def predsOf (o : Oper) : List Nat := (o.after.toList.filter fun e => Region.binds .any e).map (·.on)
def bitOr (m : Nat) (p : Nat) (tab : List Nat) : Nat := (m ||| tab.getD p 0) ||| (1 <<< p)
/-- For each operation, as bits, those before it. -/
def table (ops : List Oper) : List Nat := ops.foldl (fun tab o => tab ++ [(predsOf o).foldl (fun m p => bitOr m p tab) 0]) []
def dstNe (d : Option Nat) (l : List Nat) : Bool := match d with | some d => !l.contains d | none => true
def neDst (d d' : Option Nat) : Bool := match d, d' with | some d, some d' => !Nat.beq d d' | _, _ => true
def heads : Plan → List Nat
  | .nr i _ _ => [i]
  | .alt p q => heads p ++ heads q
  | _ => []
structure Ctx where
  ops : List Oper
  looks : List (List Nat)
  tab : List Nat
def Ctx.op (c : Ctx) (i : Nat) (k : Oper → Bool) : Bool := match c.ops[i]? with | some o => k o | none => false
def Ctx.lk (c : Ctx) (i : Nat) : List Nat := c.looks.getD i []
def Ctx.before (c : Ctx) (i j : Nat) : Bool := Nat.testBit (c.tab.getD j 0) i
def Ctx.ready (c : Ctx) (L : List Nat) (i : Nat) : Bool := !L.contains i && c.op i fun o => (predsOf o).all fun p => L.contains p
/-- top: at the head of a choice. -/
def Ctx.chk (c : Ctx) : Plan → Bool → List Nat → List Nat → Bool
  | .done, top, L, _ => top && (List.range c.ops.length).all fun i => L.contains i
  | .rd i p, top, L, R => top && c.ready L i && c.op i (fun o => reads o.op && dstNe o.dst (c.lk i) && R.all fun j => c.op j fun o' =>
      dstNe o.dst (c.lk j) && neDst o.dst o'.dst && (c.before j i || dstNe o'.dst (c.lk i))) && c.chk p true (i :: L) (i :: R)
  | .nr i rc p, top, L, R => (match top with | true => (List.range c.ops.length).all fun j => !c.ready L j || Nat.beq j i | false => true) &&
      c.ready L i && c.op i (fun o => R.all fun j => c.op j fun o' => c.before j i ||
        (dstNe o.dst (c.lk j) && neDst o.dst o'.dst && dstNe o'.dst (c.lk i) && (pureOp o'.op || rc.contains j))) && c.chk p true (i :: L) R
  | .alt p q, top, L, R => (match top with | true => (List.range c.ops.length).all fun j => !c.ready L j || (heads p ++ heads q).contains j | false => true) &&
      c.chk p false L R && c.chk q false L R
def ctxOf (ops : Array Oper) : Ctx := ⟨ops.toList, ops.toList.map fun o => o.looksAt ops, table ops.toList⟩
def tabOk (c : Ctx) : Bool := (List.range c.ops.length).all fun i => c.op i fun o => (predsOf o).all (fun p => Nat.blt p i) && (let m := (predsOf o).foldl (fun m p => bitOr m p c.tab) 0; Nat.beq (c.tab.getD i 0 ||| m) m)
def planOk (ops : Array Oper) (p : Plan) : Bool := tabOk (ctxOf ops) && (ctxOf ops).chk p true [] []
section
variable {C : Cfg} {E : Entry} {H : Hy} {np xb : Nat}
theorem pure_obs {o : Oper} (hp : pureOp o.op = true) {env : List X} {obs obs' : Obs} {Φ : X → Prop} (h : opK C H np xb o env obs fun x _ => Φ x) : opK C H np xb o env obs' fun x _ => Φ x := by
  unfold opK at h ⊢
  unfold pureOp at hp
  split at hp
  all_goals first | (cases hp; done) | skip
  all_goals rename_i hop
  all_goals simp only [hop] at h ⊢
  all_goals first | exact h | skip
  rename_i op _ _ y _
  cases hn : nilC op y with
  | some ng => rw [hn] at hp; cases hp
  | none => rw [hn] at h; exact h
theorem pure_reads {op : Op} (h : pureOp op = true) : reads op = true := by unfold pureOp at h; unfold reads; split at h <;> first | rfl | exact h | cases h
/-- A state that says less of some slots. -/
theorem Sim.le {env env' : List X} {obs : Obs} {a : Act} {w : World} (h : Sim C E ⟨env, obs⟩ a w) (hl : env'.length = env.length) (hx : ∀ t, Xle (env.getD t (.v .any)) (env'.getD t (.v .any))) : Sim C E ⟨env', obs⟩ a w := by
  obtain ⟨γ, I, h⟩ := h
  refine ⟨γ, I, h.defers, by rw [h.size]; exact hl.symm, fun i y hy => ?_, h.mr, h.fr, h.inc, h.new, h.own, h.glob, h.bx⟩
  have hi : i < env.length := by rw [← hl]; exact (List.getElem?_eq_some_iff.1 hy).1
  obtain ⟨u, h1, h2⟩ := h.slots i _ (List.getElem?_eq_getElem hi)
  refine ⟨u, h1, ?_⟩
  have := hx i γ I w (lk obs) u
  simp only [List.getD_eq_getElem?_getD, List.getElem?_eq_getElem hi, hy, Option.getD_some] at this
  exact this h2
theorem Sim.drew {st : St} {a : Act} {w : World} (h : Sim C E st a w) : Sim C E st a w.drew := by
  obtain ⟨γ, I, h⟩ := h
  have hk := Keep.drew (fun _ => False) γ I w (lk st.obs)
  have hm : MR γ I w.drew (lk st.obs) := ⟨fun k o hk' => (h.mr.ob k o hk').keep hk (fun _ hd => hd.elim) rfl (fun _ _ => rfl), h.mr.inj, h.mr.out, h.mr.lt⟩
  have := h.next hk (fun _ hd => hd.elim) (fun _ hd => hd.elim) hm ⟨rfl, rfl, rfl, Nat.le_refl _, fun _ _ _ => rfl⟩ (fun b hb => .inl hb) (fun k o b h1 h2 => .inl ⟨k, o, h1, h2⟩) (x := .v .any) (v := Go.undef) (VR.any _) none
  exact ⟨γ, I, this⟩
theorem testBit_foldl {tab : List Nat} {j : Nat} : ∀ (ps : List Nat) (m : Nat), Nat.testBit (ps.foldl (fun m p => bitOr m p tab) m) j = true → Nat.testBit m j = true ∨ ∃ p ∈ ps, j = p ∨ Nat.testBit (tab.getD p 0) j = true
  | [], m, h => .inl h
  | p :: ps, m, h => by
    rcases testBit_foldl ps _ h with h | ⟨q, hq, h⟩
    · unfold bitOr at h
      rw [Nat.testBit_or, Nat.testBit_or, Bool.or_eq_true, Bool.or_eq_true] at h
      rcases h with (h | h) | h
      · exact .inl h
      · exact .inr ⟨p, List.mem_cons_self, .inr h⟩
      · refine .inr ⟨p, List.mem_cons_self, .inl ?_⟩
        rw [Nat.one_shiftLeft, Nat.testBit_two_pow] at h
        exact (of_decide_eq_true h).symm
    · exact .inr ⟨q, List.mem_cons_of_mem _ hq, h⟩
theorem before_listed {ops : Array Oper} (ht : tabOk (ctxOf ops) = true) {l : Nat → Prop} (hd : ∀ k o, l k → ops[k]? = some o → ∀ p ∈ predsOf o, l p) : ∀ (i : Nat) (o : Oper), ops[i]? = some o → (∀ p ∈ predsOf o, l p) → ∀ j, (ctxOf ops).before j i = true → l j := by
  intro i
  induction i using Nat.strongRecOn with
  | _ i ih =>
    intro o ho hp j hj
    have hlt : i < ops.size := (Array.getElem?_eq_some_iff.1 ho).1
    have h1 := List.all_eq_true.1 ht i (by simpa [ctxOf] using hlt)
    have ho' : ops.toList[i]? = some o := by simpa using ho
    simp only [Ctx.op, ctxOf, ho', Bool.and_eq_true, List.all_eq_true] at h1
    obtain ⟨h2, h3⟩ := h1
    have h3 := Nat.eq_of_beq_eq_true h3
    have h4 : Nat.testBit ((predsOf o).foldl (fun m p => bitOr m p (table ops.toList)) 0) j = true := by
      rw [← h3, Nat.testBit_or]
      simp only [Ctx.before, ctxOf] at hj
      rw [hj]; rfl
    rcases testBit_foldl _ _ h4 with h5 | ⟨p, hpm, h5⟩
    · simp at h5
    · rcases h5 with rfl | h5
      · exact hp _ hpm
      · have hpi : p < i := Nat.le_of_ble_eq_true (h2 p hpm)
        have hps : p < ops.size := Nat.lt_trans hpi hlt
        exact ih p hpi _ (Array.getElem?_eq_getElem hps) (hd p _ (hp p hpm) (Array.getElem?_eq_getElem hps)) j (by simpa [Ctx.before, ctxOf] using h5)
def Xeq (x y : X) : Prop := Xle x y ∧ Xle y x
theorem Xle.rfl' (x : X) : Xle x x := fun _ _ _ _ _ h => h
theorem Xle.trans {x y z : X} (h : Xle x y) (h' : Xle y z) : Xle x z := fun _ _ _ _ _ hx => h' _ _ _ _ _ (h _ _ _ _ _ hx)
theorem Xle.any (x : X) : Xle x (.v .any) := fun _ _ _ _ _ _ => VR.any _
theorem Xeq.rfl' (x : X) : Xeq x x := ⟨.rfl' x, .rfl' x⟩
theorem Xeq.bool (b : Bool) : Xeq (.v (.bool b)) (litX b) := by
  constructor
  · intro γ I w L u h
    cases h
    cases b with
    | true => exact VR.tt
    | false => exact VR.ff
  · intro γ I w L u h
    cases b with
    | true => cases h; exact VR.bool true
    | false => cases h; exact VR.bool false
/-- A slot's worth. -/
abbrev sl (env : List X) (t : Nat) : X := env.getD t (.v .any)
def Ref (env env2 : List X) : Prop := env2.length = env.length ∧ ∀ t, Xeq (sl env t) (sl env2 t) ∧ (sl env t = sl env2 t ∨ ∃ b, sl env t = .v (.bool b))
def Lit (ops : List Oper) (o : Oper) (env : List X) (yes : Bool) : Prop :=
  match o.guard with
  | none => yes = true
  | some g => ∃ oj d, ops[g.1]? = some oj ∧ oj.dst = some d ∧ ((∃ b, sl env d = litX b ∧ yes = (b == g.2)) ∨ ∃ xs, sl env d = .tup xs ∧ yes = false)
theorem Lit.none {ops : List Oper} {o : Oper} {env : List X} (h : o.guard = .none) : Lit ops o env true := by unfold Lit; rw [h]
theorem Lit.some {ops : List Oper} {o : Oper} {env : List X} {g : Nat × Bool} {oj : Oper} {d : Nat} {b : Bool} (h : o.guard = .some g) (h1 : ops[g.1]? = .some oj) (h2 : oj.dst = .some d) (h3 : sl env d = litX b) : Lit ops o env (b == g.2) := by
  unfold Lit; rw [h]; exact ⟨oj, d, h1, h2, .inl ⟨b, h3, rfl⟩⟩
theorem Lit.non {ops : List Oper} {o : Oper} {env : List X} {g : Nat × Bool} {oj : Oper} {d : Nat} {xs : List X} (h : o.guard = .some g) (h1 : ops[g.1]? = .some oj) (h2 : oj.dst = .some d) (h3 : sl env d = .tup xs) : Lit ops o env false := by
  unfold Lit; rw [h]; exact ⟨oj, d, h1, h2, .inr ⟨xs, h3, rfl⟩⟩
theorem Lit.inv {ops : List Oper} {o : Oper} {env : List X} {yes : Bool} (h : Lit ops o env yes) : (o.guard = .none ∧ yes = true) ∨ ∃ g oj d, o.guard = .some g ∧ ops[g.1]? = .some oj ∧ oj.dst = .some d ∧ ((∃ b, sl env d = litX b ∧ yes = (b == g.2)) ∨ ∃ xs, sl env d = .tup xs ∧ yes = false) := by
  unfold Lit at h
  split at h
  · rename_i hg; exact .inl ⟨hg, h⟩
  · rename_i g hg; obtain ⟨oj, d, h1, h2, h3⟩ := h; exact .inr ⟨g, oj, d, hg, h1, h2, h3⟩
theorem sl_set {env : List X} {d t : Nat} {x : X} : sl (env.set d x) t = if d = t ∧ d < env.length then x else sl env t := by
  unfold sl
  simp only [List.getD_eq_getElem?_getD, List.getElem?_set]
  by_cases h : d = t
  · subst h
    by_cases hl : d < env.length
    · simp [hl]
    · simp [hl]
  · simp [h]
theorem sl_put {env : List X} {d : Option Nat} {t : Nat} {x : X} : sl (put env d x) t = if d = some t ∧ t < env.length then x else sl env t := by
  cases d with
  | none => simp [put]
  | some d =>
    rw [put, sl_set]
    by_cases h : d = t
    · subst h; simp
    · simp [h]
theorem beq'_eq (b c : Bool) : wantK.Bool.beq' b c = (b == c) := by cases b <;> cases c <;> rfl
theorem want_split {ops : List Oper} {o : Oper} {env : List X} {K : List X → Bool → Prop} (h : wantK ops o env K) : ∃ env2 yes, Ref env env2 ∧ Lit ops o env2 yes ∧ K env2 yes := by
  unfold wantK at h
  split at h
  · rename_i hg; exact ⟨env, true, ⟨rfl, fun t => ⟨.rfl' _, .inl rfl⟩⟩, Lit.none hg, h⟩
  · rename_i g hg
    split at h
    · exact h.elim
    · rename_i oj hoj
      split at h
      · exact h.elim
      · rename_i d hd
        rw [look_eq] at h
        have fin : ∀ (b : Bool) (env : List X), (match wantK.Bool.beq' b g.2 with | true => K env true | false => K env false) → K env (b == g.2) := fun b env h => by
          rw [beq'_eq] at h
          cases hb : (b == g.2) with
          | true => rw [hb] at h; exact h
          | false => rw [hb] at h; exact h
        have sym : ∀ b, sl env d = .v (.bool b) → K (env.set d (litX b)) (b == g.2) → ∃ env2 yes, Ref env env2 ∧ Lit ops o env2 yes ∧ K env2 yes := fun b hb hk => by
          have hl : d < env.length := by
            rcases Nat.lt_or_ge d env.length with q | q
            · exact q
            · simp [sl, List.getElem?_eq_none q] at hb
          refine ⟨_, _, ⟨by simp, fun t => ?_⟩, Lit.some hg hoj hd ?_, hk⟩
          · rw [sl_set]
            split
            · rename_i hc
              obtain ⟨rfl, _⟩ := hc
              exact ⟨by rw [hb]; exact Xeq.bool b, .inr ⟨b, hb⟩⟩
            · exact ⟨.rfl' _, .inl rfl⟩
          · rw [sl_set, if_pos ⟨rfl, hl⟩]
        change isW (sl env d) _ _ _ at h
        generalize hx : sl env d = x at h
        unfold isW at h
        split at h
        · exact ⟨env, _, ⟨rfl, fun t => ⟨.rfl' _, .inl rfl⟩⟩, Lit.non hg hoj hd hx, h⟩
        unfold isB at h
        split at h
        · exact ⟨env, _, ⟨rfl, fun t => ⟨.rfl' _, .inl rfl⟩⟩, Lit.some (b := true) hg hoj hd hx, fin true env h⟩
        · exact ⟨env, _, ⟨rfl, fun t => ⟨.rfl' _, .inl rfl⟩⟩, Lit.some (b := false) hg hoj hd hx, fin false env h⟩
        · rename_i b hnt
          cases b with
          | true => have := h.1 rfl; rw [setK_eq] at this; exact sym true hx (fin true _ this)
          | false => have := h.2 rfl; rw [setK_eq] at this; exact sym false hx (fin false _ this)
        · exact h.elim
theorem want_lit {ops : List Oper} {o : Oper} {env : List X} {yes : Bool} {K : List X → Bool → Prop} (hl : Lit ops o env yes) (h : wantK ops o env K) : K env yes := by
  unfold wantK at h
  unfold Lit at hl
  split at h
  · rename_i hg; rw [hg] at hl; simp only at hl; subst hl; exact h
  · rename_i g hg
    rw [hg] at hl
    obtain ⟨oj, d, h1, h2, h3⟩ := hl
    rw [h1] at h
    simp only [h2] at h
    rw [look_eq] at h
    change isW (sl env d) _ _ _ at h
    rcases h3 with ⟨b, h3, rfl⟩ | ⟨xs, h3, rfl⟩
    case inr => rw [h3] at h; exact h
    rw [h3] at h
    cases b with
    | true => simp only [litX, isW, isB, beq'_eq] at h; cases hb : (true == g.2) <;> (rw [hb] at h; exact h)
    | false => simp only [litX, isW, isB, beq'_eq] at h; cases hb : (false == g.2) <;> (rw [hb] at h; exact h)
end
end Go.Proofs.Ytdpgdeaefmghiaa.Sx

/- The plan serves every order. -/
namespace Go.Proofs.Ytdpgdeaefmghiaa.Sx
section
variable {C : Cfg} {E : Entry} {H : Hy} {np xb : Nat}
def mask (ds : List Nat) (env : List X) : List X := env.mapIdx fun t x => if ds.contains t then .v .any else x
theorem sl_mask {ds : List Nat} {env : List X} {t : Nat} : sl (mask ds env) t = if t ∈ ds then .v .any else sl env t := by
  unfold sl mask
  simp only [List.getD_eq_getElem?_getD, List.getElem?_mapIdx]
  cases h : env[t]? with
  | none => simp
  | some x => simp
theorem mask_length {ds : List Nat} {env : List X} : (mask ds env).length = env.length := by simp [mask]
theorem fresh_mask {ds : List Nat} {env : List X} {k : Nat} {obs : Obs} (h : fresh k env obs = true) : fresh k (mask ds env) obs = true := by
  simp only [fresh, Bool.and_eq_true] at h ⊢
  refine ⟨List.all_eq_true.2 fun x hx => ?_, h.2⟩
  obtain ⟨t, ht, rfl⟩ := List.getElem_of_mem hx
  simp only [mask, List.getElem_mapIdx]
  split
  · rfl
  · exact List.all_eq_true.1 h.1 _ (List.getElem_mem _)
def dstsOf (ops : Array Oper) (D : List Nat) : List Nat := D.filterMap fun i => (ops[i]?).bind (·.dst)
theorem mem_dsts {ops : Array Oper} {D : List Nat} {t : Nat} : t ∈ dstsOf ops D ↔ ∃ i ∈ D, ∃ o, ops[i]? = some o ∧ o.dst = some t := by
  unfold dstsOf
  rw [List.mem_filterMap]
  constructor
  · rintro ⟨i, hi, h⟩
    cases ho : ops[i]? with
    | none => simp [ho] at h
    | some o => exact ⟨i, hi, o, ho, by simpa [ho] using h⟩
  · rintro ⟨i, hi, o, ho, h⟩
    exact ⟨i, hi, by simp [ho, h]⟩
/-- A reading, put off. -/
def RC (C : Cfg) (H : Hy) (np xb : Nat) (ops : Array Oper) (o : Oper) (env : List X) (obs : Obs) : Prop :=
  ∃ env1 yes, Lit ops.toList o env yes ∧ env1.length = env.length ∧ (∀ t ∈ o.looksAt ops, Xeq (sl env t) (sl env1 t)) ∧
    (yes = true → opK C H np xb o env1 obs fun x _ => ∀ d, o.dst = some d → Xle x (sl env d)) ∧ (yes = false → ∀ d, o.dst = some d → d < env.length → sl env d = .tup [])
theorem guard_looks {ops : Array Oper} {o oj : Oper} {g : Nat × Bool} {d : Nat} (hg : o.guard = some g) (h1 : ops.toList[g.1]? = some oj) (h2 : oj.dst = some d) : d ∈ o.looksAt ops := by
  unfold Oper.looksAt
  rw [hg]
  have : ops[g.1]? = some oj := by simpa using h1
  simp [this, h2]
theorem opd_looks {ops : Array Oper} {o : Oper} {x : Operand} {t : Nat} (hx : x ∈ o.op.operands.toList) (ht : x = .tmp t) : t ∈ o.looksAt ops := by
  unfold Oper.looksAt
  subst ht
  exact List.mem_append_left _ (List.mem_filterMap.2 ⟨_, hx, rfl⟩)
theorem opd_same {ops : Array Oper} {o : Oper} {env env' : List X} (h : ∀ t ∈ o.looksAt ops, sl env' t = sl env t) : ∀ x ∈ o.op.operands.toList, opd C env' x = opd C env x := by
  intro x hx
  cases x with
  | tmp t => exact h t (opd_looks hx rfl)
  | const v => cases v <;> rfl
  | global g => rfl
  | func f => rfl
theorem lit_wanted {ops : Array Oper} {o : Oper} {env env' : List X} {obs : Obs} {a : Act} {w : World} (h : Sim C E ⟨env', obs⟩ a w) {yes : Bool} (hl : Lit ops.toList o env yes) (hs : ∀ t ∈ o.looksAt ops, sl env' t = sl env t) : Region.wanted o (yielded ops a.tmps) = yes := by
  unfold Region.wanted
  rcases hl.inv with ⟨hg, rfl⟩ | ⟨g, oj, d, hg, h1, h2, h3⟩
  · rw [hg]
  · rw [hg]
    simp only
    obtain ⟨γ, I, h⟩ := h
    have hx := slot_of h d
    have h1' : ops[g.1]? = some oj := by simpa using h1
    rcases h3 with ⟨b, h3, rfl⟩ | ⟨xs, h3, rfl⟩
    case inr =>
      have : env'.getD d (.v .any) = .tup xs := by rw [← h3]; exact hs d (guard_looks hg h1 h2)
      rw [this] at hx
      obtain ⟨us, hu, _⟩ := hx
      have hy : yielded ops a.tmps g.1 = none := by
        unfold yielded
        rw [h1']; simp only [Option.bind_some, h2]
        rw [Array.getD_eq_getD_getElem?] at hu
        cases ht : a.tmps[d]? with
        | none => rfl
        | some v => rw [ht] at hu; simp at hu; subst hu; rfl
      rw [hy]; rfl
    have : env'.getD d (.v .any) = litX b := by rw [← h3]; exact hs d (guard_looks hg h1 h2)
    rw [this] at hx
    have hb : a.tmps.getD d undef = .bool b := by
      generalize a.tmps.getD d undef = u at hx ⊢
      cases b with
      | true => cases hx; rfl
      | false => cases hx; rfl
    have hy : yielded ops a.tmps g.1 = some b := by
      unfold yielded
      rw [h1']; simp only [Option.bind_some, h2]
      rw [Array.getD_eq_getD_getElem?] at hb
      cases ht : a.tmps[d]? with
      | none => rw [ht] at hb; simp [undef] at hb
      | some v => rw [ht] at hb; simp at hb; subst hb; rfl
    rw [hy]
    rfl
theorem Lit.ref {ops : List Oper} {o : Oper} {env env2 : List X} {yes : Bool} (hl : Lit ops o env yes) (hr : Ref env env2) : Lit ops o env2 yes := by
  rcases hl.inv with ⟨hg, rfl⟩ | ⟨g, oj, d, hg, h1, h2, ⟨b, h3, rfl⟩ | ⟨xs, h3, rfl⟩⟩
  · exact Lit.none hg
  · refine Lit.some hg h1 h2 ?_
    rcases (hr.2 d).2 with e | ⟨b', e⟩
    · rw [← e, h3]
    · rw [h3] at e; cases b <;> cases e
  · refine Lit.non (xs := xs) hg h1 h2 ?_
    rcases (hr.2 d).2 with e | ⟨b', e⟩
    · rw [← e, h3]
    · rw [h3] at e; cases e
theorem Lit.same {ops : Array Oper} {o : Oper} {env env2 : List X} {yes : Bool} (hl : Lit ops.toList o env yes) (hs : ∀ t ∈ o.looksAt ops, sl env2 t = sl env t) : Lit ops.toList o env2 yes := by
  rcases hl.inv with ⟨hg, rfl⟩ | ⟨g, oj, d, hg, h1, h2, ⟨b, h3, rfl⟩ | ⟨xs, h3, rfl⟩⟩
  · exact Lit.none hg
  · exact Lit.some hg h1 h2 (by rw [hs d (guard_looks hg h1 h2), h3])
  · exact Lit.non (xs := xs) hg h1 h2 (by rw [hs d (guard_looks hg h1 h2), h3])
theorem Xeq.trans {x y z : X} (h : Xeq x y) (h' : Xeq y z) : Xeq x z := ⟨h.1.trans h'.1, h'.2.trans h.2⟩
theorem Xeq.symm {x y : X} (h : Xeq x y) : Xeq y x := ⟨h.2, h.1⟩
theorem opK_mono {o : Oper} (hr : reads o.op = true) {env : List X} {obs : Obs} {K K' : X → Obs → Prop} (hk : ∀ x, K x obs → K' x obs) (h : opK C H np xb o env obs K) : opK C H np xb o env obs K' := by
  obtain ⟨x, h1, h2⟩ := opK_reads hr env obs K h
  exact h2 K' (hk x h1)
theorem RC.ref {ops : Array Oper} {o : Oper} {env env2 : List X} {obs : Obs} (hro : reads o.op = true) (h : RC C H np xb ops o env obs) (hr : Ref env env2) : RC C H np xb ops o env2 obs := by
  obtain ⟨env1, yes, h1, h2, h3, h4, h5⟩ := h
  refine ⟨env1, yes, h1.ref hr, by rw [h2, hr.1], fun t ht => (hr.2 t).1.symm.trans (h3 t ht), fun hy => opK_mono hro (fun x hx d hd => (hx d hd).trans (hr.2 d).1.1) (h4 hy), fun hy d hd hlt => ?_⟩
  have := h5 hy d hd (by rw [← hr.1]; exact hlt)
  rcases (hr.2 d).2 with e | ⟨b', e⟩
  · rw [← e, this]
  · rw [this] at e; cases e
/-- Another slot is written. -/
theorem RC.put {ops : Array Oper} {o : Oper} {env : List X} {obs : Obs} (hro : reads o.op = true) (h : RC C H np xb ops o env obs) {d : Option Nat} {x : X} (h1 : ∀ k, d = some k → k ∉ o.looksAt ops) (h2 : ∀ k, d = some k → o.dst ≠ some k) : RC C H np xb ops o (put env d x) obs := by
  obtain ⟨env1, yes, q1, q2, q3, q4, q5⟩ := h
  have hlook : ∀ t ∈ o.looksAt ops, sl (Go.Proofs.Ytdpgdeaefmghiaa.Sx.put env d x) t = sl env t := fun t ht => by
    rw [sl_put, if_neg]; rintro ⟨rfl, _⟩; exact h1 t rfl ht
  have hdst : ∀ k, o.dst = some k → sl (Go.Proofs.Ytdpgdeaefmghiaa.Sx.put env d x) k = sl env k := fun k hk => by
    rw [sl_put, if_neg]; rintro ⟨rfl, _⟩; exact h2 k rfl hk
  have hlen : (Go.Proofs.Ytdpgdeaefmghiaa.Sx.put env d x).length = env.length := by cases d <;> simp [Go.Proofs.Ytdpgdeaefmghiaa.Sx.put]
  exact ⟨env1, yes, q1.same hlook, by rw [q2, hlen], fun t ht => by rw [hlook t ht]; exact q3 t ht, fun hy => opK_mono hro (fun x hx k hk => by rw [hdst k hk]; exact hx k hk) (q4 hy), fun hy k hk hlt => by rw [hdst k hk]; exact q5 hy k hk (by rw [← hlen]; exact hlt)⟩
theorem RC.pure {ops : Array Oper} {o : Oper} {env : List X} {obs obs' : Obs} (hp : pureOp o.op = true) (h : RC C H np xb ops o env obs) : RC C H np xb ops o env obs' := by
  obtain ⟨env1, yes, q1, q2, q3, q4, q5⟩ := h
  exact ⟨env1, yes, q1, q2, q3, fun hy => pure_obs (Φ := fun x => ∀ d, o.dst = some d → Xle x (sl env d)) hp (q4 hy), q5⟩
/-- Looked at again. -/
theorem RC.again {ops : Array Oper} {o : Oper} {env : List X} {obs obs' : Obs} (hro : reads o.op = true) (h : RC C H np xb ops o env obs) (hrc : wantK ops.toList o env fun _ yes => againK C H np xb o env obs' yes) : RC C H np xb ops o env obs' := by
  obtain ⟨env1, yes, q1, q2, q3, q4, q5⟩ := h
  have hw : againK C H np xb o env obs' yes := want_lit (K := fun _ yes => againK C H np xb o env obs' yes) q1 hrc
  refine ⟨env, yes, q1, rfl, fun t _ => .rfl' _, fun hy => ?_, q5⟩
  subst hy
  unfold againK at hw
  refine opK_mono hro (fun x hx d hd => ?_) hw
  rw [hd] at hx
  simp only [look_eq] at hx
  exact hx.le
theorem rcK_get {ops : Array Oper} {env : List X} {obs : Obs} {j : Nat} {o : Oper} (ho : ops[j]? = some o) (rc : List Nat) (h : rcK C H np xb ops.toList env obs rc) (hj : j ∈ rc) : wantK ops.toList o env fun _ yes => againK C H np xb o env obs yes := by
  induction rc with
  | nil => cases hj
  | cons i is ih =>
    rw [rcK] at h
    rcases List.mem_cons.1 hj with rfl | hj
    · have h1 := h.1
      have : ops.toList[j]? = some o := by simpa using ho
      rw [this] at h1
      exact h1
    · exact ih h.2 hj
end
end Go.Proofs.Ytdpgdeaefmghiaa.Sx

/- Every order of a region that draws. -/
namespace Go.Proofs.Ytdpgdeaefmghiaa.Sx
section
variable {C : Cfg} {E : Entry} {H : Hy} {np xb : Nat} {ops : Array Oper} {K : List X → Obs → Prop}
structure Inv (C : Cfg) (E : Entry) (H : Hy) (np xb : Nat) (ops : Array Oper) (K : List X → Obs → Prop) (p : Plan) (top : Bool) (L R D : List Nat) (env : List X) (obs : Obs) (l : Array Bool) (a : Act) (w : World) : Prop where
  chk : (ctxOf ops).chk p top L R = true
  size : l.size = ops.size
  mem : ∀ i, i < ops.size → (l.getD i true = true ↔ i ∈ L ∧ i ∉ D)
  sub : ∀ i ∈ D, i ∈ R
  lt : ∀ i ∈ L, i < ops.size
  rl : ∀ i ∈ R, i ∈ L
  down : ∀ k o, l.getD k false = true → ops[k]? = some o → ∀ q ∈ predsOf o, l.getD q false = true
  rc : ∀ i ∈ D, ∃ o, ops[i]? = some o ∧ reads o.op = true ∧ RC C H np xb ops o env obs
  rel : ∀ i ∈ D, ∀ j ∈ D, ∀ o o', ops[i]? = some o → ops[j]? = some o' → ∀ d, o'.dst = some d → (d ∈ o.looksAt ops → (ctxOf ops).before j i = true) ∧ (i ≠ j → o.dst ≠ some d)
  run : cr C H np xb ops.toList K p env obs
  sim : Sim C E ⟨mask (dstsOf ops D) env, obs⟩ a w
theorem op_get {i : Nat} {k : Oper → Bool} (h : (ctxOf ops).op i k = true) : ∃ o, ops[i]? = some o ∧ k o = true := by
  unfold Ctx.op at h
  split at h
  · rename_i o ho; exact ⟨o, by simpa [ctxOf] using ho, h⟩
  · cases h
theorem lk_get {i : Nat} {o : Oper} (h : ops[i]? = some o) : (ctxOf ops).lk i = o.looksAt ops := by
  have : ops.toList[i]? = some o := by simpa using h
  simp [Ctx.lk, ctxOf, this, List.getD_eq_getElem?_getD]
theorem dstNe_spec {d : Option Nat} {l : List Nat} (h : dstNe d l = true) : ∀ k, d = some k → k ∉ l := by
  intro k hk
  subst hk
  simpa [dstNe] using h
theorem neDst_spec {d d' : Option Nat} (h : neDst d d' = true) : ∀ k, d = some k → d' ≠ some k := by
  intro k hk e
  subst hk; subst e
  simp [neDst] at h
theorem ready_get {L : List Nat} {i : Nat} (h : (ctxOf ops).ready L i = true) : i ∉ L ∧ ∃ o, ops[i]? = some o ∧ ∀ p ∈ predsOf o, p ∈ L := by
  unfold Ctx.ready at h
  rw [Bool.and_eq_true] at h
  obtain ⟨o, ho, hp⟩ := op_get h.2
  exact ⟨by simpa using h.1, o, ho, fun p hpm => by simpa using List.all_eq_true.1 hp p hpm⟩
theorem ready_of {L : List Nat} {i : Nat} {o : Oper} (h : i ∉ L) (ho : ops[i]? = some o) (hp : ∀ p ∈ predsOf o, p ∈ L) : (ctxOf ops).ready L i = true := by
  unfold Ctx.ready Ctx.op
  have : (ctxOf ops).ops[i]? = some o := by simpa [ctxOf] using ho
  rw [this, Bool.and_eq_true]
  exact ⟨by simpa using h, List.all_eq_true.2 fun p hpm => by simpa using hp p hpm⟩
theorem mem_predsOf {o : Oper} {p : Nat} : p ∈ predsOf o ↔ ∃ e ∈ o.after, Region.binds .any e = true ∧ e.on = p := by
  unfold predsOf
  simp only [List.mem_map, List.mem_filter, Array.mem_toList_iff]
  constructor
  · rintro ⟨e, ⟨h1, h2⟩, h3⟩; exact ⟨e, h1, h2, h3⟩
  · rintro ⟨e, h1, h2, h3⟩; exact ⟨e, ⟨h1, h2⟩, h3⟩
theorem ready_inv {l : Array Bool} {i : Nat} (h : i ∈ Region.ready .any ops l) : l.getD i true = false ∧ ∃ o, ops[i]? = some o ∧ ∀ p ∈ predsOf o, l.getD p false = true := by
  obtain ⟨h1, o, ho, h2⟩ := mem_ready.1 h
  exact ⟨h1, o, ho, fun p hp => by obtain ⟨e, he, hb, rfl⟩ := mem_predsOf.1 hp; exact h2 e he hb⟩
theorem len_put {env : List X} {d : Option Nat} {x : X} : (put env d x).length = env.length := by cases d <;> simp [put]
/-- A reading is put off. -/
theorem Inv.rd {i : Nat} {p : Plan} {L R D : List Nat} {env : List X} {obs : Obs} {l : Array Bool} {a : Act} {w : World} (h : Inv C E H np xb ops K (.rd i p) true L R D env obs l a w) : ∃ env', Inv C E H np xb ops K p true (i :: L) (i :: R) (i :: D) env' obs l a w := by
  have hc := h.chk
  simp only [Ctx.chk, Bool.and_eq_true, Bool.true_and] at hc
  obtain ⟨⟨hrdy, hop⟩, hchk⟩ := hc
  obtain ⟨hiL, o, ho, _⟩ := ready_get hrdy
  obtain ⟨o1, ho1, hop⟩ := op_get hop
  rw [ho] at ho1; injection ho1 with e; subst e
  simp only [Bool.and_eq_true, List.all_eq_true] at hop
  obtain ⟨⟨hr, hself⟩, hR⟩ := hop
  rw [lk_get ho] at hself
  have hself := dstNe_spec hself
  have hilt : i < ops.size := (Array.getElem?_eq_some_iff.1 ho).1
  have hiD : i ∉ D := fun hd => hiL (h.rl i (h.sub i hd))
  have ho' : ops.toList[i]? = some o := by simpa using ho
  have hrun : wantK ops.toList o env fun env yes => match yes with
        | true => opK C H np xb o env obs fun x obs => putK env o.dst x fun env => cr C H np xb ops.toList K p env obs
        | false => putK env o.dst (.tup []) fun env => cr C H np xb ops.toList K p env obs := by
    have := h.run
    unfold cr at this
    simp only [ho'] at this
    exact this
  obtain ⟨env2, yes, href, hlit, hrun⟩ := want_split hrun
  -- what the reading yields
  have key : ∃ x, cr C H np xb ops.toList K p (put env2 o.dst x) obs ∧ RC C H np xb ops o (put env2 o.dst x) obs := by
    have hsame : ∀ x, ∀ t ∈ o.looksAt ops, sl (put env2 o.dst x) t = sl env2 t := fun x t ht => by
      rw [sl_put, if_neg]; rintro ⟨hd, _⟩; exact hself t hd ht
    cases yes with
    | true =>
      simp only [putK_eq] at hrun
      obtain ⟨x, h1, h2⟩ := opK_reads hr env2 obs _ hrun
      refine ⟨x, h1, env2, true, hlit.same (hsame x), len_put.symm, fun t ht => by rw [hsame x t ht]; exact .rfl' _, fun _ => h2 _ (fun d hd => ?_), fun e => (by cases e)⟩
      rw [sl_put]
      split
      · exact .rfl' _
      · rename_i hn
        have : sl env2 d = .v .any := by
          have : ¬ d < env2.length := fun hl => hn ⟨hd, hl⟩
          simp [sl, List.getElem?_eq_none (Nat.le_of_not_lt this)]
        rw [this]; exact .any _
    | false =>
      simp only [putK_eq] at hrun
      refine ⟨.tup [], hrun, env2, false, hlit.same (hsame _), len_put.symm, fun t ht => by rw [hsame _ t ht]; exact .rfl' _, fun e => (by cases e), fun _ d hd hlt => ?_⟩
      rw [len_put] at hlt
      rw [sl_put, if_pos ⟨hd, hlt⟩]
  obtain ⟨x, hrun, hRC⟩ := key
  have far : ∀ j ∈ D, ∀ o', ops[j]? = some o' → (∀ k, o.dst = some k → k ∉ o'.looksAt ops) ∧ (∀ k, o.dst = some k → o'.dst ≠ some k) ∧ ((ctxOf ops).before j i = true ∨ ∀ k, o'.dst = some k → k ∉ o.looksAt ops) := by
    intro j hj o' hoj
    obtain ⟨o2, ho2, hx⟩ := op_get (hR j (h.sub j hj))
    rw [hoj] at ho2; injection ho2 with e; subst e
    simp only [Bool.and_eq_true, Bool.or_eq_true, lk_get hoj, lk_get ho] at hx
    exact ⟨dstNe_spec hx.1.1, neDst_spec hx.1.2, hx.2.imp id dstNe_spec⟩
  refine ⟨put env2 o.dst x, hchk, h.size, fun k hk => ?_, fun k hk => ?_, fun k hk => ?_, fun k hk => ?_, h.down, fun k hk => ?_, fun k hk j hj o1 o2 h1 h2 d hd => ?_, hrun, ?_⟩
  · rw [h.mem k hk]
    constructor
    · rintro ⟨q1, q2⟩
      exact ⟨List.mem_cons_of_mem _ q1, fun q => (List.mem_cons.1 q).elim (fun e => hiL (e ▸ q1)) q2⟩
    · rintro ⟨q1, q2⟩
      rcases List.mem_cons.1 q1 with rfl | q1
      · exact (q2 List.mem_cons_self).elim
      · exact ⟨q1, fun q => q2 (List.mem_cons_of_mem _ q)⟩
  · rcases List.mem_cons.1 hk with rfl | hk
    · exact List.mem_cons_self
    · exact List.mem_cons_of_mem _ (h.sub k hk)
  · rcases List.mem_cons.1 hk with rfl | hk
    · exact hilt
    · exact h.lt k hk
  · rcases List.mem_cons.1 hk with rfl | hk
    · exact List.mem_cons_self
    · exact List.mem_cons_of_mem _ (h.rl k hk)
  · rcases List.mem_cons.1 hk with rfl | hk
    · exact ⟨o, ho, hr, hRC⟩
    · obtain ⟨o', hoj, hro, hrc⟩ := h.rc k hk
      obtain ⟨f1, f2, _⟩ := far k hk o' hoj
      exact ⟨o', hoj, hro, (hrc.ref hro href).put hro f1 f2⟩
  · rcases List.mem_cons.1 hk with rfl | hk'
    · rw [ho] at h1; injection h1 with e; subst e
      rcases List.mem_cons.1 hj with rfl | hj
      · rw [ho] at h2; injection h2 with e; subst e
        exact ⟨fun hx => (hself d hd hx).elim, fun hx => (hx rfl).elim⟩
      · obtain ⟨f1, f2, f3⟩ := far j hj o2 h2
        exact ⟨fun hx => f3.elim id fun f3 => (f3 d hd hx).elim, fun _ e => f2 d e hd⟩
    · rcases List.mem_cons.1 hj with rfl | hj'
      · rw [ho] at h2; injection h2 with e; subst e
        obtain ⟨f1, f2, f3⟩ := far k hk' o1 h1
        exact ⟨fun hx => (f1 d hd hx).elim, fun _ => f2 d hd⟩
      · exact h.rel k hk' j hj' o1 o2 h1 h2 d hd
  · refine h.sim.le (by rw [mask_length, mask_length, len_put, href.1]) fun t => ?_
    show Xle (sl _ t) (sl _ t)
    rw [sl_mask, sl_mask]
    by_cases ht : t ∈ dstsOf ops (i :: D)
    · rw [if_pos ht]; exact .any _
    · rw [if_neg ht]
      have ht' : t ∉ dstsOf ops D := fun q => ht (by
        obtain ⟨j, hj, q⟩ := mem_dsts.1 q
        exact mem_dsts.2 ⟨j, List.mem_cons_of_mem _ hj, q⟩)
      rw [if_neg ht', sl_put, if_neg]
      · exact (href.2 t).1.1
      · rintro ⟨hd, _⟩; exact ht (mem_dsts.2 ⟨i, List.mem_cons_self, o, ho, hd⟩)
/-- What is listed, after one more. -/
theorem getD_set_self {l : Array Bool} {i : Nat} {d : Bool} (h : i < l.size) : (l.setIfInBounds i true).getD i d = true := by
  simp [h]
theorem listed_mono {l : Array Bool} {i k : Nat} (h : l.getD k false = true) : (l.setIfInBounds i true).getD k false = true := getD_set_true h
theorem down_set {l : Array Bool} {i : Nat} {o : Oper} (hd : ∀ k o, l.getD k false = true → ops[k]? = some o → ∀ q ∈ predsOf o, l.getD q false = true) (ho : ops[i]? = some o) (hp : ∀ p ∈ predsOf o, l.getD p false = true) :
    ∀ k o, (l.setIfInBounds i true).getD k false = true → ops[k]? = some o → ∀ q ∈ predsOf o, (l.setIfInBounds i true).getD q false = true := by
  intro k o' hk hok q hq
  by_cases hki : i = k
  · subst hki
    rw [ho] at hok; injection hok with e; subst e
    exact listed_mono (hp q hq)
  · rw [getD_set_ne false hki] at hk
    exact listed_mono (hd k o' hk hok q hq)
theorem getD_bool {l : Array Bool} {k : Nat} (h : k < l.size) : l.getD k false = l.getD k true := by simp [h]
/-- The operations before a ready one are listed. -/
theorem Inv.before {p : Plan} {top : Bool} {L R D : List Nat} {env : List X} {obs : Obs} {l : Array Bool} {a : Act} {w : World} (ht : tabOk (ctxOf ops) = true) (h : Inv C E H np xb ops K p top L R D env obs l a w) {i : Nat} {o : Oper} (ho : ops[i]? = some o) (hp : ∀ p ∈ predsOf o, l.getD p false = true) {j : Nat} (hj : j ∈ D) : (ctxOf ops).before j i ≠ true := by
  intro hb
  have := before_listed ht (l := fun k => l.getD k false = true) h.down i o ho hp j hb
  have hlt := h.lt j (h.rl j (h.sub j hj))
  rw [getD_bool (by rw [h.size]; exact hlt)] at this
  exact ((h.mem j hlt).1 this).2 hj
/-- One that was put off comes up. -/
theorem Inv.late (hH : HyOk C H) (hM : ∀ f en, H.tab f = some en → Mono en.spec) (hnp : ∀ k, np ≤ k → E.bx k = none) (hxb : ∀ k, xb ≤ k → E.bx k = none) (ht : tabOk (ctxOf ops) = true) {Q : Exit → Act → World → Prop} {p : Plan} {top : Bool} {L R D : List Nat} {env : List X} {obs : Obs} {l : Array Bool} {a : Act} {w : World} (h : Inv C E H np xb ops K p top L R D env obs l a w) {i : Nat} (hi : i ∈ D) (hrdy : i ∈ Region.ready .any ops l) :
    wpOp C.P ops Q i (fun a' w' => Inv C E H np xb ops K p top L R (D.filter fun j => !Nat.beq j i) env obs (l.setIfInBounds i true) a' w') a w := by
  obtain ⟨hl, o, ho, hp⟩ := ready_inv hrdy
  obtain ⟨o', ho', hr, env1, yes, hlit, hlen, hx, hy, hn⟩ := h.rc i hi
  rw [ho] at ho'; injection ho' with e; subst e
  have hilt : i < ops.size := (Array.getElem?_eq_some_iff.1 ho).1
  -- what it looks at stands
  have hlook : ∀ t ∈ o.looksAt ops, t ∉ dstsOf ops D := fun t htl hm => by
    obtain ⟨j, hj, oj, hoj, hd⟩ := mem_dsts.1 hm
    exact h.before ht ho hp hj ((h.rel i hi j hj o oj ho hoj t hd).1 htl)
  have hs : ∀ t ∈ o.looksAt ops, sl (mask (dstsOf ops D) env) t = sl env t := fun t htl => by rw [sl_mask, if_neg (hlook t htl)]
  have hw := lit_wanted h.sim hlit hs
  have hmemD : ∀ j, j ∈ D.filter (fun j => !Nat.beq j i) ↔ j ∈ D ∧ j ≠ i := fun j => by
    rw [List.mem_filter]
    refine and_congr_right fun _ => ?_
    rw [Bool.not_eq_true']
    exact ⟨fun q e => by subst e; simp at q, fun q => by rw [Bool.eq_false_iff]; exact fun e => q (Nat.eq_of_beq_eq_true e)⟩
  have fin : ∀ a' w', Sim C E ⟨mask (dstsOf ops (D.filter fun j => !Nat.beq j i)) env, obs⟩ a' w' → Inv C E H np xb ops K p top L R (D.filter fun j => !Nat.beq j i) env obs (l.setIfInBounds i true) a' w' := fun a' w' hsim => by
    refine ⟨h.chk, by simpa using h.size, fun k hk => ?_, fun k hk => h.sub k ((hmemD k).1 hk).1, h.lt, h.rl, down_set h.down ho hp, fun k hk => h.rc k ((hmemD k).1 hk).1, fun k hk j hj => h.rel k ((hmemD k).1 hk).1 j ((hmemD j).1 hj).1, h.run, hsim⟩
    by_cases hik : i = k
    · subst hik
      rw [getD_set_self (by rw [h.size]; exact hk)]
      exact ⟨fun _ => ⟨h.rl _ (h.sub _ hi), fun q => ((hmemD _).1 q).2 rfl⟩, fun _ => rfl⟩
    · rw [getD_set_ne true hik, h.mem k hk, hmemD]
      exact ⟨fun ⟨q1, q2⟩ => ⟨q1, fun q => q2 q.1⟩, fun ⟨q1, q2⟩ => ⟨q1, fun q => q2 ⟨q, fun e => hik e.symm⟩⟩⟩
  have ndst : ∀ d, o.dst = some d → d ∉ dstsOf ops (D.filter fun j => !Nat.beq j i) := fun d hd hm => by
    obtain ⟨j, hj, oj, hoj, hdj⟩ := mem_dsts.1 hm
    obtain ⟨hj, hne⟩ := (hmemD j).1 hj
    exact (h.rel j hj i hi oj o hoj ho d hd).2 hne hdj
  have sub' : ∀ t, t ∉ dstsOf ops (D.filter fun j => !Nat.beq j i) → o.dst ≠ some t → t ∉ dstsOf ops D := fun t h1 h2 h3 => by
    obtain ⟨j, hj, oj, hoj, hdj⟩ := mem_dsts.1 h3
    by_cases hji : j = i
    · subst hji; rw [ho] at hoj; injection hoj with e; subst e; exact h2 hdj
    · exact h1 (mem_dsts.2 ⟨j, (hmemD j).2 ⟨hj, hji⟩, oj, hoj, hdj⟩)
  unfold wpOp
  simp only [ho, hw]
  cases yes with
  | false =>
    rw [if_neg (by simp)]
    refine fin _ _ ((h.sim.undef o.dst).le (by rw [mask_length, len_put, mask_length]) fun t => ?_)
    show Xle (sl _ t) (sl _ t)
    have e2 := sl_mask (ds := dstsOf ops (D.filter fun j => !Nat.beq j i)) (env := env) (t := t)
    rw [sl_put, e2]
    by_cases hd : o.dst = some t
    · rw [if_neg (ndst t hd), mask_length]
      by_cases hlt : t < env.length
      · rw [if_pos ⟨hd, hlt⟩, hn rfl t hd hlt]; exact .rfl' _
      · have : sl env t = .v .any := by simp [sl, List.getElem?_eq_none (Nat.le_of_not_lt hlt)]
        rw [this]; exact .any _
    · rw [if_neg (fun q => hd q.1), sl_mask]
      by_cases hm : t ∈ dstsOf ops (D.filter fun j => !Nat.beq j i)
      · rw [if_pos hm]; exact .any _
      · rw [if_neg hm, if_neg (sub' t hm hd)]; exact .rfl' _
  | true =>
    rw [if_pos rfl]
    refine .inl ?_
    -- the slots as they were when it was put off
    let env'' := (mask (dstsOf ops D) env).mapIdx fun t x => if (o.looksAt ops).contains t then sl env1 t else x
    have hsl : ∀ t, sl env'' t = if t ∈ o.looksAt ops then sl env1 t else sl (mask (dstsOf ops D) env) t := fun t => by
      show sl (List.mapIdx _ _) t = _
      unfold sl
      simp only [List.getD_eq_getElem?_getD, List.getElem?_mapIdx]
      cases hg : (mask (dstsOf ops D) env)[t]? with
      | none =>
        have : env1[t]? = none := by
          rw [List.getElem?_eq_none_iff] at hg ⊢
          rw [mask_length] at hg; omega
        simp [this]
      | some x => by_cases hm : t ∈ o.looksAt ops <;> simp [hm]
    have hl'' : env''.length = env.length := by show (List.mapIdx _ _).length = _; simp [mask_length]
    have hsim : Sim C E ⟨env'', obs⟩ a w := h.sim.le (by rw [hl'', mask_length]) fun t => by
      show Xle (sl _ t) (sl _ t)
      rw [hsl]
      split
      · rename_i htl; rw [hs t htl]; exact (hx t htl).1
      · exact .rfl' _
    have hop := opK_env (env' := env'') (opd_same (C := C) fun t htl => by rw [hsl, if_pos htl]) (fun e => by rw [hr] at e; cases e) hM (hy rfl)
    obtain ⟨x, hx1, hx2⟩ := opK_reads hr _ _ _ hop
    obtain ⟨γ, I, hg⟩ := hsim
    refine Oper.wp_mono ?_ (op_sound hH hg (hx2 (fun y o2 => y = x ∧ o2 = obs) ⟨rfl, rfl⟩) hnp hxb)
    rintro a' w' ⟨y, o2, ⟨rfl, rfl⟩, hs'⟩
    refine fin _ _ (hs'.le (by rw [mask_length, len_put, hl'']) fun t => ?_)
    show Xle (sl _ t) (sl _ t)
    rw [sl_put, sl_mask]
    by_cases hd : o.dst = some t
    · rw [if_neg (ndst t hd)]
      split
      · exact hx1 t hd
      · rename_i hnl
        have : ¬ t < env.length := fun q => hnl ⟨hd, by rw [hl'']; exact q⟩
        have : sl env t = .v .any := by simp [sl, List.getElem?_eq_none (Nat.le_of_not_lt this)]
        rw [this]; exact .any _
    · rw [if_neg (fun q => hd q.1), hsl]
      by_cases hm : t ∈ dstsOf ops (D.filter fun j => !Nat.beq j i)
      · rw [if_pos hm]; exact .any _
      · rw [if_neg hm]
        split
        · rename_i htl; exact (hx t htl).2
        · rw [sl_mask, if_neg (sub' t hm hd)]; exact .rfl' _
/-- The next doing comes up. -/
theorem Inv.now (hH : HyOk C H) (hM : ∀ f en, H.tab f = some en → Mono en.spec) (hnp : ∀ k, np ≤ k → E.bx k = none) (hxb : ∀ k, xb ≤ k → E.bx k = none) (ht : tabOk (ctxOf ops) = true) {Q : Exit → Act → World → Prop} {p : Plan} {top : Bool} {L R D : List Nat} {env : List X} {obs : Obs} {l : Array Bool} {a : Act} {w : World} {i : Nat} {rcs : List Nat} (h : Inv C E H np xb ops K (.nr i rcs p) top L R D env obs l a w) (hrdy : i ∈ Region.ready .any ops l) :
    wpOp C.P ops Q i (fun a' w' => ∃ env' obs', Inv C E H np xb ops K p true (i :: L) R D env' obs' (l.setIfInBounds i true) a' w') a w := by
  obtain ⟨hl, o, ho, hp⟩ := ready_inv hrdy
  have hc := h.chk
  simp only [Ctx.chk, Bool.and_eq_true] at hc
  obtain ⟨⟨⟨_, hrl⟩, hop⟩, hchk⟩ := hc
  obtain ⟨hiL, _⟩ := ready_get hrl
  obtain ⟨o1, ho1, hR⟩ := op_get hop
  rw [ho] at ho1; injection ho1 with e; subst e
  rw [List.all_eq_true] at hR
  have hilt : i < ops.size := (Array.getElem?_eq_some_iff.1 ho).1
  have hiD : i ∉ D := fun hd => hiL (h.rl i (h.sub i hd))
  have ho' : ops.toList[i]? = some o := by simpa using ho
  have far : ∀ j ∈ D, ∀ o', ops[j]? = some o' → (∀ k, o.dst = some k → k ∉ o'.looksAt ops) ∧ (∀ k, o.dst = some k → o'.dst ≠ some k) ∧ (∀ k, o'.dst = some k → k ∉ o.looksAt ops) ∧ (pureOp o'.op = true ∨ j ∈ rcs) := by
    intro j hj o' hoj
    obtain ⟨o2, ho2, hx⟩ := op_get (hR j (h.sub j hj))
    rw [hoj] at ho2; injection ho2 with e; subst e
    simp only [Bool.and_eq_true, Bool.or_eq_true, lk_get hoj, lk_get ho] at hx
    rcases hx with hx | hx
    · exact (h.before ht ho hp hj hx).elim
    · exact ⟨dstNe_spec hx.1.1.1, neDst_spec hx.1.1.2, dstNe_spec hx.1.2, hx.2.imp id fun q => by simpa using q⟩
  have hrun : wantK ops.toList o env fun env yes => match yes with
        | true => opK C H np xb o env obs fun x obs => putK env o.dst x fun env => rcK C H np xb ops.toList env obs rcs ∧ cr C H np xb ops.toList K p env obs
        | false => putK env o.dst (.tup []) fun env => rcK C H np xb ops.toList env obs rcs ∧ cr C H np xb ops.toList K p env obs := by
    have := h.run
    unfold cr at this
    simp only [ho'] at this
    exact this
  obtain ⟨env2, yes, href, hlit, hrun⟩ := want_split hrun
  have hsim : Sim C E ⟨mask (dstsOf ops D) env2, obs⟩ a w := h.sim.le (by rw [mask_length, mask_length, href.1]) fun t => by
    show Xle (sl _ t) (sl _ t)
    rw [sl_mask, sl_mask]
    split
    · exact .rfl' _
    · exact (href.2 t).1.1
  have hs : ∀ t ∈ o.looksAt ops, sl (mask (dstsOf ops D) env2) t = sl env2 t := fun t htl => by
    rw [sl_mask, if_neg]
    intro hm
    obtain ⟨j, hj, oj, hoj, hd⟩ := mem_dsts.1 hm
    exact (far j hj oj hoj).2.2.1 t hd htl
  have ndst : ∀ d, o.dst = some d → d ∉ dstsOf ops D := fun d hd hm => by
    obtain ⟨j, hj, oj, hoj, hdj⟩ := mem_dsts.1 hm
    exact (far j hj oj hoj).2.1 d hd hdj
  have hw := lit_wanted hsim hlit hs
  have fin : ∀ (a' : Act) (w' : World) (x : X) (obs' : Obs), rcK C H np xb ops.toList (put env2 o.dst x) obs' rcs ∧ cr C H np xb ops.toList K p (put env2 o.dst x) obs' → (Sim C E ⟨put (mask (dstsOf ops D) env2) o.dst x, obs'⟩ a' w') →
      Inv C E H np xb ops K p true (i :: L) R D (put env2 o.dst x) obs' (l.setIfInBounds i true) a' w' := fun a' w' x obs' ⟨hrk, hcr⟩ hsim' => by
    refine ⟨hchk, by simpa using h.size, fun k hk => ?_, h.sub, fun k hk => ?_, fun k hk => List.mem_cons_of_mem _ (h.rl k hk), down_set h.down ho hp, fun k hk => ?_, h.rel, hcr, hsim'.le (by rw [mask_length, len_put, len_put, mask_length]) fun t => ?_⟩
    · by_cases hik : i = k
      · subst hik
        rw [getD_set_self (by rw [h.size]; exact hk)]
        exact ⟨fun _ => ⟨List.mem_cons_self, hiD⟩, fun _ => rfl⟩
      · rw [getD_set_ne true hik, h.mem k hk]
        exact ⟨fun ⟨q1, q2⟩ => ⟨List.mem_cons_of_mem _ q1, q2⟩, fun ⟨q1, q2⟩ => ⟨(List.mem_cons.1 q1).elim (fun e => (hik e.symm).elim) id, q2⟩⟩
    · rcases List.mem_cons.1 hk with rfl | hk
      · exact hilt
      · exact h.lt k hk
    · obtain ⟨o', hoj, hro, hrc⟩ := h.rc k hk
      obtain ⟨f1, f2, _, f4⟩ := far k hk o' hoj
      have h1 := (hrc.ref hro href).put hro (x := x) f1 f2
      refine ⟨o', hoj, hro, ?_⟩
      rcases f4 with f4 | f4
      · exact h1.pure f4
      · exact h1.again hro (rcK_get hoj rcs hrk f4)
    · show Xle (sl _ t) (sl _ t)
      have e2 := sl_mask (ds := dstsOf ops D) (env := put env2 o.dst x) (t := t)
      rw [sl_put, e2, sl_put, sl_mask, mask_length]
      by_cases hd : o.dst = some t ∧ t < env2.length
      · rw [if_pos hd, if_neg (ndst t hd.1), if_pos hd]; exact .rfl' _
      · rw [if_neg hd, if_neg hd]; exact .rfl' _
  unfold wpOp
  simp only [ho, hw]
  cases yes with
  | false =>
    rw [if_neg (by simp)]
    simp only [putK_eq] at hrun
    exact ⟨_, _, fin _ _ _ _ hrun (hsim.undef o.dst)⟩
  | true =>
    rw [if_pos rfl]
    refine .inl ?_
    simp only [putK_eq] at hrun
    have hop := opK_env (env' := mask (dstsOf ops D) env2) (opd_same (C := C) hs) (fun _ k obs hf => fresh_mask hf) hM hrun
    obtain ⟨γ, I, hg⟩ := hsim
    refine Oper.wp_mono ?_ (op_sound hH hg hop hnp hxb)
    rintro a' w' ⟨x, o2, hk, hs'⟩
    exact ⟨_, _, fin _ _ _ _ hk hs'⟩
theorem Inv.left {p q : Plan} {top : Bool} {L R D : List Nat} {env : List X} {obs : Obs} {l : Array Bool} {a : Act} {w : World} (h : Inv C E H np xb ops K (.alt p q) top L R D env obs l a w) : Inv C E H np xb ops K p false L R D env obs l a w := by
  have hc := h.chk
  simp only [Ctx.chk, Bool.and_eq_true] at hc
  exact ⟨hc.1.2, h.size, h.mem, h.sub, h.lt, h.rl, h.down, h.rc, h.rel, h.run.1, h.sim⟩
theorem Inv.right {p q : Plan} {top : Bool} {L R D : List Nat} {env : List X} {obs : Obs} {l : Array Bool} {a : Act} {w : World} (h : Inv C E H np xb ops K (.alt p q) top L R D env obs l a w) : Inv C E H np xb ops K q false L R D env obs l a w := by
  have hc := h.chk
  simp only [Ctx.chk, Bool.and_eq_true] at hc
  exact ⟨hc.2, h.size, h.mem, h.sub, h.lt, h.rl, h.down, h.rc, h.rel, h.run.2, h.sim⟩
theorem Inv.find {L R D : List Nat} {env : List X} {obs : Obs} {l : Array Bool} {a : Act} {w : World} {j : Nat} : ∀ (p : Plan) (top : Bool), Inv C E H np xb ops K p top L R D env obs l a w → j ∈ heads p → ∃ rc p' top', Inv C E H np xb ops K (.nr j rc p') top' L R D env obs l a w
  | .done, _, _, hj => by simp [heads] at hj
  | .rd _ _, _, _, hj => by simp [heads] at hj
  | .nr i rc p, top, h, hj => by simp only [heads, List.mem_singleton] at hj; subst hj; exact ⟨rc, p, top, h⟩
  | .alt p q, top, h, hj => by
    rcases List.mem_append.1 hj with hj | hj
    · exact Inv.find p false h.left hj
    · exact Inv.find q false h.right hj
/-- Whatever comes up. -/
theorem Inv.step (hH : HyOk C H) (hM : ∀ f en, H.tab f = some en → Mono en.spec) (hnp : ∀ k, np ≤ k → E.bx k = none) (hxb : ∀ k, xb ≤ k → E.bx k = none) (ht : tabOk (ctxOf ops) = true) {Q : Exit → Act → World → Prop} {obs : Obs} {l : Array Bool} {a : Act} {w : World} {i : Nat} (hrdy : i ∈ Region.ready .any ops l) :
    ∀ (p : Plan) (L R D : List Nat) (env : List X), Inv C E H np xb ops K p true L R D env obs l a w →
    wpOp C.P ops Q i (fun a' w' => ∃ p L R D env' obs', Inv C E H np xb ops K p true L R D env' obs' (l.setIfInBounds i true) a' w') a w
  | p, L, R, D, env, h => by
    obtain ⟨hl, o, ho, hp⟩ := ready_inv hrdy
    have hilt : i < ops.size := (Array.getElem?_eq_some_iff.1 ho).1
    by_cases hi : i ∈ D
    · exact wpOp_mono (fun a' w' h' => ⟨_, _, _, _, _, _, h'⟩) (h.late hH hM hnp hxb ht hi hrdy)
    · have hiL : i ∉ L := fun q => by
        have := (h.mem i hilt).2 ⟨q, hi⟩
        rw [hl] at this; cases this
      have hpL : ∀ p ∈ predsOf o, p ∈ L := fun q hq => by
        have h1 := hp q hq
        have hq' : q < ops.size := by
          rcases Nat.lt_or_ge q ops.size with r | r
          · exact r
          · rw [← h.size] at r; simp [r] at h1
        rw [getD_bool (by rw [h.size]; exact hq')] at h1
        exact ((h.mem q hq').1 h1).1
      have hrL := ready_of hiL ho hpL
      have hc := h.chk
      match p, h, hc with
      | .done, h, hc =>
        simp only [Ctx.chk, Bool.and_eq_true, List.all_eq_true] at hc
        exact (hiL (by simpa using hc.2 i (by simpa [ctxOf] using hilt))).elim
      | .rd j p, h, hc =>
        obtain ⟨env', h'⟩ := h.rd
        exact Inv.step hH hM hnp hxb ht hrdy p _ _ _ _ h'
      | .nr j rc p, h, hc =>
        simp only [Ctx.chk, Bool.and_eq_true, List.all_eq_true, Bool.or_eq_true] at hc
        have := hc.1.1.1 i (by simpa [ctxOf] using hilt)
        rcases this with q | q
        · rw [hrL] at q; cases q
        · have := Nat.eq_of_beq_eq_true q
          subst this
          exact wpOp_mono (fun a' w' ⟨env', obs', h'⟩ => ⟨_, _, _, _, _, _, h'⟩) (h.now hH hM hnp hxb ht hrdy)
      | .alt p q, h, hc =>
        simp only [Ctx.chk, Bool.and_eq_true, List.all_eq_true, Bool.or_eq_true] at hc
        have := hc.1.1 i (by simpa [ctxOf] using hilt)
        rcases this with r | r
        · rw [hrL] at r; cases r
        · obtain ⟨rc, p', top', h'⟩ := Inv.find _ _ h (j := i) (by simpa [heads] using r)
          exact wpOp_mono (fun a' w' ⟨env', obs', h'⟩ => ⟨_, _, _, _, _, _, h'⟩) (h'.now hH hM hnp hxb ht hrdy)
/-- When nothing is left. -/
theorem all_listed (ht : tabOk (ctxOf ops) = true) {l : Array Bool} (hz : l.size = ops.size) (h : Region.ready .any ops l = []) : ∀ k, k < ops.size → l.getD k false = true := by
  intro k
  induction k using Nat.strongRecOn with
  | _ k ih =>
    intro hk
    cases hl : l.getD k false with
    | true => rfl
    | false =>
      exfalso
      have hk' : l.getD k true = false := by rw [← getD_bool (by omega)]; exact hl
      have : k ∈ Region.ready .any ops l := mem_ready.2 ⟨hk', _, Array.getElem?_eq_getElem hk, fun e he hb => by
        have h1 := List.all_eq_true.1 ht k (by simpa [ctxOf] using hk)
        obtain ⟨o, ho, h2⟩ := op_get h1
        rw [Array.getElem?_eq_getElem hk] at ho; injection ho with e'; subst e'
        rw [Bool.and_eq_true, List.all_eq_true] at h2
        have := Nat.le_of_ble_eq_true (h2.1 e.on (mem_predsOf.2 ⟨e, he, hb, rfl⟩))
        exact ih e.on this (by omega)⟩
      rw [h] at this; cases this
theorem Inv.end_ (ht : tabOk (ctxOf ops) = true) {p : Plan} {L R D : List Nat} {env : List X} {obs : Obs} {l : Array Bool} {a : Act} {w : World} (h : Inv C E H np xb ops K p true L R D env obs l a w) (hr : Region.ready .any ops l = []) : K env obs ∧ Sim C E ⟨env, obs⟩ a w := by
  have hal := all_listed ht h.size hr
  have hL : ∀ i, i < ops.size → i ∈ L ∧ i ∉ D := fun i hi => (h.mem i hi).1 (by rw [← getD_bool (by rw [h.size]; exact hi)]; exact hal i hi)
  have hD : ∀ i, i ∉ D := fun i hi => (hL i (h.lt i (h.rl i (h.sub i hi)))).2 hi
  have nrd : ∀ i, (ctxOf ops).ready L i ≠ true := fun i hi => by
    obtain ⟨h1, o, ho, _⟩ := ready_get hi
    exact h1 (hL i (Array.getElem?_eq_some_iff.1 ho).1).1
  have nch : ∀ (p : Plan) (R : List Nat), (ctxOf ops).chk p false L R ≠ true := by
    intro p
    induction p with
    | done => intro R hc; simp [Ctx.chk] at hc
    | rd i p _ => intro R hc; simp [Ctx.chk] at hc
    | nr i rc p _ => intro R hc; simp only [Ctx.chk, Bool.and_eq_true] at hc; exact nrd i hc.1.1.2
    | alt p q ih _ => intro R hc; simp only [Ctx.chk, Bool.and_eq_true] at hc; exact ih R hc.1.2
  have hc := h.chk
  have hrun := h.run
  match p, hc, hrun with
  | .done, hc, hrun =>
    refine ⟨hrun, h.sim.le mask_length.symm fun t => ?_⟩
    show Xle (sl _ t) (sl _ t)
    rw [sl_mask, if_neg]
    · exact .rfl' _
    · intro hm; obtain ⟨j, hj, _⟩ := mem_dsts.1 hm; exact hD j hj
  | .rd i p, hc, _ => simp only [Ctx.chk, Bool.and_eq_true] at hc; exact (nrd i hc.1.1.2).elim
  | .nr i rc p, hc, _ => simp only [Ctx.chk, Bool.and_eq_true] at hc; exact (nrd i hc.1.1.2).elim
  | .alt p q, hc, _ => simp only [Ctx.chk, Bool.and_eq_true] at hc; exact (nch p R hc.1.2).elim
def left (n : Nat) (l : Array Bool) : Nat := ((List.range n).filter fun i => !l.getD i true).length
theorem filter_lt {α : Type} {p q : α → Bool} (hpq : ∀ x, q x = true → p x = true) : ∀ {xs : List α} {x : α}, x ∈ xs → p x = true → q x = false → (xs.filter q).length < (xs.filter p).length
  | [], _, h, _, _ => by cases h
  | y :: ys, x, h, hp, hq => by
    have le : ∀ (zs : List α), (zs.filter q).length ≤ (zs.filter p).length := fun zs => by
      induction zs with
      | nil => simp
      | cons z zs ih =>
        by_cases hz : q z = true
        · simp [hz, hpq z hz, ih]
        · have hz : q z = false := by simpa using hz
          cases hpz : p z <;> simp [List.filter_cons, hz, hpz] <;> omega
    rcases List.mem_cons.1 h with rfl | h
    · simp only [List.filter_cons, hp, hq]; have := le ys; simp; omega
    · have ih := filter_lt hpq h hp hq
      by_cases hz : q y = true
      · simp [hz, hpq y hz, ih]
      · have hz : q y = false := by simpa using hz
        cases hpz : p y <;> simp [List.filter_cons, hz, hpz] <;> omega
theorem any_sound (hH : HyOk C H) (hM : ∀ f en, H.tab f = some en → Mono en.spec) (hnp : ∀ k, np ≤ k → E.bx k = none) (hxb : ∀ k, xb ≤ k → E.bx k = none) (ht : tabOk (ctxOf ops) = true) {Q : Exit → Act → World → Prop} (hQ : ∀ env obs a w, K env obs → Sim C E ⟨env, obs⟩ a w → Q .normal a w) :
    ∀ (fuel : Nat) (p : Plan) (L R D : List Nat) (env : List X) (obs : Obs) (l : Array Bool) (a : Act) (w : World), Inv C E H np xb ops K p true L R D env obs l a w → left ops.size l ≤ fuel → wpAny C.P .any ops Q fuel l a w
  | 0, p, L, R, D, env, obs, l, a, w, h, hf => by
    have hr : Region.ready .any ops l = [] := by
      cases hr : Region.ready .any ops l with
      | nil => rfl
      | cons i is =>
        exfalso
        have : i ∈ Region.ready .any ops l := by rw [hr]; exact List.mem_cons_self
        obtain ⟨hl, o, ho, _⟩ := ready_inv this
        have h0 := List.length_eq_zero_iff.1 (Nat.le_zero.1 hf)
        rw [List.filter_eq_nil_iff] at h0
        exact h0 i (by simpa using (Array.getElem?_eq_some_iff.1 ho).1) (by rw [hl]; rfl)
    obtain ⟨h1, h2⟩ := h.end_ ht hr
    exact ⟨hr, hQ _ _ _ _ h1 h2⟩
  | fuel + 1, p, L, R, D, env, obs, l, a, w, h, hf => by
    refine ⟨fun hr => ?_, fun i hi => ?_⟩
    · obtain ⟨h1, h2⟩ := h.end_ ht hr
      exact hQ _ _ _ _ h1 h2
    · refine wpOp_mono ?_ (Inv.step (Q := Q) hH hM hnp hxb ht hi p L R D env h)
      rintro a' w' ⟨p', L', R', D', env', obs', h'⟩
      refine any_sound hH hM hnp hxb ht hQ fuel p' L' R' D' env' obs' _ a' w' h' ?_
      obtain ⟨hl, o, ho, _⟩ := ready_inv hi
      have hilt := (Array.getElem?_eq_some_iff.1 ho).1
      have : left ops.size (l.setIfInBounds i true) < left ops.size l := by
        unfold left
        refine filter_lt (x := i) (fun k hk => ?_) (by simpa using hilt) (by rw [hl]; rfl) (by rw [getD_set_self (by rw [h.size]; exact hilt)]; rfl)
        by_cases hik : i = k
        · subst hik; rw [hl]; rfl
        · rwa [getD_set_ne true hik] at hk
      omega
/-- A region that draws its order. -/
theorem Safe.draw (hH : HyOk C H) (hM : ∀ f en, H.tab f = some en → Mono en.spec) (hnp : ∀ k, np ≤ k → E.bx k = none) (hxb : ∀ k, xb ≤ k → E.bx k = none) (hmix : C.P.follows .mixedOrders = true) (p : Plan) (hp : planOk ops p = true) {id : Nat} {k : List KI} {B : Exit → St → Prop} {env : List X} {obs : Obs}
    (hK : ∀ env obs, K env obs → Safe C E k B ⟨env, obs⟩) (h : cr C H np xb ops.toList K p env obs) : Safe C E (.code (.region id ops true) :: k) B ⟨env, obs⟩ := by
  refine ⟨fun a w hs => ?_⟩
  simp only [planOk, Bool.and_eq_true] at hp
  show (Code.region id ops true).wp C.P (hd C.P k (Lift C E B)) a w
  refine wp_region_any hmix ?_
  refine any_sound (K := K) hH hM hnp hxb hp.1 (fun env obs a w h hs => (hK env obs h).go a w hs) ops.size p [] [] [] env obs _ a _ ⟨hp.2, by simp, fun i hi => ?_, by simp, by simp, by simp, fun k o hk => ?_, by simp, by simp, h, ?_⟩ ?_
  · simp [hi]
  · rcases Nat.lt_or_ge k ops.size with q | q
    · simp [q] at hk
    · simp [Nat.not_lt.2 q] at hk
  · refine (Sim.drew hs).le mask_length fun t => ?_
    show Xle (sl _ t) (sl _ t)
    rw [sl_mask, if_neg (by simp [dstsOf])]
    exact .rfl' _
  · exact Nat.le_trans (List.length_filter_le _ _) (by simp)
end
end Go.Proofs.Ytdpgdeaefmghiaa.Sx
namespace Go.Proofs.Ytdpgdeaefmghiaa.Sx
/-- A plan for a region: look first, do after; every order of the doings. -/
def Ctx.plan (c : Ctx) : Nat → List Nat → List Nat → Plan
  | 0, _, _ => .done
  | n + 1, L, R =>
    match (List.range c.ops.length).filter fun i => c.ready L i with
    | [] => .done
    | rs => match rs.find? (fun i => c.op i fun o => reads o.op && dstNe o.dst (c.lk i) && R.all fun j => c.op j fun o' => dstNe o.dst (c.lk j) && neDst o.dst o'.dst && (c.before j i || dstNe o'.dst (c.lk i))) with
      | some i => .rd i (c.plan n (i :: L) (i :: R))
      | none => (rs.map fun i => Plan.nr i (R.filter fun j => !c.before j i && !c.op j fun o => pureOp o.op) (c.plan n (i :: L) R)).foldr (fun p acc => match acc with | some q => some (.alt p q) | none => some p) none |>.getD .done
def planOf (ops : Array Oper) : Plan := (ctxOf ops).plan ops.size [] []
end Go.Proofs.Ytdpgdeaefmghiaa.Sx
namespace Go.Proofs.Ytdpgdeaefmghiaa.Sx
/-- Through a region that draws, and on. -/
theorem Safe.drawn {C : Cfg} {E : Entry} {H : Hy} {np xb : Nat} {ops : Array Oper} (n : Nat) (hH : HyOk C H) (hM : ∀ f en, H.tab f = some en → Mono en.spec) (hnp : ∀ k, np ≤ k → E.bx k = none) (hxb : ∀ k, xb ≤ k → E.bx k = none) (hmix : C.P.follows .mixedOrders = true) (hp : planOk ops (planOf ops) = true) {id : Nat} {k : List KI} {B : Exit → St → Prop} {env : List X} {obs : Obs}
    (h : cr C H np xb ops.toList (fun env obs => ev C H np xb E B n k env obs) (planOf ops) env obs) : Safe C E (.code (.region id ops true) :: k) B ⟨env, obs⟩ := by
  exact Safe.draw hH hM hnp hxb hmix (planOf ops) hp (fun env obs h => ev_sound hH hnp hxb n k env obs h) h
end Go.Proofs.Ytdpgdeaefmghiaa.Sx

/- Weaker states: what a loop asks of its ends. -/
namespace Go.Proofs.Ytdpgdeaefmghiaa.Sx
noncomputable section
def swapN (k0 k1 k : Nat) : Nat := bif Nat.beq k k0 then k1 else bif Nat.beq k k1 then k0 else k
def swapO (k0 k1 : Nat) (obs : Obs) : Obs := ((obs.set k0 (lk obs k1)).set k1 (lk obs k0)).map fun o => o.map (renO fun k => some (swapN k0 k1 k))
def swapE (k0 k1 : Nat) (env : List X) : List X := env.map (renX fun k => some (swapN k0 k1 k))
/-- Slot by slot. -/
def leEnvK : List X → List X → Prop
  | [], [] => True
  | x :: xs, y :: ys => match y with
    | .v .any => leEnvK xs ys
    | y => SameX x y ∧ leEnvK xs ys
  | _, _ => False
def leCellsK : List V → List V → Prop
  | [], [] => True
  | x :: xs, y :: ys => match y with
    | .any => leCellsK xs ys
    | y => SameX (.v x) (.v y) ∧ leCellsK xs ys
  | _, _ => False
inductive SameRow : Ob → Ob → Prop
  | row (e : TypeId) (T : Ty) (xs ys : List T.D) (h : xs = ys) : SameRow (.row e T xs) (.row e T ys)
def leObsK : Obs → Obs → Prop
  | [], [] => True
  | o :: os, o' :: os' => match o' with
    | none => leObsK os os'
    | some (.box ds) => match o with
      | some (.box cs) => leCellsK cs ds ∧ leObsK os os'
      | _ => False
    | some (.row e T ys) => match o with
      | some ob => SameRow ob (.row e T ys) ∧ leObsK os os'
      | none => False
  | _, _ => False
end
section
variable {C : Cfg} {E : Entry}
theorem swapN_swap (k0 k1 k : Nat) : swapN k0 k1 (swapN k0 k1 k) = k := by
  unfold swapN
  have hb : ∀ a b : Nat, Nat.beq a b = decide (a = b) := fun a b => by
    by_cases h : a = b
    · subst h; simp
    · simp only [h, decide_false]; rw [Bool.eq_false_iff]; exact fun e => h (Nat.eq_of_beq_eq_true e)
  simp only [hb, cond_eq_ite, decide_eq_true_eq]
  by_cases h0 : k = k0
  · subst h0
    by_cases h : k1 = k
    · simp [h]
    · simp [h]
  · by_cases h1 : k = k1
    · subst h1; simp [h0]
    · simp [h0, h1]
theorem lk_swap {k0 k1 : Nat} {obs : Obs} (h0 : k0 < obs.length) (h1 : k1 < obs.length) (i : Nat) : lk (swapO k0 k1 obs) i = (lk obs (swapN k0 k1 i)).map (renO fun k => some (swapN k0 k1 k)) := by
  have hm : ∀ (l : Obs) (f : Option Ob → Option Ob), f none = none → lk (l.map f) i = f (lk l i) := fun l f hf => by
    unfold lk; rw [List.getElem?_map]; cases l[i]? <;> simp [hf]
  unfold swapO
  rw [hm _ _ rfl]
  congr 1
  rw [lk_set, lk_set]
  unfold swapN
  have hb : ∀ a b : Nat, Nat.beq a b = decide (a = b) := fun a b => by
    by_cases h : a = b
    · subst h; simp
    · simp only [h, decide_false]; rw [Bool.eq_false_iff]; exact fun e => h (Nat.eq_of_beq_eq_true e)
  simp only [hb, cond_eq_ite, decide_eq_true_eq, List.length_set]
  by_cases hi1 : k1 = i
  · subst hi1
    simp only [h1, and_self, if_true]
    by_cases hi0 : k1 = k0
    · subst hi0; simp
    · simp [hi0]
  · have hi1' : ¬ i = k1 := fun e => hi1 e.symm
    by_cases hi0 : k0 = i
    · subst hi0; simp [hi1, h0]
    · have hi0' : ¬ i = k0 := fun e => hi0 e.symm
      simp [hi1, hi0, hi0', hi1']
theorem Sim.swap {env : List X} {obs : Obs} {a : Act} {w : World} (h : Sim C E ⟨env, obs⟩ a w) {k0 k1 : Nat} (b0 : E.bx k0 = none) (b1 : E.bx k1 = none) (h0 : k0 < obs.length) (h1 : k1 < obs.length) : Sim C E ⟨swapE k0 k1 env, swapO k0 k1 obs⟩ a w := by
  obtain ⟨γ, I, h⟩ := h
  have inv : ∀ i o, lk (swapO k0 k1 obs) i = some o → ∃ o', lk obs (swapN k0 k1 i) = some o' ∧ o = renO (fun k => some (swapN k0 k1 k)) o' := fun i o hi => by
    rw [lk_swap h0 h1] at hi
    cases ho : lk obs (swapN k0 k1 i) with
    | none => rw [ho] at hi; cases hi
    | some o' => rw [ho] at hi; injection hi with hi; exact ⟨o', rfl, hi.symm⟩
  have hf : RenOk (fun k => some (swapN k0 k1 k)) γ (fun i => γ (swapN k0 k1 i)) (lk obs) (lk (swapO k0 k1 obs)) := fun k i hi => by
    injection hi with hi; subst hi
    exact ⟨by simp only [swapN_swap], by rw [lk_swap h0 h1, swapN_swap]⟩
  have hinj : ∀ k k', swapN k0 k1 k = swapN k0 k1 k' → k = k' := fun k k' e => by rw [← swapN_swap k0 k1 k, e, swapN_swap]
  refine ⟨fun i => γ (swapN k0 k1 i), I, h.defers, by simpa [swapE] using h.size, fun i y hy => ?_, ⟨fun i o hi => ?_, fun i j o o' b hi hj hbi hbj => ?_, fun i o b hi hb => ?_, h.mr.lt⟩, h.fr, h.inc, h.new, fun i o b hi hb => ?_, h.glob, fun k b hk o ho => ?_⟩
  · simp only [swapE, List.getElem?_map] at hy
    cases hx : env[i]? with
    | none => rw [hx] at hy; cases hy
    | some x =>
      rw [hx] at hy; injection hy with hy; subst hy
      obtain ⟨u, q1, q2⟩ := h.slots i x hx
      exact ⟨u, q1, XR.ren hf q2⟩
  · obtain ⟨o', ho', rfl⟩ := inv i o hi
    exact ObR.ren hf (k := swapN k0 k1 i) (by simp only [swapN_swap]) (h.mr.ob _ _ ho')
  · obtain ⟨o1, q1, _⟩ := inv i o hi
    obtain ⟨o2, q2, _⟩ := inv j o' hj
    exact hinj _ _ (h.mr.inj _ _ _ _ b q1 q2 hbi hbj)
  · obtain ⟨o1, q1, _⟩ := inv i o hi
    exact h.mr.out _ _ b q1 hb
  · obtain ⟨o1, q1, _⟩ := inv i o hi
    exact h.own _ _ b q1 hb
  · obtain ⟨o1, q1, _⟩ := inv k o ho
    have hks : swapN k0 k1 k = k := by
      unfold swapN
      cases e0 : Nat.beq k k0 with
      | true => have := Nat.eq_of_beq_eq_true e0; subst this; rw [b0] at hk; cases hk
      | false =>
        cases e1 : Nat.beq k k1 with
        | true => have := Nat.eq_of_beq_eq_true e1; subst this; rw [b1] at hk; cases hk
        | false => rfl
    rw [hks] at q1 ⊢
    exact h.bx k b hk _ q1
def Vle (c d : V) : Prop := ∀ γ I w L u, VR γ I w L c u → VR γ I w L d u
theorem leEnv_get : ∀ {env env' : List X}, leEnvK env env' → env'.length = env.length ∧ ∀ t, Xle (sl env t) (sl env' t)
  | [], [], _ => ⟨rfl, fun _ => .rfl' _⟩
  | x :: xs, y :: ys, h => by
    have main : Xle x y ∧ leEnvK xs ys := by
      unfold leEnvK at h
      split at h
      · exact ⟨.any _, h⟩
      · exact ⟨h.1.le, h.2⟩
    obtain ⟨h1, h2⟩ := leEnv_get main.2
    refine ⟨by simp [h1], fun t => ?_⟩
    cases t with
    | zero => exact main.1
    | succ t => exact h2 t
  | [], _ :: _, h => by simp [leEnvK] at h
  | _ :: _, [], h => by simp [leEnvK] at h
theorem leCells_get : ∀ {cs ds : List V}, leCellsK cs ds → cs.length = ds.length ∧ ∀ (j : Nat) (d : V), ds[j]? = some d → ∃ c, cs[j]? = some c ∧ Vle c d
  | [], [], _ => ⟨rfl, by simp⟩
  | x :: xs, y :: ys, h => by
    have main : Vle x y ∧ leCellsK xs ys := by
      unfold leCellsK at h
      split at h
      · exact ⟨fun _ _ _ _ _ _ => .any _, h⟩
      · exact ⟨fun γ I w L u hx => h.1.le γ I w L u hx, h.2⟩
    obtain ⟨h1, h2⟩ := leCells_get main.2
    refine ⟨by simp [h1], fun j d hj => ?_⟩
    cases j with
    | zero => simp at hj; subst hj; exact ⟨x, rfl, main.1⟩
    | succ j => simpa using h2 j d (by simpa using hj)
  | [], _ :: _, h => by simp [leCellsK] at h
  | _ :: _, [], h => by simp [leCellsK] at h
def ObLe : Ob → Ob → Prop
  | .box cs, .box ds => cs.length = ds.length ∧ ∀ (j : Nat) (d : V), ds[j]? = some d → ∃ c, cs[j]? = some c ∧ Vle c d
  | .row e T xs, o => o = .row e T xs
  | _, _ => False
theorem leObs_get : ∀ {obs obs' : Obs}, leObsK obs obs' → ∀ k o', lk obs' k = some o' → ∃ o, lk obs k = some o ∧ ObLe o o'
  | [], [], _, k, o', h => by simp [lk] at h
  | x :: xs, y :: ys, h, k, o', hk => by
    have main : (∀ o', y = some o' → ∃ o, x = some o ∧ ObLe o o') ∧ leObsK xs ys := by
      unfold leObsK at h
      split at h
      · exact ⟨by simp, h⟩
      · split at h
        · exact ⟨fun o' e => by injection e with e; subst e; exact ⟨_, rfl, leCells_get h.1⟩, h.2⟩
        · exact h.elim
      · split at h
        · obtain ⟨h1, h2⟩ := h
          cases h1 with
          | row e T xs ys he => subst he; exact ⟨fun o' e => by injection e with e; subst e; exact ⟨_, rfl, rfl⟩, h2⟩
        · exact h.elim
    cases k with
    | zero => exact main.1 o' (by simpa [lk] using hk)
    | succ k => exact leObs_get main.2 k o' (by simpa [lk] using hk)
  | [], _ :: _, h, _, _, _ => by simp [leObsK] at h
  | _ :: _, [], h, _, _, _ => by simp [leObsK] at h
theorem StLe.of {env env' : List X} {obs obs' : Obs} (h1 : leEnvK env env') (h2 : leObsK obs obs') : StLe C E ⟨env, obs⟩ ⟨env', obs'⟩ := by
  intro a w hs
  obtain ⟨γ, I, h⟩ := hs
  obtain ⟨hl, hx⟩ := leEnv_get h1
  have ho := leObs_get h2
  have hk : Keep (fun _ => False) γ γ I I w w (lk obs) (lk obs') := ⟨fun _ h => h, fun _ _ => rfl, fun k ob hk _ => by obtain ⟨o, q, _⟩ := ho k ob hk; exact ⟨by rw [q]; simp, rfl⟩, fun k e T xs hk _ => by
    cases hl' : lk obs' k with
    | none => exact .inl rfl
    | some o' =>
      obtain ⟨o, q1, q2⟩ := ho k o' hl'
      rw [hk] at q1; injection q1 with q1; subst q1
      simp only [ObLe] at q2
      subst q2
      exact .inr ⟨⟨xs, rfl, rfl⟩, fun b cur _ hc => ⟨cur, hc, rfl⟩⟩⟩
  have hmr : MR γ I w (lk obs') := by
    refine ⟨fun k o' hk' => ?_, fun k k' o o' b q1 q2 q3 q4 => ?_, fun k o b q1 q2 => ?_, h.mr.lt⟩
    · obtain ⟨o, q1, q2⟩ := ho k o' hk'
      have hob := (h.mr.ob k o q1).keep hk (fun _ hd => hd.elim) rfl (fun _ _ => rfl)
      cases o with
      | row e T xs => simp only [ObLe] at q2; subst q2; exact hob
      | box cs =>
        cases o' with
        | row => simp [ObLe] at q2
        | box ds =>
          obtain ⟨b, cur, e, r1, r2, r3, r4⟩ := hob
          refine ⟨b, cur, e, r1, r2, by rw [r3, q2.1], fun j d hj => ?_⟩
          obtain ⟨c, hc, hle⟩ := q2.2 j d hj
          obtain ⟨u, s1, s2⟩ := r4 j c hc
          exact ⟨u, s1, hle _ _ _ _ _ s2⟩
    · obtain ⟨o1, r1, _⟩ := ho k o q1
      obtain ⟨o2, r2, _⟩ := ho k' o' q2
      exact h.mr.inj k k' o1 o2 b r1 r2 q3 q4
    · obtain ⟨o1, r1, _⟩ := ho k o q1
      exact h.mr.out k o1 b r1 q2
  refine Sim.le (env := env) ⟨γ, I, h.defers, h.size, fun i x hx' => ?_, hmr, h.fr, h.inc, h.new, fun k o b q1 q2 => ?_, h.glob, fun k b q1 o q2 => ?_⟩ hl hx
  · obtain ⟨u, q1, q2⟩ := h.slots i x hx'
    exact ⟨u, q1, XR.keep hk (fun _ hd => hd.elim) q2⟩
  · obtain ⟨o1, r1, _⟩ := ho k o q1
    exact h.own k o1 b r1 q2
  · obtain ⟨o1, r1, _⟩ := ho k o q2
    exact h.bx k b q1 o1 r1
theorem StLe.swap {env : List X} {obs : Obs} {st : St} (k0 k1 : Nat) (b0 : E.bx k0 = none) (b1 : E.bx k1 = none) (h0 : k0 < obs.length) (h1 : k1 < obs.length) (h : StLe C E ⟨swapE k0 k1 env, swapO k0 k1 obs⟩ st) : StLe C E ⟨env, obs⟩ st := fun a w hs => h a w (hs.swap b0 b1 h0 h1)
end
end Go.Proofs.Ytdpgdeaefmghiaa.Sx
namespace Go.Proofs.Ytdpgdeaefmghiaa.Sx
section
variable {C : Cfg} {E : Entry}
/-- A row that is not there yet. -/
theorem Sim.virt {env : List X} {obs : Obs} {a : Act} {w : World} (h : Sim C E ⟨env, obs⟩ a w) {k : Nat} (hf : fresh k env obs = true) (hl : lk obs k = none) (hlt : k < obs.length) (hb : E.bx k = none) (e : TypeId) (T : Ty) :
    ∃ γ I, SimG C E ⟨env, obs.set k (some (.row e T []))⟩ a w γ I ∧ γ k = none := by
  obtain ⟨γ, I, h⟩ := h
  let γ' : Nat → Option Nat := fun i => if i = k then none else γ i
  have hlk : ∀ i, lk (obs.set k (some (.row e T []))) i = if k = i then some (.row e T []) else lk obs i := fun i => by
    rw [lk_set]; by_cases hi : k = i
    · subst hi; simp [hlt]
    · simp [hi]
  have hne : ∀ i o, lk obs i = some o → i ≠ k := fun i o hi e => by subst e; rw [hl] at hi; cases hi
  have hk : Keep (fun i => i = k) γ γ' I I w w (lk obs) (lk (obs.set k (some (.row e T [])))) := by
    refine ⟨fun _ h => h, fun _ _ => rfl, fun i ob hi hn => ?_, fun i e' T' xs hi hn => ?_⟩
    · rw [hlk, if_neg (fun q => hn q.symm)] at hi
      exact ⟨by rw [hi]; simp, if_neg hn⟩
    · refine .inr ⟨⟨xs, ?_, rfl⟩, fun b cur _ hc => ⟨cur, hc, rfl⟩⟩
      rw [hlk, if_neg (fun q => hn q.symm)]; exact hi
  simp only [fresh, Bool.and_eq_true] at hf
  have hN : ∀ d, d = k → ∀ x ∈ env, noRefX d x = true := fun d hd x hx => by subst hd; exact List.all_eq_true.1 hf.1 x hx
  have hmr : MR γ' I w (lk (obs.set k (some (.row e T [])))) := by
    refine ⟨fun i o hi => ?_, fun i j o o' b hi hj hbi hbj => ?_, fun i o b hi hbi => ?_, h.mr.lt⟩
    · rw [hlk] at hi
      split at hi
      · rename_i hki; subst hki; injection hi with hi; subst hi
        exact .inl ⟨if_pos rfl, rfl⟩
      · rename_i hki
        exact (h.mr.ob i o hi).keep hk (fun d hd => by subst hd; exact noRefO_lk hf.2 hi) (if_neg (fun q => hki q.symm)) (fun _ _ => rfl)
    · have hik : i ≠ k := fun q => by subst q; simp [γ'] at hbi
      have hjk : j ≠ k := fun q => by subst q; simp [γ'] at hbj
      rw [hlk, if_neg (Ne.symm hik)] at hi
      rw [hlk, if_neg (Ne.symm hjk)] at hj
      exact h.mr.inj i j o o' b hi hj (by simpa [γ', hik] using hbi) (by simpa [γ', hjk] using hbj)
    · have hik : i ≠ k := fun q => by subst q; simp [γ'] at hbi
      rw [hlk, if_neg (Ne.symm hik)] at hi
      exact h.mr.out i o b hi (by simpa [γ', hik] using hbi)
  have := h.next hk hN (fun d hd => by subst hd; exact hb) hmr (Fr.refl _ w) (fun b hb => .inl hb) (fun i o b hi hbi => by
    have hik : i ≠ k := fun q => by subst q; simp [γ'] at hbi
    rw [hlk, if_neg (Ne.symm hik)] at hi
    exact .inl ⟨i, o, hi, by simpa [γ', hik] using hbi⟩) (x := .v .any) (v := Go.undef) (VR.any _) none
  exact ⟨γ', I, this, if_pos rfl⟩
theorem StLe.virt {env : List X} {obs : Obs} {st : St} (t k : Nat) (e : TypeId) (T : Ty) (hf : fresh k env obs = true) (hl : lk obs k = none) (hlt : k < obs.length) (hb : E.bx k = none) (ht : env[t]? = some (.v .nil))
    (h : StLe C E ⟨env.set t (.v (.full k)), obs.set k (some (.row e T []))⟩ st) : StLe C E ⟨env, obs⟩ st := by
  intro a w hs
  obtain ⟨γ, I, h1, hg⟩ := hs.virt hf hl hlt hb e T
  refine h a w ⟨γ, I, h1.defers, by simpa using h1.size, fun i x hx => ?_, h1.mr, h1.fr, h1.inc, h1.new, h1.own, h1.glob, h1.bx⟩
  simp only [List.getElem?_set] at hx
  split at hx
  · rename_i hti; subst hti
    split at hx
    · injection hx with hx; subst hx
      obtain ⟨u, q1, q2⟩ := h1.slots t _ ht
      refine ⟨u, q1, ?_⟩
      cases q2
      have hL : lk (obs.set k (some (.row e T []))) k = some (.row e T []) := by rw [lk_set]; simp [hlt]
      exact VR.full k e T [] _ hL (VR.ownN k hg)
    · cases hx
  · exact h1.slots i x hx
/-- The same, within an object. -/
theorem StLe.virtBox {env : List X} {obs : Obs} {st : St} (kb j k : Nat) (cs : List V) (e : TypeId) (T : Ty) (hf : fresh k env obs = true) (hl : lk obs k = none) (hlt : k < obs.length) (hb : E.bx k = none) (hkb : lk obs kb = some (.box cs)) (hj : cs[j]? = some .nil)
    (h : StLe C E ⟨env, (obs.set k (some (.row e T []))).set kb (some (.box (cs.set j (.full k))))⟩ st) : StLe C E ⟨env, obs⟩ st := by
  intro a w hs
  obtain ⟨γ, I, h1, hg⟩ := hs.virt hf hl hlt hb e T
  have hne : k ≠ kb := fun q => by subst q; rw [hl] at hkb; cases hkb
  have hkbl : kb < obs.length := by
    rcases Nat.lt_or_ge kb obs.length with q | q
    · exact q
    · simp [lk, List.getElem?_eq_none q] at hkb
  have hL1 : lk (obs.set k (some (.row e T []))) kb = some (.box cs) := by rw [lk_set, if_neg (fun q => hne q.1)]; exact hkb
  have hlk : ∀ i, lk ((obs.set k (some (.row e T []))).set kb (some (.box (cs.set j (.full k))))) i = if kb = i then some (.box (cs.set j (.full k))) else lk (obs.set k (some (.row e T []))) i := fun i => by
    rw [lk_set]; by_cases hi : kb = i
    · subst hi; simp [hkbl]
    · simp [hi]
  have hk : Keep (fun _ => False) γ γ I I w w (lk (obs.set k (some (.row e T [])))) (lk ((obs.set k (some (.row e T []))).set kb (some (.box (cs.set j (.full k)))))) := by
    refine ⟨fun _ h => h, fun _ _ => rfl, fun i ob hi _ => ?_, fun i e' T' xs hi _ => ?_⟩
    · rw [hlk] at hi
      split at hi
      · rename_i hki; subst hki; exact ⟨by rw [hL1]; simp, rfl⟩
      · exact ⟨by rw [hi]; simp, rfl⟩
    · refine .inr ⟨⟨xs, ?_, rfl⟩, fun b cur _ hc => ⟨cur, hc, rfl⟩⟩
      rw [hlk, if_neg]; · exact hi
      · intro q; subst q; rw [hL1] at hi; cases hi
  have back : ∀ i o, lk ((obs.set k (some (.row e T []))).set kb (some (.box (cs.set j (.full k))))) i = some o → ∃ o', lk (obs.set k (some (.row e T []))) i = some o' := fun i o hi => by
    rw [hlk] at hi
    split at hi
    · rename_i hki; subst hki; exact ⟨_, hL1⟩
    · exact ⟨o, hi⟩
  have hmr : MR γ I w (lk ((obs.set k (some (.row e T []))).set kb (some (.box (cs.set j (.full k)))))) := by
    refine ⟨fun i o hi => ?_, fun i i' o o' b q1 q2 q3 q4 => ?_, fun i o b q1 q2 => ?_, h1.mr.lt⟩
    · have hi0 := hi
      rw [hlk] at hi
      split at hi
      · rename_i hki; subst hki; injection hi with hi; subst hi
        obtain ⟨b, cur, e', r1, r2, r3, r4⟩ := (h1.mr.ob _ _ hL1).keep hk (fun _ hd => hd.elim) rfl (fun _ _ => rfl)
        refine ⟨b, cur, e', r1, r2, by simpa using r3, fun n c hc => ?_⟩
        rw [List.getElem?_set] at hc
        split at hc
        · rename_i hjn; subst hjn
          split at hc
          · injection hc with hc; subst hc
            obtain ⟨u, s1, s2⟩ := r4 j _ hj
            refine ⟨u, s1, ?_⟩
            cases s2
            refine VR.full k e T [] _ ?_ (VR.ownN k hg)
            rw [hlk, if_neg (Ne.symm hne), lk_set]; simp [hlt]
          · cases hc
        · exact r4 n c hc
      · exact (h1.mr.ob i o hi).keep hk (fun _ hd => hd.elim) rfl (fun _ _ => rfl)
    · obtain ⟨o1, r1⟩ := back i o q1
      obtain ⟨o2, r2⟩ := back i' o' q2
      exact h1.mr.inj i i' o1 o2 b r1 r2 q3 q4
    · obtain ⟨o1, r1⟩ := back i o q1
      exact h1.mr.out i o1 b r1 q2
  refine h a w ⟨γ, I, h1.defers, h1.size, fun i x hx => ?_, hmr, h1.fr, h1.inc, h1.new, fun i o b q1 q2 => ?_, h1.glob, fun i b q1 o q2 => ?_⟩
  · obtain ⟨u, q1, q2⟩ := h1.slots i x hx
    exact ⟨u, q1, XR.keep hk (fun _ hd => hd.elim) q2⟩
  · obtain ⟨o1, r1⟩ := back i o q1
    exact h1.own i o1 b r1 q2
  · obtain ⟨o1, r1⟩ := back i o q2
    exact h1.bx i b q1 o1 r1
end
end Go.Proofs.Ytdpgdeaefmghiaa.Sx
