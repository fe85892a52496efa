/- A part of the proof's own kit: symbolic walks over the model (SxZ, SxZa, SxZb). No statement of the seat stands here. -/
import Derived.Test.YtdpgdeaefmghiaaOneP4
import Derived.Below
set_option linter.unusedSimpArgs false
set_option linter.unusedVariables false
/- Contracts together. -/
namespace Go.Proofs.Ytdpgdeaefmghiaa.Sx
structure Good (C : Cfg) (f : FuncId) (en : Ent) : Prop where
  ok : FnOk C f en.spec
  enter : Enter C.P f
  mono : Mono en.spec
noncomputable def hyOf (l : List (Nat × Ent)) (bor : List Nat) : Hy := ⟨fun f => List.rec none (fun x _ ih => bif Nat.beq x.1 f then some x.2 else ih) l, bor⟩
def GoodAll (C : Cfg) : List (Nat × Ent) → Prop
  | [] => True
  | x :: xs => Good C x.1 x.2 ∧ GoodAll C xs
theorem hyOf_get {C : Cfg} {bor : List Nat} : ∀ {l : List (Nat × Ent)}, GoodAll C l → ∀ f en, (hyOf l bor).tab f = some en → Good C f en
  | [], _, f, en, h => by cases h
  | x :: xs, hg, f, en, h => by
    have h' : (bif Nat.beq x.1 f then some x.2 else (hyOf xs bor).tab f) = some en := h
    cases hb : Nat.beq x.1 f with
    | true => rw [hb] at h'; injection h' with h'; subst h'; have := Nat.eq_of_beq_eq_true hb; subst this; exact hg.1
    | false => rw [hb] at h'; exact hyOf_get hg.2 f en h'
/-- What stands throughout a walk. -/
structure Fx (C : Cfg) (H : Hy) (np xb : Nat) (E : Entry) : Prop where
  hH : HyOk C H
  hM : ∀ f en, H.tab f = some en → Mono en.spec
  hnp : ∀ k, np ≤ k → E.bx k = none
  le : np ≤ xb
  mix : C.P.follows .mixedOrders = true
section
variable {C : Cfg} {H : Hy} {np xb : Nat} {E : Entry}
theorem Fx.hxb (h : Fx C H np xb E) : ∀ k, xb ≤ k → E.bx k = none := fun k hk => h.hnp k (Nat.le_trans h.le hk)
theorem Fx.run (h : Fx C H np xb E) (n : Nat) {B : Exit → St → Prop} {k : List KI} {env : List X} {obs : Obs} (hr : ev C H np xb E B n k env obs) : Safe C E k B ⟨env, obs⟩ := ev_sound h.hH h.hnp h.hxb n k env obs hr
theorem Fx.draw (h : Fx C H np xb E) (n : Nat) {ops : Array Oper} (hp : planOk ops (planOf ops) = true) {id : Nat} {k : List KI} {B : Exit → St → Prop} {env : List X} {obs : Obs} (hr : cr C H np xb ops.toList (fun env obs => ev C H np xb E B n k env obs) (planOf ops) env obs) : Safe C E (.code (.region id ops true) :: k) B ⟨env, obs⟩ :=
  Safe.drawn n h.hH h.hM h.hnp h.hxb h.mix hp hr
/-- The same, to states that a datum names. -/
theorem Fx.drawTo (h : Fx C H np xb E) {Y : Type} (Iv : Y → St) {ops : Array Oper} (hp : planOk ops (planOf ops) = true) {id : Nat} {k : List KI} {B : Exit → St → Prop} {env : List X} {obs : Obs} (hr : cr C H np xb ops.toList (fun env obs => ∃ y, StLe C E ⟨env, obs⟩ (Iv y)) (planOf ops) env obs) (hk : ∀ y, Safe C E k B (Iv y)) : Safe C E (.code (.region id ops true) :: k) B ⟨env, obs⟩ :=
  Safe.draw h.hH h.hM h.hnp h.hxb h.mix (planOf ops) hp (fun env obs ⟨y, hy⟩ => (hk y).weaken hy) hr
theorem Safe.virt {B : Exit → St → Prop} {ks : List KI} {env : List X} {obs : Obs} (t k : Nat) (e : TypeId) (T : Ty) (hf : fresh k env obs = true) (hl : lk obs k = none) (hlt : k < obs.length) (hb : E.bx k = none) (ht : env[t]? = some (.v .nil))
    (h : Safe C E ks B ⟨env.set t (.v (.full k)), obs.set k (some (.row e T []))⟩) : Safe C E ks B ⟨env, obs⟩ := h.weaken (StLe.virt t k e T hf hl hlt hb ht fun _ _ h => h)
theorem fn_go {S : Spec} {own : Bool} {f : FuncId} {fn : Func} {c : Code} {l : List (Nat × Ent)} {bor : List Nat} {ex : Nat} (hT : ∀ t, TdOk C.P t (C.td t)) (heq : ∀ t, C.eqt t ≠ [] → eqChk C.P t (C.eqt t) = true) (hmix : C.P.follows .mixedOrders = true) (hg : GoodAll C l) (hf : C.P.funcs[f]? = some fn) (hb : fn.body = some c) (hname : fn.name ≠ "runtime.NumGoroutine") (hmono : Mono S)
    (h : ∀ args sub K, S args sub K → (∀ x ∈ args, FactX x) → (∀ k o, lk sub k = some o → FactO o) → args.length ≤ fn.ntmps ∧ ∀ E : Entry, Fx C (hyOf l bor) sub.length (sub.length + fn.ntmps) E → (∀ k, isBox sub k = false → E.bx k = none) →
        Safe C E [.code c] (retB C own fn.results.toList sub.length K) ⟨args ++ List.replicate (fn.ntmps - args.length) (.v .any), sub ++ List.replicate (fn.ntmps + ex) none⟩) : Good C f ⟨S, own⟩ := by
  refine ⟨fn_ok (own := own) (ex := ex) hT hf hb fun args sub K hS hA hO => ?_, ⟨fn, hf, hname, by rw [hb]; simp⟩, hmono⟩
  obtain ⟨h1, h2⟩ := h args sub K hS hA hO
  exact ⟨h1, fun E hb hnb => h2 E ⟨⟨hT, fun f en he => ⟨(hyOf_get hg f en he).ok, (hyOf_get hg f en he).enter⟩, heq⟩, fun f en he => (hyOf_get hg f en he).mono, hb, Nat.le_add_right _ _, hmix⟩ hnb⟩
end
theorem u8lt (b : List (Ty.D .u8)) (i : Nat) : ((UInt8.toNat (b.getD i Ty.u8.dflt) : Nat) : Int) < 256 := by
  have := UInt8.toNat_lt (b.getD i Ty.u8.dflt : UInt8); omega
theorem hin {e : Int} (h : -9223372036854775808 ≤ e ∧ e ≤ 9223372036854775807) : Hold (inR .i64 e) := ⟨⟨h.1, h.2⟩⟩
theorem hin' {k : IntKind} {n : Int} (h : inR k n) : k = .i64 → -9223372036854775808 ≤ n ∧ n ≤ 9223372036854775807 := fun e => by subst e; exact h
/-- The answer, told otherwise. -/
theorem ans {K : X → Obs → Prop} {x y : X} {o : Obs} (h : K x o) (e : x = y) : K y o := e ▸ h
theorem sameI {k : IntKind} {a b : Int} (h : a = b) : SameX (.v (.int k a)) (.v (.int k b)) := h ▸ .refl _
end Go.Proofs.Ytdpgdeaefmghiaa.Sx
namespace Go.Proofs.Ytdpgdeaefmghiaa.Sx
/-- What a parameter is, of a slice's or a struct's kind: a nil slice is an empty one. -/
def nrmV (T : Option Ty) (c : V) : V := match T with | some T => (match c with | .nil => .sl T [] | c => c) | none => c
def nrmL : List (Option Ty) → List V → List V
  | t :: ts, c :: cs => nrmV t c :: nrmL ts cs
  | _, cs => cs
def nrmX (ts : List (Option Ty)) (x : X) : X := match x with
  | .v c => .v (match ts with | t :: _ => nrmV t c | [] => c)
  | .agg cs => .agg (nrmL ts cs)
  | x => x
def nrmA : List (List (Option Ty)) → List X → List X
  | t :: ts, x :: xs => nrmX t x :: nrmA ts xs
  | _, xs => xs
def nrm (sh : List (List (Option Ty))) (S : Spec) : Spec := fun args sub K => S (nrmA sh args) sub K
section
variable {γ : Nat → Option Nat} {I : Nat → Prop} {w : World} {L : Nat → Option Ob}
theorem nrmV_ok (T : Option Ty) {c : V} {u : Value} (h : VR γ I w L c u) : VR γ I w L (nrmV T c) u := by
  unfold nrmV
  split
  · split
    · cases h; exact VR.slE _ none 0
    · exact h
  · exact h
theorem nrmL_get : ∀ (ts : List (Option Ty)) (cs : List V) (j : Nat), ∃ t, (nrmL ts cs)[j]? = (cs[j]?).map (nrmV t)
  | [], cs, j => ⟨none, by cases h : cs[j]? <;> simp [nrmL, nrmV, h]⟩
  | t :: ts, [], j => ⟨none, by simp [nrmL]⟩
  | t :: ts, c :: cs, 0 => ⟨t, by simp [nrmL]⟩
  | t :: ts, c :: cs, j + 1 => by obtain ⟨t', h⟩ := nrmL_get ts cs j; exact ⟨t', by simpa [nrmL] using h⟩
theorem nrmL_len : ∀ (ts : List (Option Ty)) (cs : List V), (nrmL ts cs).length = cs.length
  | [], cs => by simp [nrmL]
  | t :: ts, [] => by simp [nrmL]
  | t :: ts, c :: cs => by simp [nrmL, nrmL_len ts cs]
theorem nrmX_ok (ts : List (Option Ty)) {x : X} {u : Value} (h : XR γ I w L x u) : XR γ I w L (nrmX ts x) u := by
  unfold nrmX
  split
  · split
    · exact nrmV_ok _ h
    · exact h
  · rename_i cs
    obtain ⟨us, rfl, h1, h2⟩ := h
    refine ⟨us, rfl, by rw [h1, nrmL_len], fun j c hj => ?_⟩
    obtain ⟨t, ht⟩ := nrmL_get ts cs j
    rw [ht] at hj
    cases hc : cs[j]? with
    | none => rw [hc] at hj; cases hj
    | some c' =>
      rw [hc] at hj; injection hj with hj; subst hj
      obtain ⟨x, q1, q2⟩ := h2 j c' hc
      exact ⟨x, q1, nrmV_ok _ q2⟩
  · exact h
theorem nrmA_get : ∀ (ts : List (List (Option Ty))) (xs : List X) (j : Nat), ∃ t, (nrmA ts xs)[j]? = (xs[j]?).map (nrmX t)
  | [], xs, j => ⟨[], by
      have : ∀ x : X, nrmX [] x = x := fun x => by cases x <;> simp [nrmX, nrmL]
      cases h : xs[j]? <;> simp [nrmA, this, h]⟩
  | t :: ts, [], j => ⟨[], by simp [nrmA]⟩
  | t :: ts, c :: cs, 0 => ⟨t, by simp [nrmA]⟩
  | t :: ts, c :: cs, j + 1 => by obtain ⟨t', h⟩ := nrmA_get ts cs j; exact ⟨t', by simpa [nrmA] using h⟩
theorem nrmA_len : ∀ (ts : List (List (Option Ty))) (xs : List X), (nrmA ts xs).length = xs.length
  | [], cs => by simp [nrmA]
  | t :: ts, [] => by simp [nrmA]
  | t :: ts, c :: cs => by simp [nrmA, nrmA_len ts cs]
end
theorem Good.nrm {C : Cfg} {f : FuncId} {S : Spec} {own : Bool} (sh : List (List (Option Ty))) (h : Good C f ⟨S, own⟩) : Good C f ⟨Sx.nrm sh S, own⟩ := by
  refine ⟨fun args sub K γ I w us hS hA hm hg => ?_, h.enter, fun args sub K K' hk hS => h.mono _ _ _ _ hk hS⟩
  refine h.ok (nrmA sh args) sub K γ I w us hS ⟨by rw [nrmA_len]; exact hA.1, fun i x hx => ?_⟩ hm hg
  obtain ⟨t, ht⟩ := nrmA_get sh args i
  rw [ht] at hx
  cases hc : args[i]? with
  | none => rw [hc] at hx; cases hx
  | some y =>
    rw [hc] at hx; injection hx with hx; subst hx
    obtain ⟨u, q1, q2⟩ := hA.2 i y hc
    exact ⟨u, q1, nrmX_ok _ q2⟩
end Go.Proofs.Ytdpgdeaefmghiaa.Sx

/- Loops by what changes; going on by itself. -/
namespace Go.Proofs.Ytdpgdeaefmghiaa.Sx
noncomputable section
def updEK (us : List (Nat × X)) : List X → (List X → Prop) → Prop :=
  List.rec (motive := fun _ => List X → (List X → Prop) → Prop) (fun env K => K env) (fun u _ ih env K => setK env u.1 u.2 fun env => ih env K) us
def updOK (os : List (Nat × Option Ob)) : Obs → (Obs → Prop) → Prop :=
  List.rec (motive := fun _ => Obs → (Obs → Prop) → Prop) (fun obs K => K obs) (fun u _ ih obs K => setK obs u.1 u.2 fun obs => ih obs K) os
def updE (us : List (Nat × X)) (env : List X) : List X := us.foldl (fun e p => e.set p.1 p.2) env
def updO (os : List (Nat × Option Ob)) (obs : Obs) : Obs := os.foldl (fun e p => e.set p.1 p.2) obs
def upd (us : List (Nat × X)) (os : List (Nat × Option Ob)) (env : List X) (obs : Obs) : St := ⟨updE us env, updO os obs⟩
def updK (us : List (Nat × X)) (os : List (Nat × Option Ob)) (env : List X) (obs : Obs) (K : List X → Obs → Prop) : Prop := updEK us env fun env => updOK os obs fun obs => K env obs
theorem updEK_eq : ∀ (us : List (Nat × X)) (env : List X) (K : List X → Prop), updEK us env K = K (updE us env)
  | [], _, _ => rfl
  | u :: us, env, K => by
    show setK env u.1 u.2 (fun env => updEK us env K) = _
    rw [setK_eq, updEK_eq us]; rfl
theorem updOK_eq : ∀ (us : List (Nat × Option Ob)) (env : Obs) (K : Obs → Prop), updOK us env K = K (updO us env)
  | [], _, _ => rfl
  | u :: us, env, K => by
    show setK env u.1 u.2 (fun env => updOK us env K) = _
    rw [setK_eq, updOK_eq us]; rfl
theorem updK_eq (us : List (Nat × X)) (os : List (Nat × Option Ob)) (env : List X) (obs : Obs) (K : List X → Obs → Prop) : updK us os env obs K = K (updE us env) (updO os obs) := by
  unfold updK; rw [updEK_eq, updOK_eq]
def startsSlow (k : List KI) : Bool := match k with
  | .code (.loop _) :: _ => true
  | .code (.region _ _ true) :: _ => true
  | _ => false
end
section
variable {C : Cfg} {E : Entry} {H : Hy} {np xb : Nat}
theorem Fx.next (h : Fx C H np xb E) (n : Nat) {B : Exit → St → Prop} {k : List KI} {env : List X} {obs : Obs} (_hk : startsSlow k = false) (hr : ev C H np xb E B n k env obs) : Safe C E k B ⟨env, obs⟩ := h.run n hr
theorem Safe.loopU {Y : Type} (us : Y → List (Nat × X)) (os : Y → List (Nat × Option Ob)) (μ : Y → Nat) (x0 : Y) {body : Code} {k : List KI} {B : Exit → St → Prop} {env : List X} {obs : Obs}
    (h0 : StLe C E ⟨env, obs⟩ (upd (us x0) (os x0) env obs))
    (round : ∀ y, updK (us y) (os y) env obs fun env' obs' => Safe C E [.code body] (loopB C E (fun y => upd (us y) (os y) env obs) μ y k B) ⟨env', obs'⟩) : Safe C E (.code (.loop body) :: k) B ⟨env, obs⟩ :=
  Safe.loop (fun y => upd (us y) (os y) env obs) μ x0 h0 fun y => by have h := round y; rw [updK_eq] at h; exact h
theorem Safe.loopUP {Y : Type} (us : Y → List (Nat × X)) (os : Y → List (Nat × Option Ob)) (P : Y → Prop) (μ : Y → Nat) (x0 : Y) {body : Code} {k : List KI} {B : Exit → St → Prop} {env : List X} {obs : Obs}
    (hP : P x0) (h0 : StLe C E ⟨env, obs⟩ (upd (us x0) (os x0) env obs))
    (round : ∀ y, P y → updK (us y) (os y) env obs fun env' obs' => Safe C E [.code body] (loopBP C E (fun y => upd (us y) (os y) env obs) P μ y k B) ⟨env', obs'⟩) : Safe C E (.code (.loop body) :: k) B ⟨env, obs⟩ :=
  Safe.loopP (fun y => upd (us y) (os y) env obs) P μ x0 hP h0 fun y hy => by have h := round y hy; rw [updK_eq] at h; exact h
theorem StLe.upd {us : List (Nat × X)} {os : List (Nat × Option Ob)} {env env0 : List X} {obs obs0 : Obs} (h : updK us os env0 obs0 fun env' obs' => leEnvK env env' ∧ leObsK obs obs') : StLe C E ⟨env, obs⟩ (Sx.upd us os env0 obs0) := by
  rw [updK_eq] at h; exact StLe.of h.1 h.2
theorem StLe.swapU {us : List (Nat × X)} {os : List (Nat × Option Ob)} {env env0 : List X} {obs obs0 : Obs} (k0 k1 : Nat) (b0 : E.bx k0 = none) (b1 : E.bx k1 = none) (h0 : Nat.blt k0 obs.length = true) (h1 : Nat.blt k1 obs.length = true)
    (h : updK us os env0 obs0 fun env' obs' => leEnvK (swapE k0 k1 env) env' ∧ leObsK (swapO k0 k1 obs) obs') : StLe C E ⟨env, obs⟩ (Sx.upd us os env0 obs0) := by
  rw [updK_eq] at h
  exact StLe.swap k0 k1 b0 b1 (by simpa [Nat.blt_eq] using h0) (by simpa [Nat.blt_eq] using h1) (StLe.of h.1 h.2)
theorem Safe.swapK {B : Exit → St → Prop} {ks : List KI} {env : List X} {obs : Obs} (k0 k1 : Nat) (b0 : E.bx k0 = none) (b1 : E.bx k1 = none) (h0 : Nat.blt k0 obs.length = true) (h1 : Nat.blt k1 obs.length = true)
    (h : fXs (swapE k0 k1 env) fun env' => fObs (swapO k0 k1 obs) fun obs' => Safe C E ks B ⟨env', obs'⟩) : Safe C E ks B ⟨env, obs⟩ := by
  rw [fXs_eq, fObs_eq] at h
  exact Safe.weaken (StLe.swap k0 k1 b0 b1 (by simpa [Nat.blt_eq] using h0) (by simpa [Nat.blt_eq] using h1) fun _ _ q => q) h
end
end Go.Proofs.Ytdpgdeaefmghiaa.Sx
namespace Go.Proofs.Ytdpgdeaefmghiaa.Sx
noncomputable def eqtOf (l : List (Nat × List Nat)) (t : TypeId) : List Nat := List.rec [] (fun x _ ih => bif Nat.beq x.1 t then x.2 else ih) l
theorem eqtOf_ok {P : Program} : ∀ {l : List (Nat × List Nat)}, (l.all fun x => eqChk P x.1 x.2) = true → ∀ t, eqtOf l t ≠ [] → eqChk P t (eqtOf l t) = true
  | [], _, _, h => absurd rfl h
  | x :: l, h, t, hn => by
    simp only [List.all_cons, Bool.and_eq_true] at h
    have e : eqtOf (x :: l) t = bif Nat.beq x.1 t then x.2 else eqtOf l t := rfl
    cases hb : Nat.beq x.1 t with
    | true => rw [e, hb]; have := Nat.eq_of_beq_eq_true hb; subst this; exact h.1
    | false => rw [e, hb] at hn ⊢; exact eqtOf_ok h.2 t hn
theorem sameS {T : Ty} {a b : List T.D} (h : a = b) : SameX (.v (.sl T a)) (.v (.sl T b)) := h ▸ .refl _
theorem sameStr {a b : List UInt8} (h : a = b) : SameX (.v (.str a)) (.v (.str b)) := h ▸ .refl _
theorem sameB {a b : Bool} (h : a = b) : SameX (.v (.bool a)) (.v (.bool b)) := h ▸ .refl _
theorem sameX {a b : X} (h : a = b) : SameX a b := h ▸ .refl _
theorem sameRow {e : TypeId} {T : Ty} {a b : List T.D} (h : a = b) : SameRow (.row e T a) (.row e T b) := .row _ _ _ _ h
end Go.Proofs.Ytdpgdeaefmghiaa.Sx

/- From the given reading of an argument to the walk's symbolic values, and back. -/
namespace Go.Proofs.Ytdpgdeaefmghiaa.Sx
open Go.RowKit
/-- What a reading tells of a slice of bytes: nil, or a row of numbers. -/
def RowU8 (w : World) (a : Option Addr) (len cap : Nat) (zs : List Int) : Prop :=
  (a = none ∧ len = 0 ∧ cap = 0 ∧ zs = []) ∨
  ∃ x, a = some x ∧ len ≤ cap ∧ zs.length = cap ∧ (∀ i, i < zs.length → w.cell? (x.add i) = some (.int .u8 (zs.getD i 0))) ∧ ∀ n ∈ zs, (Lit.int .u8 n).wf = true
def u8s (zs : List Int) : List UInt8 := zs.map fun n => UInt8.ofNat n.toNat
theorem flat_u8_get (xs : List UInt8) (j : Nat) : (flat .u8 xs)[j]? = xs[j]?.map fun n => .int .u8 (n.toNat : Nat) := by
  rw [flat_u8, List.getElem?_map]
theorem wf_u8 {n : Int} (h : (Lit.int .u8 n).wf = true) : 0 ≤ n ∧ n ≤ 255 := by
  simp [Lit.wf, IntKind.min, IntKind.max, IntKind.signed, IntKind.bits] at h
  omega
theorem RowU8.vr {γ : Nat → Option Nat} {L : Nat → Option Ob} {w : World} {a : Option Addr} {len cap : Nat} {zs : List Int} (h : RowU8 w a len cap zs) (hb : cap ≤ big) :
    VR γ (fun b => b < w.heap.size) w L (.sl .u8 (u8s (zs.take len))) (.slice a len cap) := by
  rcases h with ⟨rfl, rfl, rfl, rfl⟩ | ⟨⟨b, o, sp⟩, rfl, hl, hz, hc, hw⟩
  · exact .slE .u8 none 0
  · by_cases h0 : len = 0
    · subst h0; simpa [u8s] using VR.slE (γ := γ) (I := fun b => b < w.heap.size) (w := w) (L := L) .u8 (some ⟨b, o, sp⟩) cap
    · have hs : sp = none := by simpa [Addr.add] using World.cell?_spot (hc 0 (by omega))
      subst hs
      have hlt : b < w.heap.size := by
        have h1 := cell_at w (⟨b, o, none⟩ : Addr).block (⟨b, o, none⟩ : Addr).off
        have h2 := hc 0 (by omega)
        have e : (⟨b, o, none⟩ : Addr).add 0 = ⟨b, o, none⟩ := by simp [Addr.add]
        rw [e] at h2
        have h3 : at? w b o = some (.int .u8 (zs.getD 0 0)) := h1.symm.trans h2
        unfold at? at h3
        cases hh : w.heap[b]? with
        | none => rw [hh] at h3; cases h3
        | some _ => exact (Array.getElem?_eq_some_iff.1 hh).1
      have hlen : (u8s (zs.take len)).length = len := by simp [u8s]; omega
      have hget : ∀ j, j < len → (u8s (zs.take len))[j]? = some (UInt8.ofNat (zs.getD j 0).toNat) := fun j hj => by
        have : j < zs.length := by omega
        simp [u8s, hj, List.getElem?_eq_getElem this, List.getD_eq_getElem?_getD]
      have hv : ∀ j, j < zs.length → (((UInt8.ofNat (zs.getD j 0).toNat).toNat : Nat) : Int) = zs.getD j 0 := fun j hj => by
        have hm : zs.getD j 0 ∈ zs := by rw [List.getD_eq_getElem?_getD, List.getElem?_eq_getElem hj]; exact List.getElem_mem hj
        have := wf_u8 (hw _ hm)
        rw [UInt8.toNat_ofNat', Nat.mod_eq_of_lt (by omega)]; omega
      have key := VR.sl (γ := γ) (I := fun b => b < w.heap.size) (w := w) (L := L) .u8 (u8s (zs.take len)) b o cap (fun j => .int .u8 (zs.getD j 0)) (by omega) (by simp [Ty.bytes]; omega) hlt
        (fun j c hj => by
          rw [flat_u8_get] at hj
          have hjl : j < len := by
            by_cases hjl : j < len
            · exact hjl
            · rw [List.getElem?_eq_none (by omega : (u8s (zs.take len)).length ≤ j)] at hj; cases hj
          have := hc j (by omega)
          rw [← cell_at]
          have e : (⟨b, o, none⟩ : Addr).add j = ⟨b, o + j, none⟩ := by
            simp only [Addr.add]
            split
            · rename_i h; have : j = 0 := by simpa using h
              subst this; rfl
            · rfl
          rw [← e]; exact this)
        (fun j c hj => by
          rw [flat_u8_get] at hj
          have hjl : j < len := by
            by_cases hjl : j < len
            · exact hjl
            · rw [List.getElem?_eq_none (by omega : (u8s (zs.take len)).length ≤ j)] at hj; cases hj
          rw [hget j hjl] at hj
          injection hj with hj; subst hj
          show VR γ (fun b => b < w.heap.size) w L (V.int IntKind.u8 (((UInt8.ofNat (zs.getD j 0).toNat).toNat : Nat) : Int)) (Value.int IntKind.u8 (zs.getD j 0))
          rw [hv j (by omega)]
          have hm : zs.getD j 0 ∈ zs := by rw [List.getD_eq_getElem?_getD, List.getElem?_eq_getElem (by omega)]; exact List.getElem_mem _
          have := wf_u8 (hw _ hm)
          exact .int .u8 _ ⟨by simp only [lo]; omega, by simp only [Go.Proofs.Ytdpgdeaefmghiaa.Sx.hi]; omega⟩)
      rw [hlen] at key
      exact key
theorem lk_nil (k : Nat) : lk [] k = none := by simp [lk]
/-- A contract, called with arguments of contents alone: nothing that was there is written. -/
theorem Good.entry {C : Cfg} {f : FuncId} {en : Ent} (hg : Good C f en) {w : World} {args : List X} {us : Array Value} {K : X → Obs → Prop} (hS : en.spec args [] K)
    (hA : ArgsR (fun _ => none) (fun b => b < w.heap.size) w (fun _ => none) args us) (hglob : ∀ g cs, C.glob g = some cs → GR (fun b => b < w.heap.size) w g cs) :
    Calls C.P f us w fun e w' => ∃ v x sub' γ' I', e = .returned v ∧ K x sub' ∧ XR γ' I' w' (lk sub') x v ∧ Below w.heap.size w w' := by
  have hl : lk ([] : Obs) = fun _ => none := funext lk_nil
  refine (hg.ok args [] K (fun _ => none) (fun b => b < w.heap.size) w us hS (by rw [hl]; exact hA) ?_ hglob).mono ?_
  · rw [hl]
    exact ⟨fun _ _ h => (nomatch h), fun _ _ _ _ _ h => (nomatch h), fun _ _ _ h => (nomatch h), fun _ h => h⟩
  · rintro e w' ⟨v, x, sub', γ', I', he, hK, hx, hp⟩
    refine ⟨v, x, sub', γ', I', he, hK, hx, hp.fr.os, hp.fr.tape, hp.fr.output, hp.fr.size, fun k hk => hp.fr.block k hk ?_⟩
    rintro ⟨j, o, h, _⟩
    rw [lk_nil] at h; cases h
theorem args2 {γ : Nat → Option Nat} {I : Nat → Prop} {w : World} {L : Nat → Option Ob} {x y : V} {u v : Value} (hx : VR γ I w L x u) (hy : VR γ I w L y v) : ArgsR γ I w L [.v x, .v y] #[u, v] :=
  ⟨rfl, fun i z h => match i with
    | 0 => by simp at h; subst h; exact ⟨u, rfl, hx⟩
    | 1 => by simp at h; subst h; exact ⟨v, rfl, hy⟩
    | n + 2 => by simp at h⟩
theorem bool_true {γ : Nat → Option Nat} {I : Nat → Prop} {w : World} {L : Nat → Option Ob} {v : Value} (h : XR γ I w L (.v (.bool true)) v) : v = .bool true := by
  have h : VR γ I w L (.bool true) v := h
  cases h; rfl
end Go.Proofs.Ytdpgdeaefmghiaa.Sx
