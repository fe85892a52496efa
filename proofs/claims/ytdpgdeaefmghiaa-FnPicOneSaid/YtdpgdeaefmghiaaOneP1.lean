/- A part of the proof's own kit: symbolic walks over the model (SxA, SxB, SxC, SxD, SxE, SxF, SxG, SxH). No statement of the seat stands here. -/
import Derived.Calls
import Derived.Laws.AppendOwn
import Derived.Laws.Entries
import Derived.KernelRfl
import Derived.Deep.AppendSrc
import Derived.Laws.StructEq
import Derived.Laws.MakeOwn
set_option linter.unusedSimpArgs false
set_option linter.unusedVariables false
/- The symbolic executor's words: types, values, objects. No program in it. -/
namespace Go.Proofs.Ytdpgdeaefmghiaa.Sx
/-- How long a thing may be, in bytes. -/
abbrev big : Nat := 140737488355328
structure DevArg where
  kind : Int
  n : Int
  p : Int
structure Elem where
  op : Int
  args : List DevArg
structure Inst where
  code : Int
  one : Elem
structure Pair where
  a : Int
  b : Int
inductive Net where
  | mk (kind : Int) (op : Int) (args : List DevArg) (kids : List Net)
inductive Ty where
  | i64 | u8 | bool | str | devarg | elem | inst | pair | net
  | sl (t : Ty)
def Net.kind : Net → Int | .mk k _ _ _ => k
def Net.op : Net → Int | .mk _ o _ _ => o
def Net.args : Net → List DevArg | .mk _ _ a _ => a
def Net.kids : Net → List Net | .mk _ _ _ k => k
@[reducible] def Ty.D : Ty → Type
  | .i64 => Int | .u8 => UInt8 | .bool => Bool | .str => List UInt8 | .devarg => DevArg | .elem => Elem | .inst => Inst | .pair => Pair
  | .net => Net | .sl t => List t.D
def Ty.dflt : (T : Ty) → T.D
  | .i64 => (0 : Int) | .u8 => (0 : UInt8) | .bool => false | .str => ([] : List UInt8) | .devarg => DevArg.mk 0 0 0 | .elem => Elem.mk 0 []
  | .inst => Inst.mk 0 (Elem.mk 0 []) | .pair => Pair.mk 0 0 | .net => Net.mk 0 0 [] [] | .sl t => ([] : List t.D)
/-- Values of one cell. -/
inductive V where
  | any
  | int (k : IntKind) (n : Int)
  | tt | ff
  | bool (b : Bool)
  | str (s : List UInt8)
  | sl (T : Ty) (xs : List T.D)
  | nil
  | ptr (k off : Nat)
  | own (k off len : Nat)
  | full (k : Nat)
  | cp (cells : List V)
  | ep (k : Nat) (i : Nat) (off : Nat)
  | fn (f : FuncId) (caps : List Nat)
  | con (v : Value)
inductive X where
  | v (x : V)
  | agg (cs : List V)
  | tup (xs : List X)
inductive Ob where
  | box (cells : List V)
  | row (e : TypeId) (T : Ty) (xs : List T.D)
/-- Cells of an element. -/
def Ty.size : Ty → Nat
  | .devarg => 3 | .elem => 2 | .inst => 3 | .pair => 2 | .net => 4 | _ => 1
/-- Bytes of an element. -/
def Ty.bytes : Ty → Nat
  | .u8 => 1 | .bool => 1 | .str => 16 | .devarg => 24 | .elem => 32 | .inst => 40 | .pair => 16 | .net => 64 | .sl _ => 24 | .i64 => 8
theorem Ty.size_pos (T : Ty) : 0 < T.size := by cases T <;> simp [Ty.size, Ty.bytes]
theorem Ty.bytes_pos (T : Ty) : 0 < T.bytes := by cases T <;> simp [Ty.size, Ty.bytes]
def enc : (T : Ty) → T.D → List V
  | .i64, n => [.int .i64 n]
  | .u8, b => [.int .u8 (UInt8.toNat b)]
  | .bool, b => [.bool b]
  | .str, s => [.str s]
  | .devarg, a => [.int .i64 (DevArg.kind a), .int .i64 (DevArg.n a), .int .i64 (DevArg.p a)]
  | .elem, e => [.int .i64 (Elem.op e), .sl .devarg (Elem.args e)]
  | .inst, a => [.int .i64 (Inst.code a), .int .i64 (Elem.op (Inst.one a)), .sl .devarg (Elem.args (Inst.one a))]
  | .pair, a => [.int .i64 (Pair.a a), .int .i64 (Pair.b a)]
  | .net, a => [.int .i64 (Net.kind a), .int .i64 (Net.op a), .sl .devarg (Net.args a), .sl .net (Net.kids a)]
  | .sl t, xs => [.sl t xs]
theorem enc_length (T : Ty) (x : T.D) : (enc T x).length = T.size := by cases T <;> rfl
/-- What a content slice's cell holds. -/
def slOf : (T : Ty) → V → Option (List T.D)
  | _, .nil => some []
  | .u8, .sl .u8 xs => some xs
  | .i64, .sl .i64 xs => some xs
  | .bool, .sl .bool xs => some xs
  | .str, .sl .str xs => some xs
  | .devarg, .sl .devarg xs => some xs
  | .elem, .sl .elem xs => some xs
  | .inst, .sl .inst xs => some xs
  | .pair, .sl .pair xs => some xs
  | .net, .sl .net xs => some xs
  | .sl .u8, .sl (.sl .u8) xs => some xs
  | .sl .inst, .sl (.sl .inst) xs => some xs
  | _, _ => none
/-- Cells read as an element. -/
def dec : (T : Ty) → List V → Option T.D
  | .i64, [.int .i64 n] => some n
  | .u8, [.int .u8 n] => some (UInt8.ofNat n.toNat)
  | .bool, [.bool b] => some b
  | .bool, [.tt] => some true
  | .bool, [.ff] => some false
  | .str, [.str s] => some s
  | .devarg, [.int .i64 a, .int .i64 b, .int .i64 c] => some (DevArg.mk a b c)
  | .elem, [.int .i64 a, c] => match slOf .devarg c with | some l => some (Elem.mk a l) | none => none
  | .inst, [.int .i64 a, .int .i64 b, c] => match slOf .devarg c with | some l => some (Inst.mk a (Elem.mk b l)) | none => none
  | .pair, [.int .i64 a, .int .i64 b] => some (Pair.mk a b)
  | .net, [.int .i64 a, .int .i64 b, c, d] => match slOf .devarg c with
    | some l => match slOf .net d with | some k => some (Net.mk a b l k) | none => none
    | none => none
  | .sl t, [c] => slOf t c
  | _, _ => none
def flat (T : Ty) (xs : List T.D) : List V := xs.flatMap (enc T)
/-- A number is of its kind. -/
def lo : IntKind → Int
  | .i8 => -128 | .i16 => -32768 | .i32 => -2147483648 | .i64 => -9223372036854775808 | _ => 0
def hi : IntKind → Int
  | .i8 => 127 | .i16 => 32767 | .i32 => 2147483647 | .i64 => 9223372036854775807 | .u8 => 255 | .u16 => 65535 | .u32 => 4294967295 | .u64 => 18446744073709551615
def inR (k : IntKind) (n : Int) : Prop := lo k ≤ n ∧ n ≤ hi k
def inRb (k : IntKind) (n : Int) : Bool := decide (lo k ≤ n) && decide (n ≤ hi k)
theorem inRb_spec {k : IntKind} {n : Int} (h : inRb k n = true) : inR k n := by
  simp only [inRb, Bool.and_eq_true, decide_eq_true_eq] at h; exact h
theorem inR_wrap (k : IntKind) (n : Int) : inR k (k.wrap n) := by
  cases k <;> simp only [inR, lo, hi, IntKind.wrap, IntKind.bits, IntKind.signed, Bool.true_and, Bool.false_and, Bool.false_eq_true, if_false] <;> (try split) <;> simp_all <;> omega
theorem wrap_in {k : IntKind} {n : Int} (h : inR k n) : k.wrap n = n := by
  revert h
  cases k <;> simp only [inR, lo, hi, IntKind.wrap, IntKind.bits, IntKind.signed, Bool.true_and, Bool.false_and, Bool.false_eq_true, if_false] <;> intro h <;> (try split) <;> simp_all <;> omega
/-- Numbers are of their kinds, and no slice is too long. -/
inductive OkNet : Net → Prop
  | mk (k o : Int) (a : List DevArg) (ks : List Net) : inR .i64 k → inR .i64 o → a.length * 24 ≤ big → (∀ x ∈ a, inR .i64 x.kind ∧ inR .i64 x.n ∧ inR .i64 x.p) →
      ks.length * 64 ≤ big → (∀ x ∈ ks, OkNet x) → OkNet (.mk k o a ks)
def OkArgs (l : List DevArg) : Prop := l.length * 24 ≤ big ∧ ∀ x ∈ l, inR .i64 x.kind ∧ inR .i64 x.n ∧ inR .i64 x.p
def Ok : (T : Ty) → T.D → Prop
  | .i64, n => inR .i64 n
  | .u8, _ => True
  | .bool, _ => True
  | .str, s => List.length s ≤ big
  | .devarg, a => inR .i64 (DevArg.kind a) ∧ inR .i64 (DevArg.n a) ∧ inR .i64 (DevArg.p a)
  | .elem, e => inR .i64 (Elem.op e) ∧ OkArgs (Elem.args e)
  | .inst, i => inR .i64 (Inst.code i) ∧ inR .i64 (Elem.op (Inst.one i)) ∧ OkArgs (Elem.args (Inst.one i))
  | .pair, a => inR .i64 (Pair.a a) ∧ inR .i64 (Pair.b a)
  | .net, n => OkNet n
  | .sl t, xs => List.length xs * t.bytes ≤ big ∧ ∀ x ∈ xs, Ok t x
/-- No handle to this key. -/
def noRefV (d : Nat) : V → Bool
  | .ptr k _ => !Nat.beq k d
  | .own k _ _ => !Nat.beq k d
  | .full k => !Nat.beq k d
  | .ep k _ _ => !Nat.beq k d
  | .fn _ caps => caps.all fun k => !Nat.beq k d
  | _ => true
def noRefX1 (d : Nat) : X → Bool
  | .v c => noRefV d c
  | .agg cs => cs.all (noRefV d)
  | .tup _ => true
def noRefX (d : Nat) : X → Bool
  | .tup xs => xs.all (noRefX1 d)
  | x => noRefX1 d x
def noRefO (d : Nat) : Option Ob → Bool
  | some (.box cells) => cells.all (noRefV d)
  | _ => true
end Go.Proofs.Ytdpgdeaefmghiaa.Sx

/- Symbolic values against the model's memory. -/
namespace Go.Proofs.Ytdpgdeaefmghiaa.Sx
def at? (w : World) (b o : Nat) : Option Value :=
  match w.heap[b]? with
  | some (.cells c _ _) => c[o]?
  | _ => none
theorem cell_at (w : World) (b o : Nat) : w.cell? ⟨b, o, none⟩ = at? w b o := by
  unfold World.cell? at?; split <;> simp_all
theorem at_of_heap {w : World} {b : Nat} {c : Array Value} {e : TypeId} {f : Nat × Nat} (h : w.heap[b]? = some (.cells c e f)) (o : Nat) : at? w b o = c[o]? := by
  simp [at?, h]
theorem at_congr {w w' : World} {b : Nat} (h : w'.heap[b]? = w.heap[b]?) (o : Nat) : at? w' b o = at? w b o := by simp [at?, h]
/-- Contents alone: no handle. -/
def V.plain : V → Prop
  | .any | .ptr .. | .own .. | .full _ | .cp _ | .ep .. | .fn .. => False
  | _ => True
/-- A symbolic value stands for a value. γ: which block is an object; I: the blocks that never change; L: the objects that live. -/
inductive VR (γ : Nat → Option Nat) (I : Nat → Prop) (w : World) (L : Nat → Option Ob) : V → Value → Prop
  | any (v : Value) : VR γ I w L .any v
  | int (k : IntKind) (n : Int) : inR k n → VR γ I w L (.int k n) (.int k n)
  | tt : VR γ I w L .tt (.bool true)
  | ff : VR γ I w L .ff (.bool false)
  | bool (b : Bool) : VR γ I w L (.bool b) (.bool b)
  | str (s : List UInt8) : s.length ≤ big → VR γ I w L (.str s) (.string ⟨s.toArray⟩)
  | nil : VR γ I w L .nil (.slice none 0 0)
  | slE (T : Ty) (a : Option Addr) (c : Nat) : VR γ I w L (.sl T []) (.slice a 0 c)
  | sl (T : Ty) (xs : List T.D) (b o c : Nat) (u : Nat → Value) : xs.length ≤ c → xs.length * T.bytes ≤ big → I b →
      (∀ j c, (flat T xs)[j]? = some c → at? w b (o + j) = some (u j)) → (∀ j c, (flat T xs)[j]? = some c → VR γ I w L c (u j)) →
      VR γ I w L (.sl T xs) (.slice (some ⟨b, o, none⟩) xs.length c)
  | ptr (k off b : Nat) : γ k = some b → VR γ I w L (.ptr k off) (.pointer (some ⟨b, off, none⟩))
  | ptrD (k off : Nat) (v : Value) : L k = none → VR γ I w L (.ptr k off) v
  | ownD (k off len : Nat) (v : Value) : L k = none → VR γ I w L (.own k off len) v
  | fullD (k : Nat) (v : Value) : L k = none → VR γ I w L (.full k) v
  | full (k : Nat) (e : TypeId) (T : Ty) (xs : List T.D) (v : Value) : L k = some (.row e T xs) → VR γ I w L (.own k 0 xs.length) v → VR γ I w L (.full k) v
  | ownN (k : Nat) : γ k = none → VR γ I w L (.own k 0 0) (.slice none 0 0)
  | own (k off len b c e sz : Nat) (T : Ty) (xs : List T.D) (cur : Array Value) (o : Nat) : L k = some (.row e T xs) → γ k = some b → off + len ≤ xs.length →
      w.heap[b]? = some (.cells cur e (0, 0)) → sz = T.size → (off + c) * sz = cur.size → (len = 0 ∧ off ≠ 0 ∨ o = off * sz) → len ≤ c →
      VR γ I w L (.own k off len) (.slice (some ⟨b, o, none⟩) len c)
  | cp (cs : List V) (b o : Nat) (u : Nat → Value) : (∀ c ∈ cs, c.plain) → I b → (∀ (j : Nat) (c : V), cs[j]? = some c → at? w b (o + j) = some (u j)) → (∀ j c, cs[j]? = some c → VR γ I w L c (u j)) →
      VR γ I w L (.cp cs) (.pointer (some ⟨b, o, none⟩))
  | epD (k i off : Nat) (v : Value) : L k = none → VR γ I w L (.ep k i off) v
  | ep (k i off b : Nat) (e : TypeId) (T : Ty) (xs : List T.D) : L k = some (.row e T xs) → i < xs.length → γ k = some b → VR γ I w L (.ep k i off) (.pointer (some ⟨b, i * T.size + off, none⟩))
  | con (v : Value) : v.oneCell' = true → VR γ I w L (.con v) v
  | fn (f : FuncId) (caps : List Nat) (us : Array Value) : us.size = caps.length → (∀ (j k : Nat), caps[j]? = some k → L k = none ∨ ∃ b, γ k = some b ∧ us[j]? = some (.pointer (some ⟨b, 0, none⟩))) →
      VR γ I w L (.fn f caps) (.func (.func f) #[] us)
def XR1 (γ : Nat → Option Nat) (I : Nat → Prop) (w : World) (L : Nat → Option Ob) : X → Value → Prop
  | .v c, u => VR γ I w L c u
  | .agg cs, u => ∃ us : Array Value, u = .agg us ∧ us.size = cs.length ∧ ∀ (j : Nat) (c : V), cs[j]? = some c → ∃ x, us[j]? = some x ∧ VR γ I w L c x
  | .tup _, _ => True
def XR (γ : Nat → Option Nat) (I : Nat → Prop) (w : World) (L : Nat → Option Ob) : X → Value → Prop
  | .tup xs, u => ∃ us : Array Value, u = .tuple us ∧ us.size = xs.length ∧ ∀ (j : Nat) (x : X), xs[j]? = some x → ∃ y, us[j]? = some y ∧ XR1 γ I w L x y
  | x, u => XR1 γ I w L x u
theorem enc_plain (T : Ty) (x : T.D) : ∀ c ∈ enc T x, c.plain := by
  cases T <;> simp [enc, V.plain]
theorem flat_plain {T : Ty} {xs : List T.D} {j : Nat} {c : V} (h : (flat T xs)[j]? = some c) : c.plain := by
  have hm := List.mem_of_getElem? h
  simp only [flat, List.mem_flatMap] at hm
  obtain ⟨x, _, hx⟩ := hm
  exact enc_plain T x c hx
theorem VR.content {γ γ' : Nat → Option Nat} {I I' : Nat → Prop} {w w' : World} {L L' : Nat → Option Ob} (hI : ∀ b, I b → I' b) (hw : ∀ b, I b → w'.heap[b]? = w.heap[b]?)
    {c : V} {u : Value} (h : VR γ I w L c u) : c.plain → VR γ' I' w' L' c u := by
  induction h with
  | any v => exact fun hp => hp.elim
  | int k n h => exact fun _ => .int k n h
  | tt => exact fun _ => .tt
  | ff => exact fun _ => .ff
  | bool b => exact fun _ => .bool b
  | str s h => exact fun _ => .str s h
  | nil => exact fun _ => .nil
  | slE T a c => exact fun _ => .slE T a c
  | sl T xs b o c u h1 h2 h3 h4 _ ih =>
    exact fun _ => .sl T xs b o c u h1 h2 (hI b h3) (fun j c hj => by rw [at_congr (hw b h3)]; exact h4 j c hj) (fun j c hj => ih j c hj (flat_plain hj))
  | ptr => exact fun hp => hp.elim
  | ptrD => exact fun hp => hp.elim
  | ownD => exact fun hp => hp.elim
  | fullD => exact fun hp => hp.elim
  | full => exact fun hp => hp.elim
  | ownN => exact fun hp => hp.elim
  | own => exact fun hp => hp.elim
  | cp => exact fun hp => hp.elim
  | epD => exact fun hp => hp.elim
  | ep => exact fun hp => hp.elim
  | con v h => exact fun _ => .con v h
  | fn => exact fun hp => hp.elim
/-- From one state of memory to a later one: a handle that still lives keeps its block; N: the keys of new objects. -/
structure Keep (N : Nat → Prop) (γ γ' : Nat → Option Nat) (I I' : Nat → Prop) (w w' : World) (L L' : Nat → Option Ob) : Prop where
  inc : ∀ b, I b → I' b
  imm : ∀ b, I b → w'.heap[b]? = w.heap[b]?
  ptr : ∀ k ob, L' k = some ob → ¬ N k → L k ≠ none ∧ γ' k = γ k
  row : ∀ k e T xs, L k = some (.row e T xs) → ¬ N k → L' k = none ∨ (∃ ys : List T.D, L' k = some (.row e T ys) ∧ xs.length = ys.length) ∧ (∀ b cur, γ k = some b → w.heap[b]? = some (.cells cur e (0, 0)) → ∃ cur', w'.heap[b]? = some (.cells cur' e (0, 0)) ∧ cur'.size = cur.size)
theorem VR.keep {N : Nat → Prop} {γ γ' : Nat → Option Nat} {I I' : Nat → Prop} {w w' : World} {L L' : Nat → Option Ob} (hk : Keep N γ γ' I I' w w' L L')
    {c : V} {u : Value} (hn : ∀ d, N d → noRefV d c = true) (h : VR γ I w L c u) : VR γ' I' w' L' c u := by
  have live : ∀ k, ¬ N k → L' k ≠ none → γ' k = γ k := fun k hnk hl => by
    cases hL : L' k with
    | none => exact absurd hL hl
    | some ob => exact (hk.ptr k ob hL hnk).2
  have dead : ∀ k, ¬ N k → L k = none → L' k = none := fun k hnk hl => by
    cases hL : L' k with
    | none => rfl
    | some ob => exact absurd hl (hk.ptr k ob hL hnk).1
  have nb : ∀ k d, (!Nat.beq k d) = true → k ≠ d := fun k d h e => by subst e; simp at h
  revert hn
  induction h with
  | any => exact fun _ => .any _
  | int k n h => exact fun _ => .int k n h
  | tt => exact fun _ => .tt
  | ff => exact fun _ => .ff
  | bool b => exact fun _ => .bool b
  | str s h => exact fun _ => .str s h
  | nil => exact fun _ => .nil
  | slE T a c => exact fun _ => .slE T a c
  | sl T xs b o c u h1 h2 h3 h4 h5 _ => exact fun _ => VR.content hk.inc hk.imm (.sl T xs b o c u h1 h2 h3 h4 h5) trivial
  | ptr k off b h =>
    intro hn
    have hnk : ¬ N k := fun hN => nb k k (hn k hN) rfl
    by_cases hl : L' k = none
    · exact .ptrD k off _ hl
    · exact .ptr k off b (by rw [live k hnk hl, h])
  | ptrD k off _ h => exact fun hn => .ptrD k off _ (dead k (fun hN => nb k k (hn k hN) rfl) h)
  | ownD k off len _ h => exact fun hn => .ownD k off len _ (dead k (fun hN => nb k k (hn k hN) rfl) h)
  | fullD k _ h => exact fun hn => .fullD k _ (dead k (fun hN => nb k k (hn k hN) rfl) h)
  | full k e T xs v h1 _ ih =>
    intro hn
    have hnk : ¬ N k := fun hN => nb k k (hn k hN) rfl
    rcases hk.row k e T xs h1 hnk with hl | ⟨⟨ys, hy, hle⟩, _⟩
    · exact .fullD k _ hl
    · exact .full k e T ys v hy (by rw [← hle]; exact ih hn)
  | ownN k h =>
    intro hn
    have hnk : ¬ N k := fun hN => nb k k (hn k hN) rfl
    by_cases hl : L' k = none
    · exact .ownD k 0 0 _ hl
    · exact .ownN k (by rw [live k hnk hl, h])
  | own k off len b c e sz T xs cur o h1 h2 h3 h4 h5 h6 h7 h8 =>
    intro hn
    have hnk : ¬ N k := fun hN => nb k k (hn k hN) rfl
    rcases hk.row k e T xs h1 hnk with hl | ⟨⟨ys, hy, hle⟩, hb⟩
    · exact .ownD k off len _ hl
    · obtain ⟨cur', hc, hs⟩ := hb b cur h2 h4
      exact .own k off len b c e sz T ys cur' o hy (by rw [live k hnk (by rw [hy]; simp), h2]) (by omega) hc h5 (by rw [hs]; exact h6) h7 h8
  | cp cs b o u hp h3 h4 h5 _ =>
    exact fun _ => .cp cs b o u hp (hk.inc b h3) (fun j c hj => by rw [at_congr (hk.imm b h3)]; exact h4 j c hj) (fun j c hj => (h5 j c hj).content hk.inc hk.imm (hp c (List.mem_of_getElem? hj)))
  | epD k i off _ h => exact fun hn => .epD k i off _ (dead k (fun hN => nb k k (hn k hN) rfl) h)
  | ep k i off b e T xs h1 hi h2 =>
    intro hn
    have hnk : ¬ N k := fun hN => nb k k (hn k hN) rfl
    rcases hk.row k e T xs h1 hnk with hl | ⟨⟨ys, hy, hle⟩, _⟩
    · exact .epD k i off _ hl
    · exact .ep k i off b e T ys hy (by omega) (by rw [live k hnk (by rw [hy]; simp), h2])
  | con _ h => exact fun _ => .con _ h
  | fn f caps us h1 h2 =>
    intro hn
    refine .fn f caps us h1 (fun j k hj => ?_)
    have hnk : ¬ N k := fun hN => by
      have := hn k hN
      simp only [noRefV, List.all_eq_true] at this
      exact nb k k (this k (List.mem_of_getElem? hj)) rfl
    rcases h2 j k hj with h | ⟨b, hb, hu⟩
    · exact .inl (dead k hnk h)
    · by_cases hl : L' k = none
      · exact .inl hl
      · exact .inr ⟨b, by rw [live k hnk hl, hb], hu⟩
theorem all_noRef {d : Nat} {cs : List V} (h : cs.all (noRefV d) = true) {j : Nat} {c : V} (hj : cs[j]? = some c) : noRefV d c = true :=
  List.all_eq_true.1 h c (List.mem_of_getElem? hj)
theorem XR1.keep {N : Nat → Prop} {γ γ' : Nat → Option Nat} {I I' : Nat → Prop} {w w' : World} {L L' : Nat → Option Ob} (hk : Keep N γ γ' I I' w w' L L') : ∀ {x : X} {u : Value}, (∀ d, N d → noRefX1 d x = true) → XR1 γ I w L x u → XR1 γ' I' w' L' x u
  | .v _, _, hn, h => VR.keep hk hn h
  | .agg _, _, hn, ⟨us, h1, h2, h3⟩ => ⟨us, h1, h2, fun j c hj => let ⟨x, e, r⟩ := h3 j c hj; ⟨x, e, VR.keep hk (fun d hd => all_noRef (hn d hd) hj) r⟩⟩
  | .tup _, _, _, _ => trivial
theorem XR.keep {N : Nat → Prop} {γ γ' : Nat → Option Nat} {I I' : Nat → Prop} {w w' : World} {L L' : Nat → Option Ob} (hk : Keep N γ γ' I I' w w' L L') : ∀ {x : X} {u : Value}, (∀ d, N d → noRefX d x = true) → XR γ I w L x u → XR γ' I' w' L' x u
  | .v _, _, hn, h => VR.keep hk hn h
  | .agg _, _, hn, ⟨us, h1, h2, h3⟩ => ⟨us, h1, h2, fun j c hj => let ⟨x, e, r⟩ := h3 j c hj; ⟨x, e, VR.keep hk (fun d hd => all_noRef (hn d hd) hj) r⟩⟩
  | .tup _, _, hn, ⟨us, h1, h2, h3⟩ => ⟨us, h1, h2, fun j c hj => let ⟨x, e, r⟩ := h3 j c hj; ⟨x, e, XR1.keep hk (fun d hd => List.all_eq_true.1 (hn d hd) c (List.mem_of_getElem? hj)) r⟩⟩
theorem Keep.refl (N : Nat → Prop) (γ : Nat → Option Nat) (I : Nat → Prop) (w : World) (L : Nat → Option Ob) : Keep N γ γ I I w w L L :=
  ⟨fun _ h => h, fun _ _ => rfl, fun k ob h _ => ⟨by rw [h]; simp, rfl⟩, fun k e T xs h _ => .inr ⟨⟨xs, h, rfl⟩, fun b cur _ hc => ⟨cur, hc, rfl⟩⟩⟩
/-- An object in memory. -/
def ObR (γ : Nat → Option Nat) (I : Nat → Prop) (w : World) (L : Nat → Option Ob) (k : Nat) : Ob → Prop
  | .box cells => ∃ b cur e, γ k = some b ∧ w.heap[b]? = some (.cells cur e (0, 0)) ∧ cur.size = cells.length ∧ ∀ (j : Nat) (c : V), cells[j]? = some c → ∃ u, cur[j]? = some u ∧ VR γ I w L c u
  | .row e T xs => (γ k = none ∧ xs = []) ∨ ∃ b cur cap, γ k = some b ∧ w.heap[b]? = some (.cells cur e (0, 0)) ∧ cur.size = cap * T.size ∧ xs.length ≤ cap ∧ cap ≤ maxLen ∧
      xs.length * T.bytes ≤ big ∧ ∀ (j : Nat) (c : V), (flat T xs)[j]? = some c → ∃ u, cur[j]? = some u ∧ VR γ I w L c u
/-- All objects in memory, apart from each other and from what never changes. -/
structure MR (γ : Nat → Option Nat) (I : Nat → Prop) (w : World) (L : Nat → Option Ob) : Prop where
  ob : ∀ k o, L k = some o → ObR γ I w L k o
  inj : ∀ k k' o o' b, L k = some o → L k' = some o' → γ k = some b → γ k' = some b → k = k'
  out : ∀ k o b, L k = some o → γ k = some b → ¬ I b
  lt : ∀ b, I b → b < w.heap.size
theorem ObR.keep {N : Nat → Prop} {γ γ' : Nat → Option Nat} {I I' : Nat → Prop} {w w' : World} {L L' : Nat → Option Ob} (hk : Keep N γ γ' I I' w w' L L') {k : Nat} {o : Ob} (hn : ∀ d, N d → noRefO d (some o) = true) (hg : γ' k = γ k)
    (hb : ∀ b, γ k = some b → w'.heap[b]? = w.heap[b]?) (h : ObR γ I w L k o) : ObR γ' I' w' L' k o := by
  cases o with
  | box cells =>
    obtain ⟨b, cur, e, h1, h2, h3, h4⟩ := h
    exact ⟨b, cur, e, by rw [hg, h1], by rw [hb b h1, h2], h3, fun j c hj => let ⟨u, e, r⟩ := h4 j c hj; ⟨u, e, VR.keep hk (fun d hd => all_noRef (hn d hd) hj) r⟩⟩
  | row e T xs =>
    rcases h with ⟨h1, h2⟩ | ⟨b, cur, cap, h1, h2, h3, h4, h5, h6, h7⟩
    · exact .inl ⟨by rw [hg, h1], h2⟩
    · exact .inr ⟨b, cur, cap, by rw [hg, h1], by rw [hb b h1, h2], h3, h4, h5, h6, fun j c hj => let ⟨u, e, r⟩ := h7 j c hj; ⟨u, e, VR.content hk.inc hk.imm r (flat_plain hj)⟩⟩
end Go.Proofs.Ytdpgdeaefmghiaa.Sx

/- The program's types as a table; states; what an operand stands for. -/
namespace Go.Proofs.Ytdpgdeaefmghiaa.Sx
structure FD where
  off : Nat
  size : Nat
  agg : Bool
inductive TD where
  | int (k : IntKind) | bool | str
  | sl (e : TypeId) (T : Ty)
  | st (fs : List FD) (zero : List V)
  | one (z : V)
  | other
structure Cfg where
  P : Program
  td : TypeId → TD
  glob : Nat → Option (List V)
  eqt : TypeId → List Nat
def vmatch : V → Value → Bool
  | .int k n, .int k' m => k == k' && n == 0 && m == 0
  | .ff, .bool b => !b
  | .bool b, .bool b' => b == b'
  | .str s, .string t => s.isEmpty && t.data.toList.isEmpty
  | .nil, .slice none n c => n == 0 && c == 0
  | .sl _ xs, .slice _ n _ => xs.isEmpty && n == 0
  | .con (.pointer none), .pointer none => true
  | .con .nilFunc, .nilFunc => true
  | .con .nilIface, .nilIface => true
  | _, _ => false
theorem inR_zero (k : IntKind) : inR k 0 := by cases k <;> simp [inR, lo, hi]
theorem VR.of_match {γ : Nat → Option Nat} {I : Nat → Prop} {w : World} {L : Nat → Option Ob} {c : V} {u : Value} (h : vmatch c u = true) : VR γ I w L c u := by
  unfold vmatch at h
  split at h
  · simp only [Bool.and_eq_true, beq_iff_eq] at h
    obtain ⟨⟨rfl, rfl⟩, rfl⟩ := h
    exact .int _ _ (inR_zero _)
  · simp only [Bool.not_eq_true'] at h; subst h; exact .ff
  · simp only [beq_iff_eq] at h; subst h; exact .bool _
  · simp only [Bool.and_eq_true, List.isEmpty_iff] at h
    obtain ⟨rfl, h⟩ := h
    rename_i t
    have : t = ⟨([] : List UInt8).toArray⟩ := by cases t; simp at h; simp [h]
    rw [this]; exact .str [] (by simp)
  · simp only [Bool.and_eq_true, beq_iff_eq] at h
    obtain ⟨rfl, rfl⟩ := h; exact .nil
  · simp only [Bool.and_eq_true, List.isEmpty_iff, beq_iff_eq] at h
    obtain ⟨rfl, rfl⟩ := h; exact .slE _ _ _
  · exact .con _ rfl
  · exact .con _ rfl
  · exact .con _ rfl
  · simp at h
theorem vmatch_one {c : V} {u : Value} (h : vmatch c u = true) : u.oneCell' = true := by
  unfold vmatch at h; split at h <;> first | rfl | simp at h
def isAggB (P : Program) (t : TypeId) : Bool := match P.underlying t with | some (.struct _) => true | some (.array _ _) => true | _ => false
def OneOk (P : Program) (t : TypeId) (z : V) : Prop := ∃ i zv, P.info? t = some i ∧ i.size = 1 ∧ i.zero = some zv ∧ vmatch z zv = true ∧ isAggB P t = false ∧ ∃ d, P.underlying t = some d
def ElOk (P : Program) (e : TypeId) (T : Ty) : Prop := ∃ i zv, P.info? e = some i ∧ i.size = T.size ∧ i.bytes = T.bytes ∧ i.zero = some zv ∧ zv.cells.size = T.size ∧
  ∀ (j : Nat) (c : V), (enc T T.dflt)[j]? = some c → ∃ u, zv.cells[j]? = some u ∧ vmatch c u = true
def FOk (P : Program) (f : Field) (d : FD) : Prop := f.offset = d.off ∧ (∃ i, P.info? f.type = some i ∧ i.size = d.size) ∧ d.size ≠ 0 ∧ isAggB P f.type = d.agg ∧ ∃ dd, P.underlying f.type = some dd
def StOk (P : Program) (t : TypeId) (fs : List FD) (zero : List V) : Prop :=
  (∃ fields : Array Field, P.underlying t = some (.struct fields) ∧ fields.size = fs.length ∧ ∀ (i : Nat) (d : FD), fs[i]? = some d → ∃ f, fields[i]? = some f ∧ FOk P f d) ∧
  ∃ i, ∃ zs : Array Value, P.info? t = some i ∧ i.size = zero.length ∧ i.zero = some (.agg zs) ∧ zs.size = zero.length ∧ ∀ (j : Nat) (c : V), zero[j]? = some c → ∃ u, zs[j]? = some u ∧ vmatch c u = true
def TdOk (P : Program) (t : TypeId) : TD → Prop
  | .int k => P.underlying t = some (.int k) ∧ OneOk P t (.int k 0)
  | .bool => P.underlying t = some .bool ∧ OneOk P t .ff
  | .str => P.underlying t = some .string ∧ OneOk P t (.str [])
  | .sl e T => P.underlying t = some (.slice e) ∧ OneOk P t .nil ∧ ElOk P e T
  | .st fs zero => StOk P t fs zero
  | .one z => OneOk P t z
  | .other => True
def matchAll : List V → List Value → Bool
  | [], [] => true
  | c :: cs, u :: us => vmatch c u && matchAll cs us
  | _, _ => false
theorem matchAll_spec : ∀ {cs : List V} {us : List Value}, matchAll cs us = true → cs.length = us.length ∧ ∀ (j : Nat) (c : V), cs[j]? = some c → ∃ u, us[j]? = some u ∧ vmatch c u = true
  | [], [], _ => ⟨rfl, by simp⟩
  | c :: cs, u :: us, h => by
    simp only [matchAll, Bool.and_eq_true] at h
    obtain ⟨h1, h2⟩ := matchAll_spec h.2
    refine ⟨by simp [h1], fun j c' hj => ?_⟩
    cases j with
    | zero => simp at hj; subst hj; exact ⟨u, rfl, h.1⟩
    | succ j => simpa using h2 j c' (by simpa using hj)
  | [], _ :: _, h => by simp [matchAll] at h
  | _ :: _, [], h => by simp [matchAll] at h
def oneChk (P : Program) (t : TypeId) (z : V) : Bool :=
  match P.info? t with
  | some i => i.size == 1 && !isAggB P t && (P.underlying t).isSome && (match i.zero with | some zv => vmatch z zv | none => false)
  | none => false
theorem oneChk_ok {P : Program} {t : TypeId} {z : V} (h : oneChk P t z = true) : OneOk P t z := by
  unfold oneChk at h
  split at h
  · rename_i i hi
    simp only [Bool.and_eq_true, beq_iff_eq, Bool.not_eq_true'] at h
    obtain ⟨⟨⟨h1, h2⟩, h4⟩, h3⟩ := h
    split at h3
    · rename_i zv hz; exact ⟨i, zv, hi, h1, hz, h3, h2, Option.isSome_iff_exists.1 h4⟩
    · simp at h3
  · simp at h
def elChk (P : Program) (e : TypeId) (T : Ty) : Bool :=
  match P.info? e with
  | some i => i.size == T.size && i.bytes == T.bytes && (match i.zero with | some zv => matchAll (enc T T.dflt) zv.cells.toList | none => false)
  | none => false
theorem elChk_ok {P : Program} {e : TypeId} {T : Ty} (h : elChk P e T = true) : ElOk P e T := by
  unfold elChk at h
  split at h
  · rename_i i hi
    simp only [Bool.and_eq_true, beq_iff_eq] at h
    obtain ⟨⟨h1, h2⟩, h3⟩ := h
    split at h3
    · rename_i zv hz
      obtain ⟨h4, h5⟩ := matchAll_spec h3
      exact ⟨i, zv, hi, h1, h2, hz, by rw [enc_length] at h4; simpa using h4.symm, fun j c hj => by simpa using h5 j c hj⟩
    · simp at h3
  · simp at h
def fChk (P : Program) (f : Field) (d : FD) : Bool := f.offset == d.off && (match P.info? f.type with | some i => i.size == d.size | none => false) && d.size != 0 && (isAggB P f.type == d.agg) && (P.underlying f.type).isSome
def fsChk (P : Program) : List Field → List FD → Bool
  | [], [] => true
  | f :: fs, d :: ds => fChk P f d && fsChk P fs ds
  | _, _ => false
theorem fChk_ok {P : Program} {f : Field} {d : FD} (h : fChk P f d = true) : FOk P f d := by
  simp only [fChk, Bool.and_eq_true, beq_iff_eq, bne_iff_ne, ne_eq] at h
  obtain ⟨⟨⟨⟨h1, h2⟩, h3⟩, h4⟩, h5⟩ := h
  refine ⟨h1, ?_, h3, h4, Option.isSome_iff_exists.1 h5⟩
  split at h2
  · rename_i i hi; exact ⟨i, hi, by simpa using h2⟩
  · simp at h2
theorem fsChk_ok {P : Program} : ∀ {fs : List Field} {ds : List FD}, fsChk P fs ds = true → fs.length = ds.length ∧ ∀ (i : Nat) (d : FD), ds[i]? = some d → ∃ f, fs[i]? = some f ∧ FOk P f d
  | [], [], _ => ⟨rfl, by simp⟩
  | f :: fs, d :: ds, h => by
    simp only [fsChk, Bool.and_eq_true] at h
    obtain ⟨h1, h2⟩ := fsChk_ok h.2
    refine ⟨by simp [h1], fun j c' hj => ?_⟩
    cases j with
    | zero => simp at hj; subst hj; exact ⟨f, rfl, fChk_ok h.1⟩
    | succ j => simpa using h2 j c' (by simpa using hj)
  | [], _ :: _, h => by simp [fsChk] at h
  | _ :: _, [], h => by simp [fsChk] at h
def tdChk (P : Program) (t : TypeId) : TD → Bool
  | .int k => (match P.underlying t with | some (.int k') => k == k' | _ => false) && oneChk P t (.int k 0)
  | .bool => (match P.underlying t with | some .bool => true | _ => false) && oneChk P t .ff
  | .str => (match P.underlying t with | some .string => true | _ => false) && oneChk P t (.str [])
  | .sl e T => (match P.underlying t with | some (.slice e') => e == e' | _ => false) && oneChk P t .nil && elChk P e T
  | .st fs zero => (match P.underlying t with | some (.struct fields) => fsChk P fields.toList fs | _ => false) &&
      (match P.info? t with | some i => i.size == zero.length && (match i.zero with | some (.agg zs) => matchAll zero zs.toList | _ => false) | none => false)
  | .one z => oneChk P t z
  | .other => true
theorem tdChk_ok {P : Program} {t : TypeId} {d : TD} (h : tdChk P t d = true) : TdOk P t d := by
  cases d with
  | int k =>
    simp only [tdChk, Bool.and_eq_true] at h
    obtain ⟨h1, h2⟩ := h
    split at h1
    · rename_i k' hu; simp only [beq_iff_eq] at h1; subst h1; exact ⟨hu, oneChk_ok h2⟩
    · simp at h1
  | bool =>
    simp only [tdChk, Bool.and_eq_true] at h
    obtain ⟨h1, h2⟩ := h
    split at h1
    · rename_i hu; exact ⟨hu, oneChk_ok h2⟩
    · simp at h1
  | str =>
    simp only [tdChk, Bool.and_eq_true] at h
    obtain ⟨h1, h2⟩ := h
    split at h1
    · rename_i hu; exact ⟨hu, oneChk_ok h2⟩
    · simp at h1
  | sl e T =>
    simp only [tdChk, Bool.and_eq_true] at h
    obtain ⟨⟨h1, h2⟩, h3⟩ := h
    split at h1
    · rename_i e' hu; simp only [beq_iff_eq] at h1; subst h1; exact ⟨hu, oneChk_ok h2, elChk_ok h3⟩
    · simp at h1
  | st fs zero =>
    simp only [tdChk, Bool.and_eq_true] at h
    obtain ⟨h1, h2⟩ := h
    constructor
    · split at h1
      · rename_i fields hu
        obtain ⟨h3, h4⟩ := fsChk_ok h1
        exact ⟨fields, hu, by simpa using h3, fun i d hd => by simpa using h4 i d hd⟩
      · simp at h1
    · split at h2
      · rename_i i hi
        simp only [Bool.and_eq_true, beq_iff_eq] at h2
        obtain ⟨h3, h4⟩ := h2
        split at h4
        · rename_i zs hz
          obtain ⟨h5, h6⟩ := matchAll_spec h4
          exact ⟨i, zs, hi, h3, hz, by simpa using h5.symm, fun j c hj => by simpa using h6 j c hj⟩
        · simp at h4
      · simp at h2
  | one z => exact oneChk_ok h
  | other => trivial
/-- The table, as a list. -/
noncomputable def tdOf (l : List (Nat × TD)) (t : TypeId) : TD := List.rec .other (fun x _ ih => bif Nat.beq x.1 t then x.2 else ih) l
theorem tdOf_ok {P : Program} : ∀ {l : List (Nat × TD)}, (l.all fun x => tdChk P x.1 x.2) = true → ∀ t, TdOk P t (tdOf l t)
  | [], _, _ => trivial
  | x :: l, h, t => by
    simp only [List.all_cons, Bool.and_eq_true] at h
    show TdOk P t (bif Nat.beq x.1 t then x.2 else tdOf l t)
    cases hb : Nat.beq x.1 t with
    | true => have := Nat.eq_of_beq_eq_true hb; subst this; exact tdChk_ok h.1
    | false => exact tdOf_ok h.2 t
/-- A state: what the slots hold, which objects live. -/
structure St where
  env : List X
  obs : List (Option Ob)
def lk (obs : List (Option Ob)) (k : Nat) : Option Ob := (obs[k]?).getD none
/-- What was there when the call began. -/
structure Entry where
  w : World
  I : Nat → Prop
  B : Nat → Prop
  bx : Nat → Option Nat
structure Fr (B : Nat → Prop) (w w' : World) : Prop where
  os : w'.os = w.os
  tape : w'.tape = w.tape
  output : w'.output = w.output
  size : w.heap.size ≤ w'.heap.size
  block : ∀ b, b < w.heap.size → ¬ B b → w'.heap[b]? = w.heap[b]?
theorem Fr.refl (B : Nat → Prop) (w : World) : Fr B w w := ⟨rfl, rfl, rfl, Nat.le_refl _, fun _ _ _ => rfl⟩
theorem Fr.trans {B B' : Nat → Prop} {w w1 w2 : World} (h : Fr B w w1) (h' : Fr B' w1 w2) (hB : ∀ b, b < w.heap.size → B' b → B b) : Fr B w w2 :=
  ⟨h'.os.trans h.os, h'.tape.trans h.tape, h'.output.trans h.output, Nat.le_trans h.size h'.size,
   fun b hb hn => (h'.block b (Nat.lt_of_lt_of_le hb h.size) (fun hb' => hn (hB b hb hb'))).trans (h.block b hb hn)⟩
def GR (I : Nat → Prop) (w : World) (g : Nat) (cs : List V) : Prop :=
  I g ∧ (∀ c ∈ cs, c.plain) ∧ ∀ (j : Nat) (c : V), cs[j]? = some c → ∃ u, at? w g j = some u ∧ VR (fun _ => none) I w (fun _ => none) c u
theorem GR.keep {I I' : Nat → Prop} {w w' : World} {g : Nat} {cs : List V} (h : GR I w g cs) (hI : ∀ b, I b → I' b) (hw : ∀ b, I b → w'.heap[b]? = w.heap[b]?) : GR I' w' g cs :=
  ⟨hI g h.1, h.2.1, fun j c hj => let ⟨u, h1, h2⟩ := h.2.2 j c hj; ⟨u, by rw [at_congr (hw g h.1)]; exact h1, h2.content hI hw (h.2.1 c (List.mem_of_getElem? hj))⟩⟩
structure SimG (C : Cfg) (E : Entry) (st : St) (a : Act) (w : World) (γ : Nat → Option Nat) (I : Nat → Prop) : Prop where
  defers : a.defers = []
  size : a.tmps.size = st.env.length
  slots : ∀ (i : Nat) (x : X), st.env[i]? = some x → ∃ u, a.tmps[i]? = some u ∧ XR γ I w (lk st.obs) x u
  mr : MR γ I w (lk st.obs)
  fr : Fr E.B E.w w
  inc : ∀ b, E.I b → I b
  new : ∀ b, I b → E.I b ∨ E.w.heap.size ≤ b ∨ E.B b
  own : ∀ k o b, lk st.obs k = some o → γ k = some b → E.B b ∨ E.w.heap.size ≤ b
  glob : ∀ g cs, C.glob g = some cs → GR I w g cs
  bx : ∀ k b, E.bx k = some b → ∀ o, lk st.obs k = some o → γ k = some b
def Sim (C : Cfg) (E : Entry) (st : St) (a : Act) (w : World) : Prop := ∃ γ I, SimG C E st a w γ I
def ofVal : Value → X
  | .int k n => match inRb k n with | true => .v (.int k n) | false => .v .any
  | .bool true => .v .tt
  | .bool false => .v .ff
  | .slice none 0 0 => .v .nil
  | .pointer none => .v (.con (.pointer none))
  | .nilIface => .v (.con .nilIface)
  | .nilFunc => .v (.con .nilFunc)
  | _ => .v .any
def opd (C : Cfg) (env : List X) : Operand → X
  | .tmp t => env.getD t (.v .any)
  | .const (.string s) => match decide (s.data.toList.length ≤ 4096) with | true => .v (.str s.data.toList) | false => .v .any
  | .const v => ofVal v
  | .global g => match C.glob g with | some cs => .v (.cp cs) | none => .v .any
  | .func f => .v (.fn f [])
theorem XR.any {γ : Nat → Option Nat} {I : Nat → Prop} {w : World} {L : Nat → Option Ob} (u : Value) : XR γ I w L (.v .any) u := VR.any u
theorem opd_sound {C : Cfg} {E : Entry} {st : St} {a : Act} {w : World} {γ : Nat → Option Nat} {I : Nat → Prop} (h : SimG C E st a w γ I) (o : Operand) :
    XR γ I w (lk st.obs) (opd C st.env o) (a.eval o) := by
  cases o with
  | tmp t =>
    show XR γ I w _ (st.env.getD t (.v .any)) (a.tmps.getD t undef)
    rw [List.getD_eq_getElem?_getD]
    cases hx : st.env[t]? with
    | none => exact XR.any _
    | some x => obtain ⟨u, hu, hr⟩ := h.slots t x hx; simpa [Array.getD_eq_getD_getElem?, hu] using hr
  | const v =>
    cases v with
    | string s =>
      simp only [opd]
      split
      · rename_i hd
        have := of_decide_eq_true hd
        exact VR.str _ (by unfold big; omega)
      · exact XR.any _
    | int k n =>
      simp only [opd, ofVal]
      split
      · rename_i hd; exact VR.int k n (inRb_spec hd)
      · exact XR.any _
    | bool b =>
      cases b with
      | false => exact VR.ff
      | true => exact VR.tt
    | slice ad n c =>
      simp only [opd, ofVal]
      split <;> rename_i hh
      all_goals first | (simp at hh; done) | skip
      all_goals first | (cases hh; exact VR.nil) | exact XR.any _ | skip
    | pointer ad =>
      cases ad with
      | none => exact VR.con _ rfl
      | some ad => exact XR.any _
    | nilIface => exact VR.con _ rfl
    | nilFunc => exact VR.con _ rfl
    | _ => exact XR.any _
  | global g =>
    show XR γ I w _ (match C.glob g with | some cs => .v (.cp cs) | none => .v .any) (.pointer (some ⟨g, 0, none⟩))
    cases hg : C.glob g with
    | none => exact XR.any _
    | some cs =>
      obtain ⟨h1, h2, h3⟩ := h.glob g cs hg
      refine VR.cp cs g 0 (fun j => (at? w g j).getD undef) h2 h1 (fun j c hj => ?_) (fun j c hj => ?_)
      · obtain ⟨u, hu, _⟩ := h3 j c hj; simp [hu]
      · obtain ⟨u, hu, hr⟩ := h3 j c hj
        simp only [hu, Option.getD_some]
        exact hr.content (fun _ h => h) (fun _ _ => rfl) (h2 c (List.mem_of_getElem? hj))
  | func f => exact VR.fn f [] #[] rfl (by simp)
end Go.Proofs.Ytdpgdeaefmghiaa.Sx

/- One operation: what a symbolic state becomes. -/
namespace Go.Proofs.Ytdpgdeaefmghiaa.Sx
def put (env : List X) : Option Nat → X → List X
  | some d, x => env.set d x
  | none, _ => env
theorem slots_put {γ : Nat → Option Nat} {I : Nat → Prop} {w : World} {L : Nat → Option Ob} {env : List X} {tmps : Array Value}
    (hz : tmps.size = env.length) (h : ∀ (i : Nat) (x : X), env[i]? = some x → ∃ u, tmps[i]? = some u ∧ XR γ I w L x u) (a : Act) (ha : a.tmps = tmps) (d : Option Nat) {x : X} {v : Value} (hx : XR γ I w L x v) :
    (a.put d v).tmps.size = (put env d x).length ∧ ∀ (i : Nat) (y : X), (put env d x)[i]? = some y → ∃ u, (a.put d v).tmps[i]? = some u ∧ XR γ I w L y u := by
  subst ha
  cases d with
  | none => exact ⟨hz, h⟩
  | some d =>
    refine ⟨by simp [Act.put, put, hz], fun i y hy => ?_⟩
    simp only [put, List.getElem?_set] at hy
    simp only [Act.put, Array.getElem?_setIfInBounds]
    by_cases e : d = i
    · subst e
      simp only [if_true] at hy ⊢
      split at hy
      · rename_i hl
        injection hy with hy; subst hy
        exact ⟨v, by simp [hz, hl], hx⟩
      · simp at hy
    · simp only [e, if_false] at hy ⊢
      exact h i y hy
theorem SimG.next {C : Cfg} {E : Entry} {st : St} {a : Act} {w : World} {γ : Nat → Option Nat} {I : Nat → Prop} (h : SimG C E st a w γ I) {N : Nat → Prop} {γ' : Nat → Option Nat} {I' : Nat → Prop} {w' : World} {obs' : List (Option Ob)}
    (hk : Keep N γ γ' I I' w w' (lk st.obs) (lk obs')) (hN : ∀ d, N d → ∀ x ∈ st.env, noRefX d x = true) (hN0 : ∀ d, N d → E.bx d = none) (hmr : MR γ' I' w' (lk obs'))
    (hfr : Fr (fun b => ∃ k o, lk st.obs k = some o ∧ γ k = some b) w w')
    (hnew : ∀ b, I' b → I b ∨ w.heap.size ≤ b ∨ ∃ k o, lk st.obs k = some o ∧ γ k = some b)
    (hown : ∀ k o b, lk obs' k = some o → γ' k = some b → (∃ k0 o0, lk st.obs k0 = some o0 ∧ γ k0 = some b) ∨ w.heap.size ≤ b)
    {x : X} {v : Value} (hx : XR γ' I' w' (lk obs') x v) (d : Option Nat) : SimG C E ⟨put st.env d x, obs'⟩ (a.put d v) w' γ' I' := by
  have hs := slots_put (γ := γ') (I := I') (w := w') (L := lk obs') h.size (fun i y hy => by
    obtain ⟨u, hu, hr⟩ := h.slots i y hy
    exact ⟨u, hu, XR.keep hk (fun d hd => hN d hd y (List.mem_of_getElem? hy)) hr⟩) a rfl d hx
  refine ⟨?_, hs.1, hs.2, hmr, ?_, fun b hb => hk.inc b (h.inc b hb), ?_, ?_, ?_, ?_⟩
  · cases d <;> exact h.defers
  · refine h.fr.trans hfr (fun b hb ⟨k, o, h1, h2⟩ => ?_)
    rcases h.own k o b h1 h2 with h3 | h3
    · exact h3
    · omega
  · intro b hb
    have := h.fr.size
    rcases hnew b hb with h1 | h1 | ⟨k, o, h1, h2⟩
    · exact h.new b h1
    · exact .inr (.inl (by omega))
    · rcases h.own k o b h1 h2 with h3 | h3
      · exact .inr (.inr h3)
      · exact .inr (.inl h3)
  · intro k o b h1 h2
    have := h.fr.size
    rcases hown k o b h1 h2 with ⟨k0, o0, h3, h4⟩ | h3
    · exact h.own k0 o0 b h3 h4
    · exact .inr (by omega)
  · exact fun g cs hg => (h.glob g cs hg).keep hk.inc hk.imm
  · intro k b hb o ho
    have hn : ¬ N k := fun hN => by rw [hN0 k hN] at hb; cases hb
    obtain ⟨h1, h2⟩ := hk.ptr k o ho hn
    cases hx : lk st.obs k with
    | none => exact absurd hx h1
    | some o' => rw [h2]; exact h.bx k b hb o' hx
/-- What an operation leaves. -/
def After (C : Cfg) (E : Entry) (env : List X) (d : Option Nat) (K : X → List (Option Ob) → Prop) (a : Act) (w : World) : Prop :=
  ∃ x obs, K x obs ∧ Sim C E ⟨put env d x, obs⟩ a w
section
variable {C : Cfg} {E : Entry} {env : List X} {obs : List (Option Ob)} {a : Act} {w : World} {γ : Nat → Option Nat} {I : Nat → Prop} {o : Oper} {Q : Exit → Act → World → Prop}
theorem same_value (h : SimG C E ⟨env, obs⟩ a w γ I) {v : Value} (hr : (execOp a.eval o).run C.P w = .ok (.value v) w) {x : X} (hx : XR γ I w (lk obs) x v)
    {K : X → List (Option Ob) → Prop} (hK : K x obs) : o.wp C.P a w (After C E env o.dst K) Q := by
  unfold Oper.wp; rw [hr, Oper.upon_value]
  exact ⟨x, obs, hK, γ, I, h.next (Keep.refl (fun _ => False) γ I w _) (fun _ hd => hd.elim) (fun _ hd => hd.elim) h.mr (Fr.refl _ w) (fun b hb => .inl hb) (fun k o b h1 h2 => .inl ⟨k, o, h1, h2⟩) hx o.dst⟩
/-- Behind a draw of the tape. -/
theorem Keep.drew (N : Nat → Prop) (γ : Nat → Option Nat) (I : Nat → Prop) (w : World) (L : Nat → Option Ob) : Keep N γ γ I I w w.drew L L :=
  ⟨fun _ h => h, fun _ _ => rfl, fun k ob h _ => ⟨by rw [h]; simp, rfl⟩, fun k e T xs h _ => .inr ⟨⟨xs, h, rfl⟩, fun b cur _ hc => ⟨cur, hc, rfl⟩⟩⟩
def fresh (d : Nat) (env : List X) (obs : List (Option Ob)) : Bool := env.all (noRefX d) && obs.all (noRefO d)
theorem noRefO_lk {d : Nat} {obs : List (Option Ob)} (h : obs.all (noRefO d) = true) {k : Nat} {ob : Ob} (hk : lk obs k = some ob) : noRefO d (some ob) = true := by
  unfold lk at hk
  cases hx : obs[k]? with
  | none => simp [hx] at hk
  | some y => simp [hx] at hk; subst hk; exact List.all_eq_true.1 h _ (List.mem_of_getElem? hx)
theorem lk_set {obs : List (Option Ob)} {d k : Nat} {ob : Option Ob} : lk (obs.set d ob) k = if d = k ∧ d < obs.length then ob else lk obs k := by
  unfold lk
  rw [List.getElem?_set]
  by_cases e : d = k
  · subst e
    by_cases hl : d < obs.length
    · simp [hl]
    · simp [hl]
  · simp [e]
theorem heap_alloc (w : World) (o : Obj) (b : Nat) (h : b < w.heap.size) : (w.alloc o).heap[b]? = w.heap[b]? := by
  simp only [World.alloc, Array.getElem?_push]; rw [if_neg (by omega)]
theorem block_lt {w : World} {b : Nat} {o : Obj} (h : w.heap[b]? = some o) : b < w.heap.size := (Array.getElem?_eq_some_iff.1 h).1
theorem ObR.lt {L : Nat → Option Ob} {k b : Nat} {ob : Ob} (h : ObR γ I w L k ob) (hk : γ k = some b) : b < w.heap.size := by
  cases ob with
  | box cells =>
    obtain ⟨b', cur, e, h1, h2, _⟩ := h
    rw [hk] at h1; injection h1 with h1; subst h1; exact block_lt h2
  | row e T xs =>
    rcases h with ⟨h1, _⟩ | ⟨b', cur, cap, h1, h2, _⟩
    · rw [hk] at h1; simp at h1
    · rw [hk] at h1; injection h1 with h1; subst h1; exact block_lt h2
theorem alloc_keep (h : SimG C E ⟨env, obs⟩ a w γ I) {w1 : World} (hw1 : w1 = w ∨ w1 = w.drew) {d : Nat} (hd : d < obs.length) (o : Obj) (ob : Ob) :
    Keep (fun k => k = d) γ (fun k => if k = d then some w.heap.size else γ k) I I w (w1.alloc o) (lk obs) (lk (obs.set d (some ob))) := by
  have hsz : w1.heap.size = w.heap.size := by rcases hw1 with rfl | rfl <;> rfl
  have hheap : ∀ b : Nat, w1.heap[b]? = w.heap[b]? := by rcases hw1 with rfl | rfl <;> intro b <;> rfl
  have hL : ∀ k, lk (obs.set d (some ob)) k = if k = d then some ob else lk obs k := fun k => by
    rw [lk_set]; by_cases e : d = k
    · simp [e, e ▸ hd]
    · simp [e, Ne.symm e]
  refine ⟨fun _ h => h, fun b hb => ?_, fun k ob' hk hn => ?_, fun k e T xs hk hn => ?_⟩
  · rw [heap_alloc _ _ _ (by have := h.mr.lt b hb; omega), hheap]
  · rw [hL, if_neg hn] at hk; exact ⟨by rw [hk]; simp, by simp [hn]⟩
  · refine .inr ⟨⟨xs, by rw [hL, if_neg hn]; exact hk, rfl⟩, fun b cur hb hc => ⟨cur, ?_, rfl⟩⟩
    rw [heap_alloc _ _ _ (by have := block_lt hc; omega), hheap]; exact hc
/-- A new block for a new object. -/
theorem alloc_next (h : SimG C E ⟨env, obs⟩ a w γ I) {w1 : World} (hw1 : w1 = w ∨ w1 = w.drew) {d : Nat} (hd : d < obs.length) (hf : fresh d env obs = true) (hlk : lk obs d = none) (hd0 : E.bx d = none) (o : Obj) (ob : Ob)
    (hob : ObR (fun k => if k = d then some w.heap.size else γ k) I (w1.alloc o) (lk (obs.set d (some ob))) d ob) {x : X} {v : Value} (dst : Option Nat)
    (hx : XR (fun k => if k = d then some w.heap.size else γ k) I (w1.alloc o) (lk (obs.set d (some ob))) x v) :
    Sim C E ⟨put env dst x, obs.set d (some ob)⟩ (a.put dst v) (w1.alloc o) := by
  have hsz : w1.heap.size = w.heap.size := by rcases hw1 with rfl | rfl <;> rfl
  have hheap : ∀ b : Nat, w1.heap[b]? = w.heap[b]? := by rcases hw1 with rfl | rfl <;> intro b <;> rfl
  have hfr1 : ∀ B, Fr B w (w1.alloc o) := fun B => ⟨by rcases hw1 with rfl | rfl <;> rfl, by rcases hw1 with rfl | rfl <;> rfl, by rcases hw1 with rfl | rfl <;> rfl,
    by simp [hsz], fun b hb _ => by rw [heap_alloc _ _ _ (by omega), hheap]⟩
  simp only [fresh, Bool.and_eq_true] at hf
  have hL : ∀ k, lk (obs.set d (some ob)) k = if k = d then some ob else lk obs k := fun k => by
    rw [lk_set]; by_cases e : d = k
    · simp [e, e ▸ hd]
    · simp [e, Ne.symm e]
  have hk := alloc_keep h hw1 hd o ob
  refine ⟨_, _, h.next (N := fun k => k = d) hk (fun d' hd' y hy => by subst hd'; exact List.all_eq_true.1 hf.1 y hy) (fun d' hd' => by subst hd'; exact hd0) ?_ (hfr1 _) (fun b hb => .inl hb) ?_ hx dst⟩
  · constructor
    · intro k ob' hk'
      rw [hL] at hk'
      by_cases e : k = d
      · subst e; simp at hk'; subst hk'; exact hob
      · rw [if_neg e] at hk'
        refine ObR.keep hk (fun d' hd' => by subst hd'; exact noRefO_lk hf.2 hk') (by simp [e]) (fun b hb => ?_) (h.mr.ob k ob' hk')
        rw [heap_alloc _ _ _ (by have := (h.mr.ob k ob' hk').lt hb; omega), hheap]
    · intro k k' o1 o2 b h1 h2 h3 h4
      rw [hL] at h1 h2
      by_cases e : k = d <;> by_cases e' : k' = d <;> simp only [e, e', if_true, if_false] at h1 h2 h3 h4
      · rw [e, e']
      · have := (h.mr.ob k' o2 h2).lt h4; injection h3 with h3; omega
      · have := (h.mr.ob k o1 h1).lt h3; injection h4 with h4; omega
      · exact h.mr.inj k k' o1 o2 b h1 h2 h3 h4
    · intro k o1 b h1 h2 hI
      rw [hL] at h1
      by_cases e : k = d <;> simp only [e, if_true, if_false] at h1 h2
      · injection h2 with h2; have := h.mr.lt b hI; omega
      · exact h.mr.out k o1 b h1 h2 hI
    · intro b hb; have := h.mr.lt b hb; simp; omega
  · intro k o1 b h1 h2
    rw [hL] at h1
    by_cases e : k = d <;> simp only [e, if_true, if_false] at h1 h2
    · injection h2 with h2; exact .inr (by omega)
    · exact .inl ⟨k, o1, h1, h2⟩
end
end Go.Proofs.Ytdpgdeaefmghiaa.Sx

/- What each operation asks and leaves, in passing style (so that head reduction runs it). -/
namespace Go.Proofs.Ytdpgdeaefmghiaa.Sx
noncomputable section
structure Hold (p : Prop) : Prop where
  out : p
def look {α : Type} (d : α) (l : List α) : Nat → (α → Prop) → Prop := List.rec (motive := fun _ => Nat → (α → Prop) → Prop) (fun _ k => k d) (fun x _ ih n k => Nat.rec (k x) (fun m _ => ih m k) n) l
def setK {α : Type} (l : List α) : Nat → α → (List α → Prop) → Prop :=
  List.rec (motive := fun _ => Nat → α → (List α → Prop) → Prop) (fun _ _ k => k []) (fun x xs ih n v k => Nat.rec (k (v :: xs)) (fun m _ => ih m v fun ys => k (x :: ys)) n) l
def takeK {α : Type} (n : Nat) : List α → (List α → Prop) → Prop :=
  Nat.rec (motive := fun _ => List α → (List α → Prop) → Prop) (fun _ k => k []) (fun _ ih l k => List.rec (k []) (fun x xs _ => ih xs fun ys => k (x :: ys)) l) n
def dropK {α : Type} (n : Nat) : List α → (List α → Prop) → Prop :=
  Nat.rec (motive := fun _ => List α → (List α → Prop) → Prop) (fun l k => k l) (fun _ ih l k => List.rec (k []) (fun _ xs _ => ih xs k) l) n
theorem look_eq {α : Type} (d : α) : ∀ (l : List α) (n : Nat) (k : α → Prop), look d l n k = k (l.getD n d)
  | [], n, k => by cases n <;> rfl
  | x :: xs, 0, k => rfl
  | x :: xs, n + 1, k => by show look d xs n k = _; rw [look_eq d xs n k]; rfl
theorem setK_eq {α : Type} : ∀ (l : List α) (n : Nat) (v : α) (k : List α → Prop), setK l n v k = k (l.set n v)
  | [], n, v, k => by cases n <;> rfl
  | x :: xs, 0, v, k => rfl
  | x :: xs, n + 1, v, k => by show setK xs n v _ = _; rw [setK_eq xs n v]; rfl
theorem takeK_eq {α : Type} : ∀ (n : Nat) (l : List α) (k : List α → Prop), takeK n l k = k (l.take n)
  | 0, l, k => by cases l <;> rfl
  | n + 1, [], k => rfl
  | n + 1, x :: xs, k => by show takeK n xs _ = _; rw [takeK_eq n xs]; rfl
theorem dropK_eq {α : Type} : ∀ (n : Nat) (l : List α) (k : List α → Prop), dropK n l k = k (l.drop n)
  | 0, l, k => by cases l <;> rfl
  | n + 1, [], k => rfl
  | n + 1, x :: xs, k => by show dropK n xs _ = _; rw [dropK_eq n xs]; rfl
/-- A cell, brought to its head. -/
def fNat (n : Nat) (k : Nat → Prop) : Prop := Nat.rec (motive := fun _ => Prop) (k 0) (fun n _ => k (n + 1)) n
theorem fNat_eq (n : Nat) (k : Nat → Prop) : fNat n k = k n := by unfold fNat; cases n <;> rfl
def fV (c : V) (k : V → Prop) : Prop := match c with
  | .any => k .any
  | .int kd n => k (.int kd n)
  | .tt => k .tt
  | .ff => k .ff
  | .bool b => k (.bool b)
  | .str s => k (.str s)
  | .sl T xs => k (.sl T xs)
  | .nil => k .nil
  | .ptr a b => fNat a fun a => k (.ptr a b)
  | .own a b c => fNat a fun a => k (.own a b c)
  | .full a => fNat a fun a => k (.full a)
  | .cp cs => k (.cp cs)
  | .ep a b c => k (.ep a b c)
  | .fn f cs => k (.fn f cs)
  | .con v => k (.con v)
theorem fV_eq (c : V) (k : V → Prop) : fV c k = k c := by cases c <;> first | rfl | (simp only [fV, fNat_eq])
def fL : List V → (List V → Prop) → Prop
  | [], k => k []
  | c :: cs, k => fV c fun c => fL cs fun cs => k (c :: cs)
theorem fL_eq : ∀ (l : List V) (k : List V → Prop), fL l k = k l
  | [], _ => rfl
  | c :: cs, k => by rw [fL, fV_eq, fL_eq cs]
def fX1 (x : X) (k : X → Prop) : Prop := match x with
  | .v c => fV c fun c => match c with
    | .cp cs => fL cs fun cs => k (.v (.cp cs))
    | c => k (.v c)
  | .agg cs => fL cs fun cs => k (.agg cs)
  | .tup xs => k (.tup xs)
theorem fX1_eq (x : X) (k : X → Prop) : fX1 x k = k x := by
  cases x with
  | v c => simp only [fX1, fV_eq]; cases c <;> simp [fL_eq]
  | agg cs => simp [fX1, fL_eq]
  | tup xs => rfl
def fXs : List X → (List X → Prop) → Prop
  | [], k => k []
  | c :: cs, k => fX1 c fun c => fXs cs fun cs => k (c :: cs)
theorem fXs_eq : ∀ (l : List X) (k : List X → Prop), fXs l k = k l
  | [], _ => rfl
  | c :: cs, k => by rw [fXs, fX1_eq, fXs_eq cs]
def fX (x : X) (k : X → Prop) : Prop := match x with
  | .tup xs => fXs xs fun xs => k (.tup xs)
  | x => fX1 x k
theorem fX_eq (x : X) (k : X → Prop) : fX x k = k x := by
  cases x with
  | v c => show fX1 (.v c) k = _; exact fX1_eq _ k
  | agg cs => show fX1 (.agg cs) k = _; exact fX1_eq _ k
  | tup xs => simp [fX, fXs_eq]
def opdK (C : Cfg) (env : List X) (o : Operand) (k : X → Prop) : Prop :=
  match o with
  | .tmp t => look (.v .any) env t k
  | o => fX (opd C env o) k
theorem opdK_eq (C : Cfg) (env : List X) (o : Operand) (k : X → Prop) : opdK C env o k = k (opd C env o) := by
  cases o with
  | tmp t => exact look_eq _ _ _ _
  | const v => show fX (opd C env (.const v)) k = _; exact fX_eq _ _
  | global g => show fX (opd C env (.global g)) k = _; exact fX_eq _ _
  | func f => show fX (opd C env (.func f)) k = _; exact fX_eq _ _
def lkK (obs : List (Option Ob)) (k : Nat) (K : Ob → Prop) : Prop := look none obs k fun o => match o with | some ob => K ob | none => False
theorem lkK_spec {obs : List (Option Ob)} {k : Nat} {K : Ob → Prop} (h : lkK obs k K) : ∃ ob, lk obs k = some ob ∧ K ob := by
  unfold lkK at h; rw [look_eq, List.getD_eq_getElem?_getD] at h
  unfold lk
  split at h
  · rename_i ob e; exact ⟨ob, e, h⟩
  · exact h.elim
theorem lkK_of {obs : List (Option Ob)} {k : Nat} {K : Ob → Prop} {ob : Ob} (h : lk obs k = some ob) (hK : K ob) : lkK obs k K := by
  unfold lkK; rw [look_eq, List.getD_eq_getElem?_getD]; unfold lk at h; rw [h]; exact hK
def aggOf : TD → Option Nat
  | .st _ z => some z.length
  | _ => none
def headK (cells : List V) (K : X → Prop) : Prop := match cells with | c :: _ => K (.v c) | [] => False
/-- The value of a variable of a type, at the head of cells. -/
def loadAtK (d : TD) (cells : List V) (K : X → Prop) : Prop :=
  match d with
  | .st _ z => takeK z.length cells fun cs => match Nat.beq cs.length z.length with | true => K (.agg cs) | false => False
  | .other => False
  | _ => headK cells K
end
end Go.Proofs.Ytdpgdeaefmghiaa.Sx

/- The operations that leave memory alone. -/
namespace Go.Proofs.Ytdpgdeaefmghiaa.Sx
section
variable {C : Cfg} {E : Entry} {env : List X} {obs : List (Option Ob)} {a : Act} {w : World} {γ : Nat → Option Nat} {I : Nat → Prop} {L : Nat → Option Ob} {P : Program}
theorem VR.ptr_live {k off : Nat} {u : Value} (h : VR γ I w L (.ptr k off) u) (hl : L k ≠ none) : ∃ b, γ k = some b ∧ u = .pointer (some ⟨b, off, none⟩) := by
  cases h with
  | ptr _ _ b h => exact ⟨b, h, rfl⟩
  | ptrD _ _ _ h => exact absurd h hl
theorem VR.ep_live {k i off : Nat} {u : Value} (h : VR γ I w L (.ep k i off) u) {e : TypeId} {T : Ty} {xs : List T.D} (hl : L k = some (.row e T xs)) :
    ∃ b, γ k = some b ∧ i < xs.length ∧ u = .pointer (some ⟨b, i * T.size + off, none⟩) := by
  cases h with
  | ep _ _ _ b e' T' xs' h1 h2 h3 => rw [hl] at h1; injection h1 with h1; injection h1 with h1 h1' h4; subst h1'; simp at h4; subst h4; exact ⟨b, h3, h2, rfl⟩
  | epD _ _ _ _ h => rw [hl] at h; simp at h
theorem VR.cp_at {cs : List V} {u : Value} (h : VR γ I w L (.cp cs) u) : ∃ b o, u = .pointer (some ⟨b, o, none⟩) ∧ I b ∧ (∀ c ∈ cs, c.plain) ∧ ∀ (j : Nat) (c : V), cs[j]? = some c → ∃ x, at? w b (o + j) = some x ∧ VR γ I w L c x := by
  cases h with
  | cp _ b o u hp hI h1 h2 => exact ⟨b, o, rfl, hI, hp, fun j c hj => ⟨u j, h1 j c hj, h2 j c hj⟩⟩
/-- Cells in memory. -/
def At (γ : Nat → Option Nat) (I : Nat → Prop) (w : World) (L : Nat → Option Ob) (b o : Nat) (cs : List V) : Prop :=
  ∀ (j : Nat) (c : V), cs[j]? = some c → ∃ x, at? w b (o + j) = some x ∧ VR γ I w L c x
theorem At.drop {b o : Nat} {cs : List V} (h : At γ I w L b o cs) (n : Nat) : At γ I w L b (o + n) (cs.drop n) := fun j c hj => by
  rw [List.getElem?_drop] at hj
  obtain ⟨x, h1, h2⟩ := h (n + j) c hj
  exact ⟨x, by rw [← h1]; congr 1; omega, h2⟩
theorem flat_cons (T : Ty) (x : T.D) (xs : List T.D) : flat T (x :: xs) = enc T x ++ flat T xs := rfl
theorem flat_append (T : Ty) (xs ys : List T.D) : flat T (xs ++ ys) = flat T xs ++ flat T ys := by simp [flat]
theorem flat_length (T : Ty) (xs : List T.D) : (flat T xs).length = xs.length * T.size := by
  induction xs with
  | nil => simp [flat]
  | cons x xs ih => rw [flat_cons, List.length_append, enc_length, ih, List.length_cons, Nat.add_mul]; omega
theorem flat_drop (T : Ty) : ∀ (xs : List T.D) (n : Nat), (flat T xs).drop (n * T.size) = flat T (xs.drop n)
  | xs, 0 => by simp
  | [], n + 1 => by simp [flat]
  | x :: xs, n + 1 => by
    rw [flat_cons, List.drop_succ_cons, ← flat_drop T xs n, Nat.add_mul, Nat.one_mul, Nat.add_comm, List.drop_append, enc_length]
    simp [Nat.add_sub_cancel_left, List.drop_of_length_le, enc_length]
theorem flat_take (T : Ty) : ∀ (xs : List T.D) (n : Nat), (flat T xs).take (n * T.size) = flat T (xs.take n)
  | xs, 0 => by simp [flat]
  | [], n + 1 => by simp [flat]
  | x :: xs, n + 1 => by
    rw [flat_cons, List.take_succ_cons, flat_cons, ← flat_take T xs n, Nat.add_mul, Nat.one_mul, Nat.add_comm, List.take_append, enc_length]
    simp [Nat.add_sub_cancel_left, List.take_of_length_le, enc_length]
theorem flat_get {T : Ty} {xs : List T.D} {i j : Nat} {c : V} (hi : i < xs.length) (hj : (enc T (xs.getD i T.dflt))[j]? = some c) : (flat T xs)[i * T.size + j]? = some c := by
  rw [← List.getElem?_drop, flat_drop, List.drop_eq_getElem_cons hi, flat_cons, List.getElem?_append_left]
  · rw [List.getD_eq_getElem?_getD, List.getElem?_eq_getElem hi] at hj; exact hj
  · have := (List.getElem?_eq_some_iff.1 hj).1; rw [enc_length] at this ⊢; exact this
theorem run_isAgg {t : TypeId} {d : TypeDesc} (h : P.underlying t = some d) : (isAgg t).run P w = .ok (isAggB P t) w := by
  unfold isAgg isAggB; simp only [Sem.run_bind, run_underlying h, Result.andThen_ok, h]; cases d <;> rfl
theorem run_loadAt {t : TypeId} {d : TD} (hd : TdOk P t d) {b o : Nat} {cs : List V} (h : At γ I w L b o cs) {K : X → Prop} (hK : loadAtK d cs K) :
    ∃ v x, (Instr.loadAt t (.pointer (some ⟨b, o, none⟩))).run P w = .ok v w ∧ XR γ I w L x v ∧ K x := by
  have one : ∀ (z : V), OneOk P t z → headK cs K → ∃ v x, (Instr.loadAt t (.pointer (some ⟨b, o, none⟩))).run P w = .ok v w ∧ XR γ I w L x v ∧ K x := by
    intro z ⟨i, zv, h1, h2, h3, h4, h5, d, h6⟩ hc
    cases cs with
    | nil => exact hc.elim
    | cons c cs =>
      obtain ⟨x, hx, hr⟩ := h 0 c rfl
      refine ⟨x, .v c, ?_, hr, hc⟩
      have hl : w.cell? ⟨b, o, none⟩ = some x := by rw [cell_at]; exact hx
      simp [Instr.loadAt, Instr.sureAddr, loadVar, run_isAgg h6, h5, run_load, hl]
  cases d with
  | int k => exact one _ hd.2 hK
  | bool => exact one _ hd.2 hK
  | str => exact one _ hd.2 hK
  | sl e T => exact one _ hd.2.1 hK
  | one z => exact one z hd hK
  | other => exact hK.elim
  | st fs zero =>
    obtain ⟨⟨fields, hu, _, _⟩, i, zs, hi, hs, _, _, _⟩ := hd
    simp only [loadAtK, takeK_eq] at hK
    split at hK
    · rename_i hb
      have hlen := Nat.eq_of_beq_eq_true hb
      have hle : zero.length ≤ cs.length := by rw [List.length_take] at hlen; omega
      have hag : isAggB P t = true := by unfold isAggB; rw [hu]
      have hex : ∀ j, j < zero.length → ∃ x, w.cell? ((⟨b, o, none⟩ : Addr).add j) = some x ∧ ∃ c, cs[j]? = some c ∧ VR γ I w L c x := fun j hj => by
        obtain ⟨x, h1, h2⟩ := h j cs[j] (List.getElem?_eq_getElem (by omega))
        exact ⟨x, by rw [Addr.add_lit, cell_at]; exact h1, cs[j], List.getElem?_eq_getElem (by omega), h2⟩
      have hl := run_loadCells (P := P) w ⟨b, o, none⟩ zero.length (fun j => (at? w b (o + j)).getD undef) (fun j hj => by
        obtain ⟨x, h1, _⟩ := hex j hj
        rw [h1]; rw [Addr.add_lit, cell_at] at h1; simp [h1])
      refine ⟨.agg ((List.range zero.length).map fun j => (at? w b (o + j)).getD undef).toArray, .agg (cs.take zero.length), ?_, ?_, hK⟩
      · simp only [Instr.loadAt, Instr.sureAddr, loadVar, Sem.run_bind, Sem.run_pure, Result.andThen_ok, run_isAgg hu, hag, if_true, sizeOf, typeInfo, run_program, hi, hs, hl]
      · refine ⟨_, rfl, by simp; omega, fun j c hj => ?_⟩
        rw [List.getElem?_take] at hj
        split at hj
        · rename_i hjl
          obtain ⟨x, h1, h2⟩ := h j c hj
          exact ⟨x, by simp [hjl, h1], h2⟩
        · simp at hj
    · exact hK.elim

theorem VR.full_own {k : Nat} {u : Value} (h : VR γ I w L (.full k) u) {e : TypeId} {T : Ty} {xs : List T.D} (hl : L k = some (.row e T xs)) : VR γ I w L (.own k 0 xs.length) u := by
  cases h with
  | fullD _ _ h => rw [hl] at h; simp at h
  | full _ e' T' xs' _ h1 h2 => rw [hl] at h1; injection h1 with h1; injection h1 with h1 h1' h3; subst h1'; simp at h3; subst h3; exact h2
/-- A whole row, as a part. -/
def unfullK (obs : List (Option Ob)) (x : X) (K : X → Prop) : Prop :=
  match x with
  | .v (.full k) => lkK obs k fun ob => match ob with
    | .row _ _ xs => K (.v (.own k 0 xs.length))
    | .box _ => False
  | x => K x
theorem unfull_sound {x : X} {u : Value} (hx : XR γ I w (lk obs) x u) {K : X → Prop} (hK : unfullK obs x K) : ∃ y, XR γ I w (lk obs) y u ∧ K y := by
  unfold unfullK at hK
  split at hK
  · obtain ⟨ob, hl, hK⟩ := lkK_spec hK
    split at hK
    · exact ⟨.v (.own _ 0 _), VR.full_own hx hl, hK⟩
    · exact hK.elim
  · exact ⟨_, hx, hK⟩
/-- What the cells under a pointer are. -/
noncomputable def underK (obs : List (Option Ob)) (x : X) (K : List V → Prop) : Prop :=
  match x with
  | .v (.ptr k off) => lkK obs k fun ob => match ob with
    | .box cells => dropK off cells K
    | .row .. => False
  | .v (.ep k i off) => lkK obs k fun ob => match ob with
    | .row _ T xs => fL (enc T (xs.getD i T.dflt)) fun cells => dropK off cells K
    | .box _ => False
  | .v (.cp cells) => K cells
  | _ => False
theorem under_sound (hm : MR γ I w (lk obs)) {x : X} {u : Value} (hx : XR γ I w (lk obs) x u) {K : List V → Prop} (hK : underK obs x K) :
    ∃ b o cs, u = .pointer (some ⟨b, o, none⟩) ∧ At γ I w (lk obs) b o cs ∧ K cs := by
  unfold underK at hK
  split at hK
  · rename_i k off
    obtain ⟨ob, hl, hK⟩ := lkK_spec hK
    obtain ⟨b, hb, hu⟩ := VR.ptr_live hx (by rw [hl]; simp)
    split at hK
    · rename_i cells
      rw [dropK_eq] at hK
      refine ⟨b, off, _, hu, ?_, hK⟩
      obtain ⟨b', cur, e, h1, h2, h3, h4⟩ := hm.ob k _ hl
      rw [hb] at h1; injection h1 with h1; subst h1
      have hat : At γ I w (lk obs) b 0 cells := fun j c hj => by
        obtain ⟨u, h5, h6⟩ := h4 j c hj
        exact ⟨u, by rw [at_of_heap h2]; simpa using h5, h6⟩
      simpa using hat.drop off
    · exact hK.elim
  · rename_i k i off
    obtain ⟨ob, hl, hK⟩ := lkK_spec hK
    split at hK
    · rename_i e T xs
      obtain ⟨b, hb, hi, hu⟩ := VR.ep_live hx hl
      rw [fL_eq, dropK_eq] at hK
      refine ⟨b, _, _, hu, ?_, hK⟩
      rcases hm.ob k _ hl with ⟨h1, _⟩ | ⟨b', cur, cap, h1, h2, h3, h4, h5, h6, h7⟩
      · rw [hb] at h1; simp at h1
      · rw [hb] at h1; injection h1 with h1; subst h1
        have hat : At γ I w (lk obs) b (i * T.size) (enc T (xs.getD i T.dflt)) := fun j c hj => by
          obtain ⟨u, h8, h9⟩ := h7 _ c (flat_get hi hj)
          exact ⟨u, by rw [at_of_heap h2]; exact h8, h9⟩
        exact hat.drop off
    · exact hK.elim
  · rename_i cells
    obtain ⟨b, o, hu, _, _, h⟩ := VR.cp_at hx
    exact ⟨b, o, cells, hu, h, hK⟩
  · exact hK.elim
noncomputable def loadK (C : Cfg) (t : TypeId) (obs : List (Option Ob)) (x : X) (K : X → Prop) : Prop := underK obs x fun cells => loadAtK (C.td t) cells K
theorem load_sound {t : TypeId} (hT : TdOk C.P t (C.td t)) (hm : MR γ I w (lk obs)) {x : X} {u : Value} (hx : XR γ I w (lk obs) x u) {K : X → Prop} (hK : loadK C t obs x K) :
    ∃ v y, (Instr.loadAt t u).run C.P w = .ok v w ∧ XR γ I w (lk obs) y v ∧ K y := by
  obtain ⟨b, o, cs, rfl, hat, hK⟩ := under_sound hm hx hK
  exact run_loadAt hT hat hK
def shiftK (obs : List (Option Ob)) (n : Nat) (x : X) (K : X → Prop) : Prop :=
  match x with
  | .v (.ptr k o) => lkK obs k fun _ => K (.v (.ptr k (o + n)))
  | .v (.ep k i o) => lkK obs k fun ob => match ob with
    | .row .. => K (.v (.ep k i (o + n)))
    | .box _ => False
  | .v (.cp cs) => dropK n cs fun cs => K (.v (.cp cs))
  | _ => False
theorem shift_sound {n : Nat} {x : X} {u : Value} (hx : XR γ I w (lk obs) x u) {K : X → Prop} (hK : shiftK obs n x K) :
    ∃ b o y, u = .pointer (some ⟨b, o, none⟩) ∧ XR γ I w (lk obs) y (.pointer (some ⟨b, o + n, none⟩)) ∧ K y := by
  unfold shiftK at hK
  split at hK
  · rename_i k off
    obtain ⟨ob, hl, hK⟩ := lkK_spec hK
    obtain ⟨b, hb, hu⟩ := VR.ptr_live hx (by rw [hl]; simp)
    exact ⟨b, off, .v (.ptr k (off + n)), hu, VR.ptr k (off + n) b hb, hK⟩
  · rename_i k i off
    obtain ⟨ob, hl, hK⟩ := lkK_spec hK
    split at hK
    · rename_i e T xs
      obtain ⟨b, hb, hi, hu⟩ := VR.ep_live hx hl
      exact ⟨b, _, .v (.ep k i (off + n)), hu, by rw [Nat.add_assoc]; exact VR.ep k i (off + n) b e T xs hl hi hb, hK⟩
    · exact hK.elim
  · rename_i cells
    obtain ⟨b, o, hu, hI, hp, h⟩ := VR.cp_at hx
    rw [dropK_eq] at hK
    refine ⟨b, o, .v (.cp (cells.drop n)), hu, ?_, hK⟩
    have hat := At.drop h n
    exact VR.cp (cells.drop n) b (o + n) (fun j => (at? w b (o + n + j)).getD undef) (fun c hc => hp c (List.mem_of_mem_drop hc)) hI
      (fun j c hj => by obtain ⟨x, h1, _⟩ := hat j c hj; simp [h1]) (fun j c hj => by obtain ⟨x, h1, h2⟩ := hat j c hj; simpa [h1] using h2)
  · exact hK.elim
def fieldAddrK (C : Cfg) (t : TypeId) (f : Nat) (obs : List (Option Ob)) (x : X) (K : X → Prop) : Prop :=
  match C.td t with
  | .st fs _ => match fs[f]? with
    | some d => shiftK obs d.off x K
    | none => False
  | _ => False
theorem fieldAddr_sound (hT : ∀ t, TdOk C.P t (C.td t)) {t : TypeId} {f : Nat} {x : X} {u : Value} (hx : XR γ I w (lk obs) x u) {K : X → Prop} (hK : fieldAddrK C t f obs x K) :
    ∃ v y, (Instr.fieldAt t u f).run C.P w = .ok v w ∧ XR γ I w (lk obs) y v ∧ K y := by
  unfold fieldAddrK at hK
  have ht := hT t
  split at hK
  · rename_i fs zero htd
    rw [htd] at ht
    obtain ⟨⟨fields, hu, _, hf⟩, _⟩ := ht
    split at hK
    · rename_i d hd
      obtain ⟨fl, h1, h2, ⟨i, h3, h4⟩, h5, _⟩ := hf f d hd
      obtain ⟨b, o, y, rfl, hy, hK⟩ := shift_sound hx hK
      refine ⟨_, y, ?_, hy, hK⟩
      have h5' : ¬ i.size = 0 := by rw [h4]; exact h5
      simp [Instr.fieldAt, run_underlying hu, h1, Instr.sureAddr, fieldPlace, sizeOf, typeInfo, h3, h5', h2, Addr.add_lit]
    · exact hK.elim
  · exact hK.elim

/-- A content slice, read off a value. -/
theorem VR.sl_inv {T : Ty} {xs : List T.D} {u : Value} (h : VR γ I w L (.sl T xs) u) : ∃ ad c, u = .slice ad xs.length c ∧ xs.length ≤ c ∧
    (xs = [] ∨ xs.length * T.bytes ≤ big ∧ ∃ b o, ad = some ⟨b, o, none⟩ ∧ I b ∧ At γ I w L b o (flat T xs)) := by
  cases h with
  | slE _ ad c => exact ⟨ad, c, rfl, Nat.zero_le _, .inl rfl⟩
  | sl _ _ b o c u h1 h2 h3 h4 h5 => exact ⟨_, c, rfl, h1, .inr ⟨h2, b, o, rfl, h3, fun j c hj => ⟨u j, h4 j c hj, h5 j c hj⟩⟩⟩
theorem VR.sl_mk {T : Ty} {xs : List T.D} {b o c : Nat} (h1 : xs.length ≤ c) (h2 : xs.length * T.bytes ≤ big) (h3 : I b) (h : At γ I w L b o (flat T xs)) : VR γ I w L (.sl T xs) (.slice (some ⟨b, o, none⟩) xs.length c) :=
  VR.sl T xs b o c (fun j => (at? w b (o + j)).getD undef) h1 h2 h3 (fun j c hj => by obtain ⟨x, h1, _⟩ := h j c hj; simp [h1]) (fun j c hj => by obtain ⟨x, h1, h2⟩ := h j c hj; simpa [h1] using h2)
theorem VR.cp_mk {cs : List V} {b o : Nat} (hp : ∀ c ∈ cs, c.plain) (h3 : I b) (h : At γ I w L b o cs) : VR γ I w L (.cp cs) (.pointer (some ⟨b, o, none⟩)) :=
  VR.cp cs b o (fun j => (at? w b (o + j)).getD undef) hp h3 (fun j c hj => by obtain ⟨x, h1, _⟩ := h j c hj; simp [h1]) (fun j c hj => by obtain ⟨x, h1, h2⟩ := h j c hj; simpa [h1] using h2)
theorem VR.own_inv {k off n : Nat} {u : Value} (h : VR γ I w L (.own k off n) u) {e : TypeId} {T : Ty} {xs : List T.D} (hl : L k = some (.row e T xs)) :
    (γ k = none ∧ off = 0 ∧ n = 0 ∧ u = .slice none 0 0) ∨ ∃ b c cur o, γ k = some b ∧ u = .slice (some ⟨b, o, none⟩) n c ∧ off + n ≤ xs.length ∧ w.heap[b]? = some (.cells cur e (0, 0)) ∧ (off + c) * T.size = cur.size ∧
      (n = 0 ∧ off ≠ 0 ∨ o = off * T.size) ∧ n ≤ c := by
  cases h with
  | ownD _ _ _ _ h => rw [hl] at h; simp at h
  | ownN _ h => exact .inl ⟨h, rfl, rfl, rfl⟩
  | own _ _ _ b c e' sz T' xs' cur o h1 h2 h3 h4 h5 h6 h7 h8 =>
    rw [hl] at h1; injection h1 with h1; injection h1 with h1 h1' h9; subst h1; subst h1'; simp at h9; subst h9; subst h5
    exact .inr ⟨b, c, cur, o, h2, rfl, h3, h4, h6, h7, h8⟩
theorem MR.row_at (hm : MR γ I w L) {k b : Nat} {e : TypeId} {T : Ty} {xs : List T.D} (hl : L k = some (.row e T xs)) (hb : γ k = some b) :
    ∃ cur cap, w.heap[b]? = some (.cells cur e (0, 0)) ∧ cur.size = cap * T.size ∧ xs.length ≤ cap ∧ cap ≤ maxLen ∧ xs.length * T.bytes ≤ big ∧ At γ I w L b 0 (flat T xs) := by
  rcases hm.ob k _ hl with ⟨h1, _⟩ | ⟨b', cur, cap, h1, h2, h3, h4, h5, h6, h7⟩
  · rw [hb] at h1; simp at h1
  · rw [hb] at h1; injection h1 with h1; subst h1
    exact ⟨cur, cap, h2, h3, h4, h5, h6, fun j c hj => by obtain ⟨u, h8, h9⟩ := h7 j c hj; exact ⟨u, by rw [at_of_heap h2]; simpa using h8, h9⟩⟩
def indexAddrK (C : Cfg) (t : TypeId) (obs : List (Option Ob)) (x i : X) (K : X → Prop) : Prop :=
  match C.td t with
  | .sl _ T0 => match i with
    | .v (.int _ i) => match x with
      | .v (.sl T xs) => match Nat.beq T0.size T.size with
        | true => Hold (0 ≤ i ∧ i < xs.length) ∧ K (.v (.cp (enc T (xs.getD i.toNat T.dflt))))
        | false => False
      | .v (.own k off n) => lkK obs k fun ob => match ob with
        | .row _ T _ => match Nat.beq T0.size T.size with
          | true => Hold (0 ≤ i ∧ i < n) ∧ K (.v (.ep k (off + i.toNat) 0))
          | false => False
        | .box _ => False
      | _ => False
    | _ => False
  | _ => False
theorem indexAddr_sound (hT : ∀ t, TdOk C.P t (C.td t)) {t : TypeId} {x i : X} {u ui : Value} (hx : XR γ I w (lk obs) x u) (hi : XR γ I w (lk obs) i ui) {K : X → Prop} (hK : indexAddrK C t obs x i K) :
    ∃ v y, (Instr.indexAt t u ui).run C.P w = .ok v w ∧ XR γ I w (lk obs) y v ∧ K y := by
  unfold indexAddrK at hK
  have ht := hT t
  split at hK
  · rename_i e T0 htd
    rw [htd] at ht
    obtain ⟨hu, _, ie, zv, hie, hsz, _⟩ := ht
    split at hK
    · rename_i kd i
      cases hi with
      | int _ _ hr =>
        split at hK
        · rename_i T xs
          split at hK
          · rename_i hb
            have hT : ie.size = T.size := by rw [hsz]; exact Nat.eq_of_beq_eq_true hb
            obtain ⟨⟨h0, h1⟩, hK⟩ := hK
            obtain ⟨ad, c, rfl, hc, h⟩ := VR.sl_inv hx
            rcases h with rfl | ⟨_, b, o, rfl, hI, hat⟩
            · simp at h1; omega
            · refine ⟨.pointer (some ⟨b, o + i.toNat * ie.size, none⟩), _, ?_, ?_, hK⟩
              · simp [Instr.indexAt, asIntOf, run_underlying hu, h0, h1, sizeOf, typeInfo, hie, Addr.add_lit]
              · refine VR.cp_mk (enc_plain T _) hI (fun j c hj => ?_)
                obtain ⟨x, h2, h3⟩ := hat _ c (flat_get (by omega) hj)
                exact ⟨x, by rw [← h2, hT]; congr 1; omega, h3⟩
          · exact hK.elim
        · rename_i k off n
          obtain ⟨ob, hl, hK⟩ := lkK_spec hK
          split at hK
          · rename_i e' T xs
            split at hK
            · rename_i hb
              have hT : ie.size = T.size := by rw [hsz]; exact Nat.eq_of_beq_eq_true hb
              obtain ⟨⟨h0, h1⟩, hK⟩ := hK
              rcases VR.own_inv hx hl with ⟨_, _, h4, _⟩ | ⟨b, c, cur, o, h2, rfl, h3, h4, h5, h6, h7⟩
              · omega
              · refine ⟨.pointer (some ⟨b, (off + i.toNat) * T.size + 0, none⟩), .v (.ep k (off + i.toNat) 0), ?_, VR.ep k (off + i.toNat) 0 b e' T xs hl (by omega) h2, hK⟩
                rcases h6 with ⟨h6, _⟩ | rfl
                · omega
                · simp [Instr.indexAt, asIntOf, run_underlying hu, h0, h1, sizeOf, typeInfo, hie, Addr.add_lit, hT, Nat.add_mul]
            · exact hK.elim
          · exact hK.elim
        · exact hK.elim
    · exact hK.elim
  · exact hK.elim
/-- Arithmetic. -/
def bitsZ (op : BinOp) (k : IntKind) (x y : Int) : Int :=
  match op with
  | .and => k.wrap (BitVec.ofInt k.bits x &&& BitVec.ofInt k.bits y).toNat
  | .or => k.wrap (BitVec.ofInt k.bits x ||| BitVec.ofInt k.bits y).toNat
  | .xor => k.wrap (BitVec.ofInt k.bits x ^^^ BitVec.ofInt k.bits y).toNat
  | _ => k.wrap (BitVec.ofInt k.bits x &&& ~~~ BitVec.ofInt k.bits y).toNat
def arK (k : IntKind) (e : Int) (K : X → Prop) : Prop := match k with
  | .i64 => Hold (inR .i64 e) ∧ K (.v (.int .i64 e))
  | k => K (.v (.int k (k.wrap e)))
def boolOf (c : V) (K : Bool → Prop) : Prop := match c with
  | .tt => K true
  | .ff => K false
  | .bool b => K b
  | _ => False
def binK (op : BinOp) (x y : X) (K : X → Prop) : Prop :=
  match x, y with
  | .v (.int k a), .v (.int k' b) => match op with
    | .shl => Hold (0 ≤ b) ∧ K (.v (.int k (k.wrap (a * 2 ^ min b.toNat k.bits))))
    | .shr => Hold (0 ≤ b) ∧ K (.v (.int k (a.fdiv (2 ^ min b.toNat k.bits))))
    | op => match decide (k = k') with
      | true => match op with
        | .add => arK k (a + b) K
        | .sub => arK k (a - b) K
        | .mul => arK k (a * b) K
        | .quo => Hold (b ≠ 0) ∧ K (.v (.int k (k.wrap (a.tdiv b))))
        | .rem => Hold (b ≠ 0) ∧ K (.v (.int k (a.tmod b)))
        | .eql => K (.v (.bool (decide (a = b))))
        | .neq => K (.v (.bool (!decide (a = b))))
        | .lss => K (.v (.bool (decide (a < b))))
        | .leq => K (.v (.bool (decide (a ≤ b))))
        | .gtr => K (.v (.bool (decide (b < a))))
        | .geq => K (.v (.bool (decide (b ≤ a))))
        | op => K (.v (.int k (bitsZ op k a b)))
      | false => False
  | .v (.str s), .v (.str t) => match op with
    | .add => Hold (s.length + t.length ≤ big) ∧ K (.v (.str (s ++ t)))
    | .eql => K (.v (.bool (decide (s = t))))
    | .neq => K (.v (.bool (!decide (s = t))))
    | _ => False
  | _, _ => False
theorem inR_tmod {k : IntKind} {a b : Int} (h : inR k a) : inR k (a.tmod b) := by
  have h1 : (a.tmod b).natAbs ≤ a.natAbs := by
    rw [Int.natAbs_tmod]; exact Nat.mod_le _ _
  have h2 : 0 ≤ a → 0 ≤ a.tmod b := fun h => Int.tmod_nonneg b h
  have h3 : a ≤ 0 → a.tmod b ≤ 0 := fun h => by have := Int.tmod_nonneg b (show 0 ≤ -a by omega); rw [Int.neg_tmod] at this; omega
  revert h
  cases k <;> simp only [inR, lo, hi] <;> omega
theorem inR_fdiv {k : IntKind} {a : Int} (n : Nat) (h : inR k a) : inR k (a.fdiv (2 ^ n)) := by
  have hp : (0 : Int) < 2 ^ n := Int.pow_pos (by decide)
  have h1 : 0 ≤ a → 0 ≤ a.fdiv (2 ^ n) ∧ a.fdiv (2 ^ n) ≤ a := fun h => by
    rw [Int.fdiv_eq_ediv_of_nonneg _ (by omega)]
    exact ⟨Int.ediv_nonneg h (by omega), Int.ediv_le_self _ h⟩
  have h2 : a ≤ 0 → a ≤ a.fdiv (2 ^ n) ∧ a.fdiv (2 ^ n) ≤ 0 := fun h => by
    rw [Int.fdiv_eq_ediv_of_nonneg _ (by omega)]
    refine ⟨?_, Int.ediv_nonpos_of_nonpos_of_neg h hp |> fun h => h⟩
    rw [Int.le_ediv_iff_mul_le hp]
    have : a * 2 ^ n ≤ a * 1 := Int.mul_le_mul_of_nonpos_left h (by omega)
    omega
  revert h
  cases k <;> simp only [inR, lo, hi] <;> omega

theorem ar_sound {k : IntKind} {e : Int} {K : X → Prop} (hK : arK k e K) : ∃ y, XR γ I w L y (.int k (k.wrap e)) ∧ K y := by
  unfold arK at hK
  split at hK
  · obtain ⟨⟨h⟩, hK⟩ := hK
    exact ⟨.v (.int .i64 e), by rw [wrap_in h]; exact VR.int _ _ h, hK⟩
  · exact ⟨.v (.int k (k.wrap e)), VR.int _ _ (inR_wrap _ _), hK⟩
theorem beq_toBytes (s t : List UInt8) : ((⟨s.toArray⟩ : ByteArray).toList == (⟨t.toArray⟩ : ByteArray).toList) = decide (s = t) := by
  have h : ∀ l : List UInt8, (⟨l.toArray⟩ : ByteArray).toList = l := fun l => by rw [ByteArray.toList_eq]
  rw [h, h, Bool.eq_iff_iff]; simp
theorem bin_sound {op : BinOp} {t : TypeId} {x y : X} {u v : Value} (hx : XR γ I w L x u) (hy : XR γ I w L y v) {K : X → Prop} (hK : binK op x y K) :
    ∃ r z, (binOp op t u v).run P w = .ok r w ∧ XR γ I w L z r ∧ K z ∧ ∀ (xo yo : Operand), eqGuard op t xo yo u v = pure () := by
  unfold binK at hK
  split at hK
  · rename_i k a k' b
    cases hx with
    | int _ _ ha =>
    cases hy with
    | int _ _ hb =>
    have hg : ∀ (xo yo : Operand), eqGuard op t xo yo (.int k a) (.int k' b) = pure () := fun xo yo => by cases op <;> rfl
    split at hK
    · obtain ⟨⟨h⟩, hK⟩ := hK
      exact ⟨_, .v (.int k (k.wrap (a * 2 ^ min b.toNat k.bits))), by simp [binOp, Op.shift, Int.not_lt.2 h], VR.int _ _ (inR_wrap _ _), hK, hg⟩
    · obtain ⟨⟨h⟩, hK⟩ := hK
      exact ⟨_, .v (.int k (a.fdiv (2 ^ min b.toNat k.bits))), by simp [binOp, Op.shift, Int.not_lt.2 h], VR.int _ _ (inR_fdiv _ ha), hK, hg⟩
    · rename_i hs1 hs2
      split at hK
      · rename_i hd
        have hd := of_decide_eq_true hd
        subst hd
        split at hK
        · obtain ⟨z, hz, hK⟩ := ar_sound (γ := γ) (I := I) (w := w) (L := L) hK
          exact ⟨_, z, by simp [binOp, Op.intArith], hz, hK, hg⟩
        · obtain ⟨z, hz, hK⟩ := ar_sound (γ := γ) (I := I) (w := w) (L := L) hK
          exact ⟨_, z, by simp [binOp, Op.intArith], hz, hK, hg⟩
        · obtain ⟨z, hz, hK⟩ := ar_sound (γ := γ) (I := I) (w := w) (L := L) hK
          exact ⟨_, z, by simp [binOp, Op.intArith], hz, hK, hg⟩
        · obtain ⟨⟨h⟩, hK⟩ := hK
          exact ⟨_, .v (.int k (k.wrap (a.tdiv b))), by simp [binOp, Op.intDiv, h], VR.int _ _ (inR_wrap _ _), hK, hg⟩
        · obtain ⟨⟨h⟩, hK⟩ := hK
          exact ⟨_, .v (.int k (a.tmod b)), by simp [binOp, Op.intDiv, h], VR.int _ _ (inR_tmod ha), hK, hg⟩
        · exact ⟨_, .v (.bool (decide (a = b))), by simp [binOp, Op.intCmp]; rfl, VR.bool _, hK, hg⟩
        · exact ⟨_, .v (.bool (!decide (a = b))), by simp [binOp, Op.intCmp]; rfl, VR.bool _, hK, hg⟩
        · exact ⟨_, .v (.bool (decide (a < b))), by simp [binOp, Op.intCmp], VR.bool _, hK, hg⟩
        · exact ⟨_, .v (.bool (decide (a ≤ b))), by simp [binOp, Op.intCmp], VR.bool _, hK, hg⟩
        · exact ⟨_, .v (.bool (decide (b < a))), by simp [binOp, Op.intCmp], VR.bool _, hK, hg⟩
        · exact ⟨_, .v (.bool (decide (b ≤ a))), by simp [binOp, Op.intCmp], VR.bool _, hK, hg⟩
        · rename_i q1 q2 q3 q4 q5 q6 q7 q8 q9 q10 q11
          refine ⟨.int k (bitsZ op k a b), .v (.int k (bitsZ op k a b)), ?_, VR.int _ _ ?_, hK, hg⟩
          · cases op <;> simp_all [binOp, Op.intBits, bitsZ]
          · unfold bitsZ; split <;> exact inR_wrap _ _
      · exact hK.elim
  · rename_i s t'
    cases hx with
    | str _ ha =>
    cases hy with
    | str _ hb =>
    have hg : ∀ (xo yo : Operand), eqGuard op t xo yo (.string ⟨s.toArray⟩) (.string ⟨t'.toArray⟩) = pure () := fun xo yo => by cases op <;> rfl
    split at hK
    · obtain ⟨⟨h⟩, hK⟩ := hK
      refine ⟨.string ⟨(s ++ t').toArray⟩, .v (.str (s ++ t')), ?_, VR.str _ (by simpa using h), hK, hg⟩
      have h2 : ¬ (9223372036854775807 < ((s.length : Int) + (t'.length : Int))) := by unfold big at h; omega
      have hs : ∀ l : List UInt8, (⟨l.toArray⟩ : ByteArray).size = l.length := fun l => by simp [ByteArray.size]
      simp [binOp, Op.stringOp, hs, h2]
      apply ByteArray.ext; simp
    · exact ⟨_, .v (.bool (decide (s = t'))), by simp only [binOp, Op.stringOp, beq_toBytes]; rfl, VR.bool _, hK, hg⟩
    · exact ⟨_, .v (.bool (!decide (s = t'))), by simp only [binOp, Op.stringOp, beq_toBytes]; rfl, VR.bool _, hK, hg⟩
    · exact hK.elim
  · exact hK.elim
end
end Go.Proofs.Ytdpgdeaefmghiaa.Sx

/- The operations that write or make memory. -/
namespace Go.Proofs.Ytdpgdeaefmghiaa.Sx
section
variable {C : Cfg} {E : Entry} {env : List X} {obs : List (Option Ob)} {a : Act} {w : World} {γ : Nat → Option Nat} {I : Nat → Prop} {L : Nat → Option Ob} {P : Program}
theorem set_next (h : SimG C E ⟨env, obs⟩ a w γ I) {k b : Nat} {ob ob' : Ob} (hl : lk obs k = some ob) (hb : γ k = some b) {cur cur' : Array Value} {e : TypeId}
    (hc : w.heap[b]? = some (.cells cur e (0, 0))) (hsz : cur'.size = cur.size)
    (hrow : ∀ e T xs, ob = .row e T xs → ∃ ys : List T.D, ob' = .row e T ys ∧ xs.length = ys.length)
    (hob : ObR γ I (w.setRow b cur') (lk (obs.set k (some ob'))) k ob') {x : X} {v : Value} (hx : XR γ I (w.setRow b cur') (lk (obs.set k (some ob'))) x v) (dst : Option Nat) :
    Sim C E ⟨put env dst x, obs.set k (some ob')⟩ (a.put dst v) (w.setRow b cur') := by
  have hk : k < obs.length := by
    rcases Nat.lt_or_ge k obs.length with h1 | h1
    · exact h1
    · simp [lk, List.getElem?_eq_none h1] at hl
  have hL : ∀ j, lk (obs.set k (some ob')) j = if j = k then some ob' else lk obs j := fun j => by
    rw [lk_set]; by_cases e : k = j
    · simp [e, e ▸ hk]
    · simp [e, Ne.symm e]
  have hoth : ∀ j, j ≠ b → (w.setRow b cur').heap[j]? = w.heap[j]? := fun j hj => setRow_other w b j cur' hj
  have hown : ∀ j o b', lk obs j = some o → γ j = some b' → j ≠ k → b' ≠ b := fun j o b' h1 h2 hne e => hne (h.mr.inj j k o ob b h1 hl (e ▸ h2) hb)
  have hK : Keep (fun _ => False) γ γ I I w (w.setRow b cur') (lk obs) (lk (obs.set k (some ob'))) := by
    refine ⟨fun _ h => h, fun j hj => hoth j (fun e => h.mr.out k ob b hl hb (e ▸ hj)), fun j o hj _ => ?_, fun j e' T xs hj _ => .inr ?_⟩
    · rw [hL] at hj
      by_cases e : j = k
      · subst e; exact ⟨by rw [hl]; simp, rfl⟩
      · rw [if_neg e] at hj; exact ⟨by rw [hj]; simp, rfl⟩
    · by_cases e : j = k
      · subst e
        rw [hl] at hj; injection hj with hj
        obtain ⟨ys, hy, hle⟩ := hrow _ _ _ hj
        refine ⟨⟨ys, by rw [hL]; simp [hy], hle⟩, fun b' cur0 h1 h2 => ?_⟩
        rw [hb] at h1; injection h1 with h1; subst h1
        rw [hc] at h2; injection h2 with h2; injection h2 with h2 h3 h4; subst h2; subst h3
        exact ⟨cur', setRow_heap w b cur cur' e (0, 0) hc, hsz⟩
      · refine ⟨⟨xs, by rw [hL, if_neg e]; exact hj, rfl⟩, fun b' cur0 h1 h2 => ⟨cur0, ?_, rfl⟩⟩
        rw [hoth b' (hown j _ b' hj h1 e)]; exact h2
  refine ⟨γ, I, h.next hK (fun _ hd => hd.elim) (fun _ hd => hd.elim) ?_ ?_ (fun b hb => .inl hb) ?_ hx dst⟩
  · constructor
    · intro j o hj
      rw [hL] at hj
      by_cases e : j = k
      · subst e; simp at hj; subst hj; exact hob
      · rw [if_neg e] at hj
        exact ObR.keep hK (fun _ hd => hd.elim) rfl (fun b' hb' => hoth b' (hown j o b' hj hb' e)) (h.mr.ob j o hj)
    · intro j j' o o' b' h1 h2 h3 h4
      have f : ∀ j o, lk (obs.set k (some ob')) j = some o → ∃ o, lk obs j = some o := fun j o hj => by
        rw [hL] at hj; by_cases e : j = k
        · subst e; exact ⟨ob, hl⟩
        · rw [if_neg e] at hj; exact ⟨o, hj⟩
      obtain ⟨o1, h1⟩ := f j o h1
      obtain ⟨o2, h2⟩ := f j' o' h2
      exact h.mr.inj j j' o1 o2 b' h1 h2 h3 h4
    · intro j o b' h1 h2
      rw [hL] at h1; by_cases e : j = k
      · subst e; exact h.mr.out j ob b' hl h2
      · rw [if_neg e] at h1; exact h.mr.out j o b' h1 h2
    · intro b' hb'; have := h.mr.lt b' hb'; simpa [World.setRow] using this
  · exact ⟨rfl, rfl, rfl, by simp [World.setRow], fun j _ hn => hoth j (fun e => hn ⟨k, ob, hl, e ▸ hb⟩)⟩
  · intro j o b' h1 h2
    rw [hL] at h1; by_cases e : j = k
    · subst e; exact .inl ⟨j, ob, hl, h2⟩
    · rw [if_neg e] at h1; exact .inl ⟨j, o, h1, h2⟩
/-- Lists of cells against values. -/
def Rel (R : V → Value → Prop) (cs : List V) (us : List Value) : Prop := ∀ (j : Nat) (c : V), cs[j]? = some c → ∃ u, us[j]? = some u ∧ R c u
def over {α : Type} (n : Nat) (new old : List α) : List α := old.take n ++ (new ++ old.drop (n + new.length))
theorem over_get {α : Type} {n : Nat} {new old : List α} (h : n + new.length ≤ old.length) (j : Nat) :
    (over n new old)[j]? = if j < n then old[j]? else if j < n + new.length then new[j - n]? else old[j]? := by
  unfold over
  by_cases h1 : j < n
  · rw [List.getElem?_append_left (by rw [List.length_take]; omega), List.getElem?_take, if_pos h1, if_pos h1]
  · rw [List.getElem?_append_right (by rw [List.length_take]; omega), if_neg h1, List.length_take, Nat.min_eq_left (by omega)]
    by_cases h2 : j < n + new.length
    · rw [List.getElem?_append_left (by omega), if_pos h2]
    · rw [List.getElem?_append_right (by omega), if_neg h2, List.getElem?_drop]; congr 1; omega
theorem Rel.over {R : V → Value → Prop} {n : Nat} {new old : List V} {vs us : List Value} (hl : vs.length = new.length) (h1 : n + new.length ≤ old.length) (h2 : n + new.length ≤ us.length)
    (hn : Rel R new vs) (ho : Rel R old us) : Rel R (over n new old) (Sx.over n vs us) := by
  intro j c hj
  rw [over_get h1] at hj
  rw [over_get (by omega), hl]
  split at hj
  · rename_i h; rw [if_pos h]; exact ho j c hj
  · rename_i h; rw [if_neg h]
    split at hj
    · rename_i h'; rw [if_pos h']; exact hn _ c hj
    · rename_i h'; rw [if_neg h']; exact ho j c hj
def storable (obs : List (Option Ob)) : V → Bool
  | .any => false
  | .ptr k _ => (lk obs k).isSome
  | .own k _ _ => (lk obs k).isSome
  | .full k => (lk obs k).isSome
  | .ep k _ _ => (lk obs k).isSome
  | _ => true
theorem own_one {k off n : Nat} {u : Value} (h : VR γ I w L (.own k off n) u) (hl : L k ≠ none) : u.oneCell' = true := by
  cases h with
  | ownD _ _ _ _ h => exact absurd h hl
  | ownN => rfl
  | own => rfl
theorem storable_one {c : V} {u : Value} (h : VR γ I w (lk obs) c u) (hs : storable obs c = true) : u.oneCell' = true := by
  have live : ∀ k, (lk obs k).isSome = true → lk obs k ≠ none := fun k h e => by rw [e] at h; simp at h
  cases h with
  | any => simp [storable] at hs
  | int => rfl
  | tt => rfl
  | ff => rfl
  | bool => rfl
  | str => rfl
  | nil => rfl
  | slE => rfl
  | sl => rfl
  | ptr => rfl
  | ptrD k _ _ h => exact absurd h (live k hs)
  | ownD k _ _ _ h => exact absurd h (live k hs)
  | fullD k _ h => exact absurd h (live k hs)
  | full k _ _ _ _ _ h => exact own_one h (live k hs)
  | ownN => rfl
  | own => rfl
  | cp => rfl
  | epD k _ _ _ h => exact absurd h (live k hs)
  | ep => rfl
  | con _ h => exact h
  | fn => rfl
/-- The cells of a value. -/
noncomputable def cellsK (obs : List (Option Ob)) (x : X) (K : List V → Prop) : Prop :=
  match x with
  | .v c => match storable obs c with | true => K [c] | false => False
  | .agg cs => match cs.all (storable obs) with | true => K cs | false => False
  | .tup _ => False
theorem cells_sound {x : X} {u : Value} (hx : XR γ I w (lk obs) x u) {K : List V → Prop} (hK : cellsK obs x K) :
    ∃ cs, K cs ∧ u.cells.toList.length = cs.length ∧ Rel (VR γ I w (lk obs)) cs u.cells.toList ∧ (∀ z ∈ u.cells.toList, z.oneCell' = true) ∧ cs.all (storable obs) = true := by
  unfold cellsK at hK
  split at hK
  · rename_i c
    split at hK
    · rename_i hs
      have h1 := storable_one hx hs
      have hc : u.cells = #[u] := by cases u <;> first | rfl | (simp [Value.oneCell'] at h1)
      rw [hc]
      refine ⟨[c], hK, rfl, fun j c' hj => ?_, by simpa using h1, by simpa using hs⟩
      cases j with
      | zero => simp at hj; subst hj; exact ⟨u, rfl, hx⟩
      | succ j => simp at hj
    · exact hK.elim
  · rename_i cs
    split at hK
    · rename_i hs
      obtain ⟨us, rfl, hz, hr⟩ := hx
      refine ⟨cs, hK, by simpa [Value.cells] using hz, fun j c hj => by obtain ⟨z, h1, h2⟩ := hr j c hj; exact ⟨z, by simpa [Value.cells] using h1, h2⟩, fun z hz' => ?_, hs⟩
      obtain ⟨j, hj⟩ := List.mem_iff_getElem?.1 hz'
      have hjl : j < cs.length := by have := (List.getElem?_eq_some_iff.1 hj).1; simp [Value.cells] at this; omega
      obtain ⟨z', h1, h2⟩ := hr j cs[j] (List.getElem?_eq_getElem hjl)
      have : z = z' := by have h3 : us.toList[j]? = some z := hj; simp [h1] at h3; exact h3.symm
      subst this
      exact storable_one h2 (List.all_eq_true.1 hs _ (List.getElem_mem hjl))
    · exact hK.elim
  · exact hK.elim
/-- A cell that stands for whatever another one stands for. -/
def Le (c c' : V) : Prop := ∀ (γ : Nat → Option Nat) (I : Nat → Prop) (w : World) (L : Nat → Option Ob) (u : Value), VR γ I w L c u → VR γ I w L c' u
theorem Le.refl (c : V) : Le c c := fun _ _ _ _ _ h => h
theorem slOf_le {T : Ty} {c : V} {xs : List T.D} (h : slOf T c = some xs) : Le c (.sl T xs) := by
  unfold slOf at h
  split at h
  all_goals first | (injection h with h; subst h; exact Le.refl _) | (injection h with h; subst h; intro γ I w L u hu; cases hu; exact VR.slE _ _ _) | (simp at h; done)
def LeL (cs cs' : List V) : Prop := ∀ (j : Nat) (c' : V), cs'[j]? = some c' → ∃ c, cs[j]? = some c ∧ Le c c'
theorem LeL.refl (cs : List V) : LeL cs cs := fun _ c h => ⟨c, h, Le.refl c⟩
theorem LeL.nil : LeL [] [] := fun j c' h => by simp at h
theorem LeL.cons {c c' : V} {cs cs' : List V} (h : Le c c') (hs : LeL cs cs') : LeL (c :: cs) (c' :: cs') := fun j d hj => by
  cases j with
  | zero => simp at hj; subst hj; exact ⟨c, rfl, h⟩
  | succ j => simpa using hs j d (by simpa using hj)
theorem dec_le {T : Ty} {cs : List V} {x : T.D} (h : dec T cs = some x) : LeL cs (enc T x) ∧ cs.length = T.size := by
  unfold dec at h
  split at h
  · injection h with h; subst h; exact ⟨LeL.refl _, rfl⟩
  · injection h with h; subst h
    refine ⟨LeL.cons (fun γ I w L u hu => ?_) LeL.nil, rfl⟩
    cases hu with
    | int _ _ hr =>
      rename_i n
      have h1 : 0 ≤ n ∧ n ≤ 255 := hr
      have h2 : ((UInt8.ofNat n.toNat).toNat : Int) = n := by simp; omega
      show VR γ I w L (.int .u8 _) _
      rw [h2]; exact VR.int _ _ hr
  · injection h with h; subst h; exact ⟨LeL.refl _, rfl⟩
  · injection h with h; subst h; exact ⟨LeL.cons (fun γ I w L u hu => by cases hu; exact VR.bool _) LeL.nil, rfl⟩
  · injection h with h; subst h; exact ⟨LeL.cons (fun γ I w L u hu => by cases hu; exact VR.bool _) LeL.nil, rfl⟩
  · injection h with h; subst h; exact ⟨LeL.refl _, rfl⟩
  · injection h with h; subst h; exact ⟨LeL.refl _, rfl⟩
  · split at h
    · rename_i hs; injection h with h; subst h; exact ⟨LeL.cons (Le.refl _) (LeL.cons (slOf_le hs) LeL.nil), rfl⟩
    · simp at h
  · split at h
    · rename_i hs; injection h with h; subst h; exact ⟨LeL.cons (Le.refl _) (LeL.cons (Le.refl _) (LeL.cons (slOf_le hs) LeL.nil)), rfl⟩
    · simp at h
  · injection h with h; subst h; exact ⟨LeL.refl _, rfl⟩
  · split at h
    · rename_i hs
      split at h
      · rename_i hs2; injection h with h; subst h; exact ⟨LeL.cons (Le.refl _) (LeL.cons (Le.refl _) (LeL.cons (slOf_le hs) (LeL.cons (slOf_le hs2) LeL.nil))), rfl⟩
      · simp at h
    · simp at h
  · rename_i t c; exact ⟨LeL.cons (slOf_le h) LeL.nil, rfl⟩
  · simp at h
theorem Rel.le {cs cs' : List V} {us : List Value} (h : Rel (VR γ I w L) cs us) (hl : LeL cs cs') : Rel (VR γ I w L) cs' us := fun j c' hj => by
  obtain ⟨c, h1, h2⟩ := hl j c' hj
  obtain ⟨u, h3, h4⟩ := h j c h1
  exact ⟨u, h3, h2 _ _ _ _ _ h4⟩
theorem Rel.keep {cs : List V} {us : List Value} {γ' : Nat → Option Nat} {I' : Nat → Prop} {w' : World} {L' : Nat → Option Ob} (h : Rel (VR γ I w L) cs us) (hk : ∀ c u, c ∈ cs → VR γ I w L c u → VR γ' I' w' L' c u) : Rel (VR γ' I' w' L') cs us :=
  fun j c hj => let ⟨u, h1, h2⟩ := h j c hj; ⟨u, h1, hk c u (List.mem_of_getElem? hj) h2⟩

def tdSize : TD → Option Nat
  | .st _ z => some z.length
  | .other => none
  | _ => some 1
theorem tdSize_ok {t : TypeId} {d : TD} (h : TdOk P t d) {n : Nat} (hn : tdSize d = some n) : ∃ i, P.info? t = some i ∧ i.size = n := by
  cases d with
  | int k => obtain ⟨_, i, _, h1, h2, _⟩ := h; injection hn with hn; subst hn; exact ⟨i, h1, h2⟩
  | bool => obtain ⟨_, i, _, h1, h2, _⟩ := h; injection hn with hn; subst hn; exact ⟨i, h1, h2⟩
  | str => obtain ⟨_, i, _, h1, h2, _⟩ := h; injection hn with hn; subst hn; exact ⟨i, h1, h2⟩
  | sl e T => obtain ⟨_, ⟨i, _, h1, h2, _⟩, _⟩ := h; injection hn with hn; subst hn; exact ⟨i, h1, h2⟩
  | one z => obtain ⟨i, _, h1, h2, _⟩ := h; injection hn with hn; subst hn; exact ⟨i, h1, h2⟩
  | st fs z => obtain ⟨_, i, _, h1, h2, _⟩ := h; injection hn with hn; subst hn; exact ⟨i, h1, h2⟩
  | other => simp [tdSize] at hn
theorem run_storeAt {t : TypeId} {i : TypeInfo} (hi : P.info? t = some i) {v : Value} (hs : v.cells.toList.length = i.size) {b o : Nat} {cur : Array Value} {e : TypeId} (hc : w.heap[b]? = some (.cells cur e (0, 0)))
    (hb : o + v.cells.toList.length ≤ cur.size) (h1 : ∀ z ∈ v.cells.toList, z.oneCell' = true) :
    (Instr.storeAt t (.pointer (some ⟨b, o, none⟩)) v).run P w = .ok () (w.setRow b (over o v.cells.toList cur.toList).toArray) := by
  have := run_storeCells_at P b o e v.cells.toList 0 cur w hc (by simpa using hb) h1
  simp only [Nat.add_zero] at this
  have hs' : ¬ v.cells.size ≠ i.size := by simp at hs; simp [hs]
  simp only [Instr.storeAt, Instr.sureAddr, storeVar, sizeOf, typeInfo, Sem.run_bind, Sem.run_pure, Result.andThen_ok, run_program, hi, hs', if_false, this, over, List.append_assoc]
noncomputable def storeK (C : Cfg) (t : TypeId) (obs : List (Option Ob)) (va vx : X) (K : List (Option Ob) → Prop) : Prop :=
  cellsK obs vx fun cs => match tdSize (C.td t) with
    | none => False
    | some n => match Nat.beq cs.length n with
      | false => False
      | true => match va with
        | .v (.ptr k off) => lkK obs k fun ob => match ob with
          | .box old => match Nat.ble (off + cs.length) old.length with
            | true => fL (over off cs old) fun new => setK obs k (some (.box new)) K
            | false => False
          | .row .. => False
        | .v (.ep k i off) => lkK obs k fun ob => match ob with
          | .row e T xs => match Nat.ble (off + cs.length) T.size with
            | true => match dec T (over off cs (enc T (xs.getD i T.dflt))) with
              | some y => setK obs k (some (.row e T (xs.set i y))) K
              | none => False
            | false => False
          | .box _ => False
        | _ => False
theorem over_length {α : Type} {n : Nat} {new old : List α} (h : n + new.length ≤ old.length) : (over n new old).length = old.length := by
  simp [over]; omega
theorem flat_set {T : Ty} {xs : List T.D} {i : Nat} (hi : i < xs.length) (y : T.D) : flat T (xs.set i y) = over (i * T.size) (enc T y) (flat T xs) := by
  unfold over
  rw [enc_length, flat_take, show i * T.size + T.size = (i + 1) * T.size by rw [Nat.add_mul, Nat.one_mul], flat_drop, List.set_eq_take_append_cons_drop, if_pos hi, flat_append, flat_cons]
theorem store_sound (hT : ∀ t, TdOk C.P t (C.td t)) (h : SimG C E ⟨env, obs⟩ a w γ I) {t : TypeId} {va vx : X} {u v : Value} (ha : XR γ I w (lk obs) va u) (hv : XR γ I w (lk obs) vx v) {K : List (Option Ob) → Prop} (hK : storeK C t obs va vx K) (dst : Option Nat) :
    ∃ w' obs', (Instr.storeAt t u v).run C.P w = .ok () w' ∧ K obs' ∧ Sim C E ⟨put env dst (.v .any), obs'⟩ (a.put dst undef) w' := by
  obtain ⟨cs, hK, hlen, hrel, hone, hst⟩ := cells_sound hv hK
  split at hK
  · exact hK.elim
  · rename_i n hn
    split at hK
    · exact hK.elim
    · rename_i hb
      have hb := Nat.eq_of_beq_eq_true hb
      obtain ⟨i, hi, his⟩ := tdSize_ok (hT t) hn
      split at hK
      · rename_i k off hK0
        obtain ⟨ob, hl, hK⟩ := lkK_spec hK
        split at hK
        · rename_i old
          split at hK
          · rename_i hle
            have hle := Nat.le_of_ble_eq_true hle
            rw [fL_eq, setK_eq] at hK
            obtain ⟨b, hg, rfl⟩ := VR.ptr_live ha (by rw [hl]; simp)
            have hm : MR γ I w (lk obs) := h.mr
            obtain ⟨b', cur, e, h1, h2, h3, h4⟩ := hm.ob k _ hl
            rw [hg] at h1; injection h1 with h1; subst h1
            have hr := run_storeAt (P := C.P) hi (v := v) (by rw [hlen, hb, his]) (o := off) h2 (by rw [hlen, h3]; exact hle) hone
            refine ⟨_, _, hr, hK, set_next h hl hg h2 (by simp [over_length (show off + v.cells.toList.length ≤ cur.toList.length by rw [hlen]; simp [h3]; exact hle)]) (fun e T xs he => by cases he) ?_ (XR.any _) dst⟩
            have hkeep : ∀ (c : V) (u : Value), VR γ I w (lk obs) c u → VR γ I (w.setRow b (over off v.cells.toList cur.toList).toArray) (lk (obs.set k (some (.box (over off cs old))))) c u := fun c u hcu => by
              refine VR.keep (N := fun _ => False) ⟨fun _ h => h, fun j hj => setRow_other w b j _ (fun e => h.mr.out k _ b hl hg (e ▸ hj)), fun j o hj _ => ?_, fun j e' T xs hj _ => .inr ?_⟩ (fun _ hd => hd.elim) hcu
              · rw [lk_set] at hj
                by_cases e : k = j
                · subst e; exact ⟨by rw [hl]; simp, rfl⟩
                · rw [if_neg (fun h => e h.1)] at hj; exact ⟨by rw [hj]; simp, rfl⟩
              · have hne : k ≠ j := fun e => by subst e; rw [hl] at hj; cases hj
                refine ⟨⟨xs, by rw [lk_set, if_neg (fun h => hne h.1)]; exact hj, rfl⟩, fun b' cur0 h5 h6 => ⟨cur0, ?_, rfl⟩⟩
                rw [setRow_other w b b' _ (fun e => hne (h.mr.inj k j _ _ b hl hj hg (e ▸ h5)))]; exact h6
            refine ⟨b, _, e, hg, setRow_heap w b cur _ e (0, 0) h2, ?_, ?_⟩
            · have h5 : off + v.cells.toList.length ≤ cur.toList.length := by rw [hlen]; simp [h3]; exact hle
              simp [over_length h5, over_length hle, h3]
            · have hold : Rel (VR γ I w (lk obs)) old cur.toList := fun j c hj => by obtain ⟨u, h5, h6⟩ := h4 j c hj; exact ⟨u, by simpa using h5, h6⟩
              have := (Rel.over hlen hle (by simp [h3]; exact hle) hrel hold).keep (fun c u _ hcu => hkeep c u hcu)
              intro j c hj
              obtain ⟨u, h5, h6⟩ := this j c hj
              exact ⟨u, by simpa using h5, h6⟩
          · exact hK.elim
        · exact hK.elim
      · rename_i k i' off hK0
        obtain ⟨ob, hl, hK⟩ := lkK_spec hK
        split at hK
        · rename_i e T xs
          split at hK
          · rename_i hle
            have hle := Nat.le_of_ble_eq_true hle
            split at hK
            · rename_i y hy
              rw [setK_eq] at hK
              obtain ⟨b, hg, hix, rfl⟩ := VR.ep_live ha hl
              have hm : MR γ I w (lk obs) := h.mr
              rcases hm.ob k _ hl with ⟨h1, _⟩ | ⟨b', cur, cap, h1, h2, h3, h4, h5, h6, h7⟩
              · rw [hg] at h1; simp at h1
              · rw [hg] at h1; injection h1 with h1; subst h1
                have hmul : (i' + 1) * T.size ≤ cap * T.size := Nat.mul_le_mul_right _ (by omega)
                rw [Nat.add_mul, Nat.one_mul] at hmul
                have hfit : i' * T.size + off + v.cells.toList.length ≤ cur.size := by rw [hlen, h3]; omega
                have hr := run_storeAt (P := C.P) hi (v := v) (by rw [hlen, hb, his]) (o := i' * T.size + off) h2 hfit hone
                obtain ⟨hdl, hds⟩ := dec_le hy
                have hel : (enc T (xs.getD i' T.dflt)).length = T.size := enc_length _ _
                refine ⟨_, _, hr, hK, set_next h hl hg h2 (by rw [List.size_toArray, over_length (by simpa using hfit)]; simp) (fun e' T' xs' he => by
                  injection he with he1 he2 he3; subst he1; subst he2; simp at he3; subst he3; exact ⟨_, rfl, by simp⟩) ?_ (XR.any _) dst⟩
                refine .inr ⟨b, _, cap, hg, setRow_heap w b cur _ e (0, 0) h2, by rw [List.size_toArray, over_length (by simpa using hfit)]; simpa using h3, by simpa using h4, h5, by simpa using h6, ?_⟩
                have hold : Rel (VR γ I w (lk obs)) (flat T xs) cur.toList := fun j c hj => by obtain ⟨u, h5, h6⟩ := h7 j c hj; exact ⟨u, by simpa using h5, h6⟩
                have hfl := flat_length T xs
                have hmul2 : (i' + 1) * T.size ≤ xs.length * T.size := Nat.mul_le_mul_right _ (by omega)
                rw [Nat.add_mul, Nat.one_mul] at hmul2
                have hro := Rel.over (n := i' * T.size + off) hlen (by rw [hfl]; omega) (by simp [h3]; omega) hrel hold
                have hle2 : LeL (over (i' * T.size + off) cs (flat T xs)) (flat T (xs.set i' y)) := by
                  intro j c' hj
                  rw [flat_set hix] at hj
                  rw [over_get (by rw [enc_length, hfl]; omega)] at hj
                  rw [over_get (by rw [hfl]; omega)]
                  rw [enc_length] at hj
                  by_cases c1 : j < i' * T.size
                  · rw [if_pos c1] at hj; rw [if_pos (by omega)]; exact ⟨c', hj, Le.refl _⟩
                  · rw [if_neg c1] at hj
                    by_cases c2 : j < i' * T.size + T.size
                    · rw [if_pos c2] at hj
                      obtain ⟨c, hc1, hc2⟩ := hdl _ c' hj
                      rw [over_get (by rw [hel]; exact hle)] at hc1
                      refine ⟨c, ?_, hc2⟩
                      by_cases d1 : j < i' * T.size + off
                      · rw [if_pos (by omega)] at hc1; rw [if_pos d1]
                        have := flat_get hix hc1
                        rw [← this]; congr 1; omega
                      · rw [if_neg (by omega)] at hc1; rw [if_neg d1]
                        by_cases d2 : j < i' * T.size + off + cs.length
                        · rw [if_pos (by omega)] at hc1; rw [if_pos d2, ← hc1]; congr 1; omega
                        · rw [if_neg (by omega)] at hc1; rw [if_neg d2]
                          have := flat_get hix hc1
                          rw [← this]; congr 1; omega
                    · rw [if_neg c2] at hj; rw [if_neg (by omega), if_neg (by omega)]; exact ⟨c', hj, Le.refl _⟩
                have hfin := (hro.le hle2).keep (γ' := γ) (I' := I) (w' := w.setRow b (over (i' * T.size + off) v.cells.toList cur.toList).toArray) (L' := lk (obs.set k (some (.row e T (xs.set i' y))))) (fun c u hc hcu => hcu.content (fun _ h => h) (fun j hj => setRow_other w b j _ (fun e => h.mr.out k _ b hl hg (e ▸ hj))) (by
                  obtain ⟨j, hj⟩ := List.mem_iff_getElem?.1 hc; exact flat_plain hj))
                intro j c hj
                obtain ⟨u, h8, h9⟩ := hfin j c hj
                exact ⟨u, by simpa using h8, h9⟩
            · exact hK.elim
          · exact hK.elim
        · exact hK.elim
      · exact hK.elim
end
end Go.Proofs.Ytdpgdeaefmghiaa.Sx

/- New objects. -/
namespace Go.Proofs.Ytdpgdeaefmghiaa.Sx
section
variable {C : Cfg} {E : Entry} {env : List X} {obs : List (Option Ob)} {a : Act} {w : World} {γ : Nat → Option Nat} {I : Nat → Prop} {L : Nat → Option Ob} {P : Program}
noncomputable def newK (key : Nat) (env : List X) (obs : List (Option Ob)) (ob : Ob) (K : List (Option Ob) → Prop) : Prop :=
  match fresh key env obs with
  | true => match obs[key]? with
    | some none => setK obs key (some ob) K
    | _ => False
  | false => False
theorem newK_spec {key : Nat} {ob : Ob} {K : List (Option Ob) → Prop} (h : newK key env obs ob K) : key < obs.length ∧ fresh key env obs = true ∧ lk obs key = none ∧ K (obs.set key (some ob)) := by
  unfold newK at h
  split at h
  · rename_i hf
    split at h
    · rename_i ho
      rw [setK_eq] at h
      exact ⟨(List.getElem?_eq_some_iff.1 ho).1, hf, by simp [lk, ho], h⟩
    · exact h.elim
  · exact h.elim
def zeroCells : TD → List V
  | .int k => [.int k 0]
  | .bool => [.ff]
  | .str => [.str []]
  | .sl _ _ => [.nil]
  | .st _ z => z
  | .one z => [z]
  | .other => []
theorem zeroCells_ok {t : TypeId} {d : TD} (h : TdOk P t d) (hd : d ≠ .other) : ∃ i zv, P.info? t = some i ∧ i.zero = some zv ∧ zv.cells.size = (zeroCells d).length ∧ ∀ (j : Nat) (c : V), (zeroCells d)[j]? = some c → ∃ u, zv.cells[j]? = some u ∧ vmatch c u = true := by
  have one : ∀ z, OneOk P t z → ∃ i zv, P.info? t = some i ∧ i.zero = some zv ∧ zv.cells.size = [z].length ∧ ∀ (j : Nat) (c : V), [z][j]? = some c → ∃ u, zv.cells[j]? = some u ∧ vmatch c u = true := by
    intro z ⟨i, zv, h1, _, h3, h4, _⟩
    have hz := vmatch_one h4
    have hc : zv.cells = #[zv] := by cases zv <;> first | rfl | (simp [Value.oneCell'] at hz)
    refine ⟨i, zv, h1, h3, by rw [hc]; rfl, fun j c hj => ?_⟩
    cases j with
    | zero => simp at hj; subst hj; exact ⟨zv, by rw [hc]; rfl, h4⟩
    | succ j => simp at hj
  cases d with
  | int k => exact one _ h.2
  | bool => exact one _ h.2
  | str => exact one _ h.2
  | sl e T => exact one _ h.2.1
  | one z => exact one _ h
  | st fs z => obtain ⟨_, i, zs, h1, _, h3, h4, h5⟩ := h; exact ⟨i, _, h1, h3, h4, h5⟩
  | other => exact absurd rfl hd
noncomputable def allocK (C : Cfg) (t : TypeId) (key : Nat) (env : List X) (obs : List (Option Ob)) (K : X → List (Option Ob) → Prop) : Prop :=
  match C.td t with
  | .other => False
  | d => fL (zeroCells d) fun cs => newK key env obs (.box cs) fun obs => K (.v (.ptr key 0)) obs
theorem alloc_sound (hT : ∀ t, TdOk C.P t (C.td t)) (h : SimG C E ⟨env, obs⟩ a w γ I) {t : TypeId} {key : Nat} {K : X → List (Option Ob) → Prop} (hK : allocK C t key env obs K) (h0 : E.bx key = none) (dst : Option Nat) :
    ∃ v w' x obs', (Instr.alloc t true (.tuple #[])).run C.P w = .ok v w' ∧ K x obs' ∧ Sim C E ⟨put env dst x, obs'⟩ (a.put dst v) w' := by
  have main : ∀ d, C.td t = d → d ≠ .other → (fL (zeroCells d) fun cs => newK key env obs (.box cs) fun obs => K (.v (.ptr key 0)) obs) → ∃ v w' x obs', (Instr.alloc t true (.tuple #[])).run C.P w = .ok v w' ∧ K x obs' ∧ Sim C E ⟨put env dst x, obs'⟩ (a.put dst v) w' := by
    intro d hd hne hK
    rw [fL_eq] at hK
    obtain ⟨h1, h2, h3, hK⟩ := newK_spec hK
    obtain ⟨i, zv, h4, h5, h6, h7⟩ := zeroCells_ok (hd ▸ hT t) hne
    refine ⟨.pointer (some ⟨w.heap.size, 0, none⟩), w.alloc (.cells zv.cells t), _, _, ?_, hK, ?_⟩
    · simp [Instr.alloc, zeroValue, typeInfo, h4, h5, newVar, newRow]
    · refine alloc_next h (.inl rfl) h1 h2 h3 h0 _ _ ?_ dst (VR.ptr key 0 w.heap.size (by simp))
      refine ⟨w.heap.size, zv.cells, t, by simp, heap_alloc_new w _, h6, fun j c hj => ?_⟩
      obtain ⟨u, h8, h9⟩ := h7 j c hj
      exact ⟨u, h8, VR.of_match h9⟩
  unfold allocK at hK
  split at hK
  · exact hK.elim
  · rename_i hne; exact main _ rfl hne hK
noncomputable def boxK (key : Nat) (env : List X) (obs : List (Option Ob)) (x : X) (K : X → List (Option Ob) → Prop) : Prop :=
  cellsK obs x fun cs => newK key env obs (.box cs) fun obs => K (.v (.ptr key 0)) obs
/-- A new box for cells that stand for values. -/
theorem boxed (h : SimG C E ⟨env, obs⟩ a w γ I) {key : Nat} (h1 : key < obs.length) (h2 : fresh key env obs = true) (h3 : lk obs key = none) (h0 : E.bx key = none) (t : TypeId) {cs : List V} {us : Array Value}
    (hlen : us.toList.length = cs.length) (hrel : Rel (VR γ I w (lk obs)) cs us.toList) (hall : cs.all (noRefV key) = true) (dst : Option Nat) :
    Sim C E ⟨put env dst (.v (.ptr key 0)), obs.set key (some (.box cs))⟩ (a.put dst (.pointer (some ⟨w.heap.size, 0, none⟩))) (w.alloc (.cells us t)) := by
  refine alloc_next h (.inl rfl) h1 h2 h3 h0 _ _ ?_ dst (VR.ptr key 0 w.heap.size (by simp))
  refine ⟨w.heap.size, us, t, by simp, heap_alloc_new w _, by simpa using hlen, fun j c hj => ?_⟩
  obtain ⟨u, h8, h9⟩ := hrel j c hj
  exact ⟨u, by simpa using h8, VR.keep (alloc_keep h (.inl rfl) h1 _ _) (fun d hd => by subst hd; exact all_noRef hall hj) h9⟩
theorem box_sound (h : SimG C E ⟨env, obs⟩ a w γ I) {t : TypeId} {key : Nat} {x : X} {v : Value} (hx : XR γ I w (lk obs) x v) (hf : fresh key env obs = true → noRefX key x = true) {K : X → List (Option Ob) → Prop} (hK : boxK key env obs x K) (h0 : E.bx key = none) (dst : Option Nat) :
    ∃ v' w' x' obs', (Instr.box t v).run C.P w = .ok v' w' ∧ K x' obs' ∧ Sim C E ⟨put env dst x', obs'⟩ (a.put dst v') w' := by
  have hcs : ∀ cs, boxK key env obs x K → noRefX key x = true → cellsK obs x (fun cs' => cs' = cs) → cs.all (noRefV key) = true := by
    intro cs _ hn hc
    unfold cellsK at hc
    split at hc
    · split at hc
      · subst hc; simpa [noRefX, noRefX1] using hn
      · exact hc.elim
    · split at hc
      · subst hc; simpa [noRefX, noRefX1] using hn
      · exact hc.elim
    · exact hc.elim
  have hK0 := hK
  obtain ⟨cs, ⟨hK, hcs'⟩, hlen, hrel, hone, hst⟩ := cells_sound (K := fun cs => newK key env obs (.box cs) (fun obs => K (.v (.ptr key 0)) obs) ∧ cellsK obs x (fun cs' => cs' = cs)) hx (by
    unfold boxK cellsK at hK
    unfold cellsK
    split <;> simp_all
    all_goals split <;> simp_all)
  obtain ⟨h1, h2, h3, hK⟩ := newK_spec hK
  have hall := hcs cs hK0 (hf h2) hcs'
  refine ⟨.pointer (some ⟨w.heap.size, 0, none⟩), w.alloc (.cells v.cells t), _, _, ?_, hK, ?_⟩
  · simp [Instr.box, newVar, newRow]
  · exact boxed h h1 h2 h3 h0 t hlen hrel hall dst

/-- A new row of contents: the value that stands for it. -/
theorem rowedF (h : SimG C E ⟨env, obs⟩ a w γ I) {w1 : World} (hw1 : w1 = w ∨ w1 = w.drew) {key : Nat} (h1 : key < obs.length) (h2 : fresh key env obs = true) (h3 : lk obs key = none) (h0 : E.bx key = none) (e : TypeId) {T : Ty} {xs : List T.D} {us : Array Value} {n cap : Nat}
    (hn : n = xs.length) (hsz : us.size = cap * T.size) (hcap : xs.length ≤ cap) (hmax : cap ≤ maxLen) (hbig : xs.length * T.bytes ≤ big) (hrel : Rel (VR γ I w (lk obs)) (flat T xs) us.toList) (dst : Option Nat) :
    Sim C E ⟨put env dst (.v (.full key)), obs.set key (some (.row e T xs))⟩ (a.put dst (.slice (some ⟨w.heap.size, 0, none⟩) n cap)) (w1.alloc (.cells us e)) := by
  subst hn
  have hsz1 : w1.heap.size = w.heap.size := by rcases hw1 with rfl | rfl <;> rfl
  have hnew : (w1.alloc (.cells us e)).heap[w.heap.size]? = some (.cells us e (0, 0)) := by rw [← hsz1]; exact heap_alloc_new w1 _
  refine alloc_next h hw1 h1 h2 h3 h0 _ _ ?_ dst ?_
  · refine .inr ⟨w.heap.size, us, cap, by simp, hnew, hsz, hcap, hmax, hbig, fun j c hj => ?_⟩
    obtain ⟨u, h8, h9⟩ := hrel j c hj
    have hk := alloc_keep h hw1 h1 (.cells us e) (.row e T xs)
    exact ⟨u, by simpa using h8, h9.content hk.inc hk.imm (flat_plain hj)⟩
  · have hL : lk (obs.set key (some (.row e T xs))) key = some (.row e T xs) := by rw [lk_set, if_pos ⟨rfl, h1⟩]
    exact VR.full key e T xs _ hL (VR.own key 0 xs.length w.heap.size cap e T.size T xs us 0 hL (by simp) (by omega) hnew rfl (by rw [Nat.zero_add]; exact hsz.symm) (.inr (by simp)) (by omega))
theorem flat_replicate_get {T : Ty} {n j : Nat} {c : V} (h : (flat T (List.replicate n T.dflt))[j]? = some c) : j < n * T.size ∧ (enc T T.dflt)[j % T.size]? = some c := by
  have hl := (List.getElem?_eq_some_iff.1 h).1
  rw [flat_length, List.length_replicate] at hl
  refine ⟨hl, ?_⟩
  have hp := T.size_pos
  have hi : j / T.size < n := by rw [Nat.div_lt_iff_lt_mul hp]; exact hl
  have hm := Nat.mod_lt j hp
  have hd : (enc T ((List.replicate n T.dflt).getD (j / T.size) T.dflt)) = enc T T.dflt := by
    rw [List.getD_eq_getElem?_getD, List.getElem?_replicate, if_pos hi]; rfl
  have hg : (enc T T.dflt)[j % T.size]? = some ((enc T T.dflt)[j % T.size]'(by rw [enc_length]; exact hm)) := List.getElem?_eq_getElem _
  have := flat_get (T := T) (xs := List.replicate n T.dflt) (i := j / T.size) (j := j % T.size) (by simpa using hi) (by rw [hd]; exact hg)
  rw [show j / T.size * T.size + j % T.size = j by rw [Nat.mul_comm]; exact Nat.div_add_mod j T.size, h] at this
  rw [hg, ← this]
noncomputable def makeK (C : Cfg) (t : TypeId) (key : Nat) (env : List X) (obs : List (Option Ob)) (l c : X) (K : X → List (Option Ob) → Prop) : Prop :=
  match C.td t with
  | .sl e T => match l with
    | .v (.int _ n) => match c with
      | .v (.int _ m) => Hold (0 ≤ n ∧ n ≤ m ∧ m * T.bytes ≤ big) ∧ newK key env obs (.row e T (List.replicate n.toNat T.dflt)) fun obs => K (.v (.full key)) obs
      | _ => False
    | _ => False
  | _ => False
theorem make_sound (hT : ∀ t, TdOk C.P t (C.td t)) (h : SimG C E ⟨env, obs⟩ a w γ I) {t : TypeId} {key : Nat} {l c : X} {vl vc : Value} (hl : XR γ I w (lk obs) l vl) (hc : XR γ I w (lk obs) c vc) {K : X → List (Option Ob) → Prop} (hK : makeK C t key env obs l c K) (h0' : E.bx key = none) (dst : Option Nat) :
    ∃ v' w' x' obs', (Instr.makeSlice t vl vc).run C.P w = .ok v' w' ∧ K x' obs' ∧ Sim C E ⟨put env dst x', obs'⟩ (a.put dst v') w' := by
  unfold makeK at hK
  have ht := hT t
  split at hK
  · rename_i e T htd
    rw [htd] at ht
    obtain ⟨hu, _, ie, zv, hie, hsz, hby, hzv, hzs, hz⟩ := ht
    split at hK
    · rename_i k1 n
      cases hl with
      | int _ _ hn =>
      split at hK
      · rename_i k2 m
        cases hc with
        | int _ _ hm =>
        obtain ⟨⟨h0, h1, h2⟩, hK⟩ := hK
        obtain ⟨h3, h4, h5, hK⟩ := newK_spec hK
        have hbp := T.bytes_pos
        have hmb : m ≤ big := by
          have : m * 1 ≤ m * T.bytes := Int.mul_le_mul_of_nonneg_left (by omega) (by omega)
          omega
        have hr := run_make (P := C.P) w t e ie zv hu hie hzv k1 k2 n m h0 h1 (by rw [hby, Int.mul_comm]; unfold big at h2; omega) (by unfold big at hmb; omega)
        refine ⟨_, _, _, _, hr, hK, ?_⟩
        have hnb : n.toNat * T.bytes ≤ big := by
          have h6 : (n.toNat : Int) * T.bytes ≤ m * T.bytes := Int.mul_le_mul_of_nonneg_right (by omega) (by omega)
          have h7 : ((n.toNat * T.bytes : Nat) : Int) = (n.toNat : Int) * T.bytes := Int.natCast_mul _ _
          omega
        refine rowedF h (.inl rfl) h3 h4 h5 h0' e (by simp) (by rw [size_madeCells, hsz]) (by simp; omega) (by unfold maxLen; unfold big at hmb; omega) (by simpa using hnb) (fun j c hj => ?_) dst
        obtain ⟨hj1, hj2⟩ := flat_replicate_get hj
        obtain ⟨u, h6, h7⟩ := hz _ c hj2
        refine ⟨u, ?_, VR.of_match h7⟩
        have hjm : j < m.toNat * ie.size := by
          rw [hsz]; exact Nat.lt_of_lt_of_le hj1 (Nat.mul_le_mul_right _ (by omega))
        have hmod : j % T.size < zv.cells.size := by rw [hzs]; exact Nat.mod_lt _ T.size_pos
        simp only [madeCells, Array.toList_map, Array.toList_range, List.getElem?_map, List.getElem?_range hjm, Option.map_some, hzs]
        rw [← h6, Array.getElem?_eq_getElem hmod]
        simp [hmod]
      · exact hK.elim
    · exact hK.elim
  · exact hK.elim
end
end Go.Proofs.Ytdpgdeaefmghiaa.Sx
