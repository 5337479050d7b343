/- The walk's logic: what a step asks, what an operation owes. -/
import Derived.WalkKit
set_option linter.unusedVariables false
set_option linter.unusedSimpArgs false
set_option linter.unusedSectionVars false
/- A small program logic over the model: heaps in parts that stay and parts that are owned; steps of worlds; weakening. -/
namespace Go
namespace Gv

/-- What stays: blocks that nobody writes any more. -/
abbrev View := Nat → Option Obj
/-- What is owned: blocks that may be written. -/
abbrev Hp := List (Nat × Obj)

structure Val (h : View) (O : Hp) (w : World) : Prop where
  per : ∀ b o, h b = some o → w.heap[b]? = some o
  own : ∀ b o, (b, o) ∈ O → w.heap[b]? = some o
  nodup : (O.map Prod.fst).Nodup
  apart : ∀ b o, (b, o) ∈ O → h b = none

/-- From (h, O, w) to (h', O', w'): what stayed stays; blocks that were neither are as they were. -/
structure Step (h : View) (O : Hp) (w : World) (h' : View) (O' : Hp) (w' : World) : Prop where
  os : w'.os = w.os
  tape : w'.tape = w.tape
  output : w'.output = w.output
  mono : ∀ b o, h b = some o → h' b = some o
  val : Val h' O' w'
  size : w.heap.size ≤ w'.heap.size
  kept : ∀ b, b < w.heap.size → (∀ o, (b, o) ∉ O) → w'.heap[b]? = w.heap[b]?
  fresh : ∀ b, h' b ≠ none → h b ≠ none ∨ w.heap.size ≤ b ∨ ∃ o, (b, o) ∈ O
  freshO : ∀ b o, (b, o) ∈ O' → w.heap.size ≤ b ∨ ∃ o, (b, o) ∈ O

theorem Step.refl {h : View} {O : Hp} {w : World} (hv : Val h O w) : Step h O w h O w :=
  ⟨rfl, rfl, rfl, fun _ _ e => e, hv, Nat.le_refl _, fun _ _ _ => rfl, fun _ e => .inl e, fun b o e => .inr ⟨o, e⟩⟩

theorem Step.trans {h h' h'' : View} {O O' O'' : Hp} {w w' w'' : World} (p : Step h O w h' O' w') (q : Step h' O' w' h'' O'' w'') :
    Step h O w h'' O'' w'' where
  os := q.os.trans p.os
  tape := q.tape.trans p.tape
  output := q.output.trans p.output
  mono := fun b o e => q.mono b o (p.mono b o e)
  val := q.val
  size := Nat.le_trans p.size q.size
  kept := fun b hb hn => by
    rw [q.kept b (Nat.lt_of_lt_of_le hb p.size) ?_, p.kept b hb hn]
    intro o ho
    rcases p.freshO b o ho with h1 | ⟨o', h1⟩
    · omega
    · exact hn o' h1
  fresh := fun b hb => by
    rcases q.fresh b hb with h1 | h1 | ⟨o, h1⟩
    · exact p.fresh b h1
    · exact .inr (.inl (Nat.le_trans p.size h1))
    · rcases p.freshO b o h1 with h2 | h2
      · exact .inr (.inl h2)
      · exact .inr (.inr h2)
  freshO := fun b o hb => by
    rcases q.freshO b o hb with h1 | ⟨o', h1⟩
    · exact .inl (Nat.le_trans p.size h1)
    · exact p.freshO b o' h1

/-- Weakening: some owned blocks are given up, others are made to stay. -/
structure Wk (h : View) (O : Hp) (h1 : View) (O1 : Hp) : Prop where
  mono : ∀ b o, h b = some o → h1 b = some o
  from_ : ∀ b o, h1 b = some o → h b = some o ∨ (b, o) ∈ O
  sub : ∀ b o, (b, o) ∈ O1 → (b, o) ∈ O
  nodup : (O.map Prod.fst).Nodup → (O1.map Prod.fst).Nodup
  apart : (O.map Prod.fst).Nodup → (∀ b o, (b, o) ∈ O → h b = none) → ∀ b o, (b, o) ∈ O1 → h1 b = none

theorem Wk.refl (h : View) (O : Hp) : Wk h O h O := ⟨fun _ _ e => e, fun _ _ e => .inl e, fun _ _ e => e, id, fun _ e => e⟩

theorem Wk.trans {h h1 h2 : View} {O O1 O2 : Hp} (p : Wk h O h1 O1) (q : Wk h1 O1 h2 O2) : Wk h O h2 O2 where
  mono := fun b o e => q.mono b o (p.mono b o e)
  from_ := fun b o e => by
    rcases q.from_ b o e with h | h
    · exact p.from_ b o h
    · exact .inr (p.sub b o h)
  sub := fun b o e => p.sub b o (q.sub b o e)
  nodup := fun hn => q.nodup (p.nodup hn)
  apart := fun hn ha => q.apart (p.nodup hn) (p.apart hn ha)

theorem Val.wk {h h1 : View} {O O1 : Hp} {w : World} (p : Wk h O h1 O1) (v : Val h O w) : Val h1 O1 w where
  per := fun b o e => (p.from_ b o e).elim (v.per b o) (v.own b o)
  own := fun b o e => v.own b o (p.sub b o e)
  nodup := p.nodup v.nodup
  apart := p.apart v.nodup v.apart

theorem Step.wk {h h1 h' : View} {O O1 O' : Hp} {w w' : World} (p : Wk h O h1 O1) (q : Step h1 O1 w h' O' w') : Step h O w h' O' w' where
  os := q.os
  tape := q.tape
  output := q.output
  mono := fun b o e => q.mono b o (p.mono b o e)
  val := q.val
  size := q.size
  kept := fun b hb hn => q.kept b hb (fun o ho => hn o (p.sub b o ho))
  fresh := fun b hb => by
    rcases q.fresh b hb with h2 | h2 | ⟨o, h2⟩
    · cases e : h1 b with
      | none => exact absurd e h2
      | some o => rcases p.from_ b o e with h3 | h3
                  · exact .inl (by rw [h3]; simp)
                  · exact .inr (.inr ⟨o, h3⟩)
    · exact .inr (.inl h2)
    · exact .inr (.inr ⟨o, p.sub b o h2⟩)
  freshO := fun b o hb => (q.freshO b o hb).imp id fun ⟨o', h2⟩ => ⟨o', p.sub b o' h2⟩

/-- Owned blocks may be forgotten: a sublist up to order. -/
theorem Wk.drop {h : View} {O O1 : Hp} (hs : O1.Sublist O) : Wk h O h O1 where
  mono := fun _ _ e => e
  from_ := fun _ _ e => .inl e
  sub := fun _ _ e => hs.mem e
  nodup := fun hn => hn.sublist (hs.map _)
  apart := fun _ ha b o e => ha b o (hs.mem e)

theorem Wk.perm {h : View} {O O1 : Hp} (hp : O.Perm O1) : Wk h O h O1 where
  mono := fun _ _ e => e
  from_ := fun _ _ e => .inl e
  sub := fun _ _ e => hp.mem_iff.2 e
  nodup := fun hn => (hp.map _).nodup_iff.1 hn
  apart := fun _ ha b o e => ha b o (hp.mem_iff.2 e)

/-- The view with some more blocks. -/
def pub (h : View) (E : Hp) : View := fun b => (h b).or ((E.find? (fun p => p.1 == b)).map Prod.snd)

theorem pub_of_mem {h : View} {E : Hp} {b : Nat} {o : Obj} (hn : (E.map Prod.fst).Nodup) (he : (b, o) ∈ E) (hb : h b = none) : pub h E b = some o := by
  simp only [pub, hb, Option.none_or]
  induction E with
  | nil => simp at he
  | cons p E ih =>
    rw [List.map_cons, List.nodup_cons] at hn
    simp only [List.find?_cons]
    by_cases hp : p.1 = b
    · have : (p.1 == b) = true := by simpa using hp
      rw [this]
      rcases List.mem_cons.1 he with h1 | h1
      · rw [← h1]; rfl
      · exact absurd (hp ▸ List.mem_map_of_mem (f := Prod.fst) h1 : p.1 ∈ E.map Prod.fst) hn.1
    · have : (p.1 == b) = false := by simpa using hp
      rw [this]
      rcases List.mem_cons.1 he with h1 | h1
      · exact absurd (by rw [← h1]) hp
      · exact ih hn.2 h1

theorem pub_mono {h : View} {E : Hp} (b : Nat) (o : Obj) (e : h b = some o) : pub h E b = some o := by simp [pub, e]

/-- Owned blocks may be made to stay. -/
theorem Wk.pub {h : View} {E O : Hp} : Wk h (E ++ O) (pub h E) O where
  mono := pub_mono
  from_ := fun b o e => by
    unfold Gv.pub at e
    cases hb : h b with
    | some o' => simp [hb] at e; exact .inl (by rw [e])
    | none =>
      simp only [hb, Option.none_or, Option.map_eq_some_iff] at e
      obtain ⟨p, hp, he⟩ := e
      have h1 := List.find?_some hp
      have h2 := List.mem_of_find?_eq_some hp
      refine .inr (List.mem_append_left _ ?_)
      have : p.1 = b := by simpa using h1
      rw [← this, ← he]; exact h2
  sub := fun _ _ e => List.mem_append_right _ e
  nodup := fun hn => by rw [List.map_append] at hn; exact (List.nodup_append.1 hn).2.1
  apart := fun hn ha b o e => by
    have hb := ha b o (List.mem_append_right _ e)
    unfold Gv.pub
    rw [hb, Option.none_or, Option.map_eq_none_iff, List.find?_eq_none]
    intro p hp hpb
    rw [List.map_append, List.nodup_append] at hn
    have : p.1 = b := by simpa using hpb
    exact hn.2.2 p.1 (List.mem_map_of_mem hp) b (List.mem_map_of_mem (f := Prod.fst) e) this

end Gv
end Go
/- The stops of the logic and the operations that only compute or read: what each asks, and that the model's run answers so. -/
namespace Go
namespace Gv

def getS : List Value → Nat → Value
  | [], _ => undef
  | v :: _, 0 => v
  | _ :: l, n + 1 => getS l n
def getK : List Value → Nat → (Value → Prop) → Prop
  | [], _, K => K undef
  | v :: _, 0, K => K v
  | _ :: l, n + 1, K => getK l n K
theorem getK_eq (s : List Value) (n : Nat) (K : Value → Prop) : getK s n K = K (getS s n) := by
  induction s generalizing n with
  | nil => cases n <;> rfl
  | cons v l ih => cases n with
    | zero => rfl
    | succ n => exact ih n
theorem getS_eq (s : List Value) (n : Nat) : getS s n = s.getD n undef := by
  induction s generalizing n with
  | nil => cases n <;> rfl
  | cons v l ih => cases n with
    | zero => rfl
    | succ n => simpa [getS] using ih n
def evS (s : List Value) : Operand → Value
  | .tmp t => getS s t
  | .const v => v
  | .global g => .pointer (some ⟨g, 0, none⟩)
  | .func f => .func (.func f) #[] #[]
def evK (s : List Value) (x : Operand) (K : Value → Prop) : Prop :=
  match x with
  | .tmp t => getK s t K
  | .const v => K v
  | .global g => K (.pointer (some ⟨g, 0, none⟩))
  | .func f => K (.func (.func f) #[] #[])
theorem evK_eq (s : List Value) (x : Operand) (K : Value → Prop) : evK s x K = K (evS s x) := by cases x <;> simp [evK, evS, getK_eq]
theorem eval_eq {a : Act} {s : List Value} (h : a.tmps = ⟨s⟩) (x : Operand) : a.eval x = evS s x := by
  cases x with
  | tmp t => simp only [Act.eval, evS, getS_eq, h, List.getD_eq_getElem?_getD]; simp
  | _ => rfl

/-! ## stops -/
def natOp : BinOp → Nat → Nat → Nat
  | .and, a, b => a &&& b
  | .or, a, b => a ||| b
  | .xor, a, b => a ^^^ b
  | _, _, _ => 0
inductive NW (k : IntKind) (n : Int) (K : Value → Prop) : Prop
  | mk (h : K (.int k (k.wrap n)))
inductive Cmp (p : Prop) (K : Value → Prop) : Prop
  | mk (h1 : p → K (.bool true)) (h2 : ¬ p → K (.bool false))
inductive OnBB (b : Bool) (K : Bool → Prop) : Prop
  | mk (h1 : b = true → K true) (h2 : b = false → K false)
def OnB (v : Value) (K : Bool → Prop) : Prop := match v with | .bool b => OnBB b K | _ => False
inductive Bits (op : BinOp) (k : IntKind) (a b : Int) (K : Value → Prop) : Prop
  | mk (v : Value) (h : ∀ (P : Program) (w : World), (Op.intBits op k a b).run P w = .ok v w) (hk : K v)
inductive DivSt (op : BinOp) (k : IntKind) (a b : Int) (K : Value → Prop) : Prop
  | mk (hb : b ≠ 0) (h : K (match op with | .quo => .int k (k.wrap (a.tdiv b)) | _ => .int k (a.tmod b)))
inductive ShSt (op : BinOp) (k : IntKind) (a b : Int) (K : Value → Prop) : Prop
  | mk (hb : 0 ≤ b) (h : K (match op with | .shl => .int k (k.wrap (a * 2 ^ (min b.toNat k.bits))) | _ => .int k (a.fdiv (2 ^ (min b.toNat k.bits)))))
inductive StrAdd (a b : List UInt8) (K : Value → Prop) : Prop
  | mk (h : a.length + b.length ≤ 9223372036854775807) (hk : K (.string ⟨⟨a ++ b⟩⟩))
inductive StrIdx (l : List UInt8) (i : Int) (K : Value → Prop) : Prop
  | mk (hi : 0 ≤ i) (hl : i < l.length) (hk : K (.int .u8 ((l.getD i.toNat 0).toNat : Int)))
inductive StrSl (l : List UInt8) (lo hi : Option Value) (K : Value → Prop) : Prop
  | mk (a b : Nat) (ha : lo = none ∧ a = 0 ∨ ∃ k, lo = some (.int k a)) (hb : hi = none ∧ b = l.length ∨ ∃ k, hi = some (.int k b)) (hab : a ≤ b) (hbl : b ≤ l.length) (hk : K (.string ⟨⟨(l.take b).drop a⟩⟩))
inductive IdxSl (a : Option Addr) (len : Nat) (i : Int) (sz : Nat) (K : Value → Prop) : Prop
  | mk (hi : 0 ≤ i) (hl : i < len) (b o : Nat) (ha : a = some ⟨b, o, none⟩) (hk : K (.pointer (some ⟨b, o + i.toNat * sz, none⟩)))
inductive IdxArrP (n : Nat) (i : Int) (b off sz : Nat) (K : Value → Prop) : Prop
  | mk (hi : 0 ≤ i) (hl : i < n) (hk : K (.pointer (some ⟨b, off + i.toNat * sz, none⟩)))
inductive IdxArr (n : Nat) (i : Int) (K : Nat → Prop) : Prop
  | mk (hi : 0 ≤ i) (hl : i < n) (hk : K i.toNat)
inductive SlSl (a : Option Addr) (len cap : Nat) (lo hi mx : Option Value) (sz : Nat) (K : Value → Prop) : Prop
  | mk (l h m : Nat) (hlo : lo = none ∧ l = 0 ∨ ∃ k, lo = some (.int k l)) (hhi : hi = none ∧ mx = none ∧ h = len ∨ ∃ k, hi = some (.int k h)) (hmx : mx = none ∧ m = cap ∨ ∃ k, mx = some (.int k m))
      (h1 : l ≤ h) (h2 : h ≤ m) (h3 : m ≤ cap) (hk : K (.slice (if m = l then a else a.map (·.add (l * sz))) (h - l) (m - l)))
/-- The cells of a block. -/
def objCell : Obj → Nat → Option Value
  | .cells c _ _, i => c[i]?
  | _, _ => none
inductive Lk (h : View) (O : Hp) (b : Nat) (o : Obj) : Prop
  | own (m : (b, o) ∈ O) : Lk h O b o
  | per (e : h b = some o) : Lk h O b o
inductive LoadSt (h : View) (O : Hp) (b off : Nat) : Option Nat → (Value → Prop) → Prop
  | one (K : Value → Prop) (o : Obj) (hl : Lk h O b o) (c : Value) (hc : objCell o off = some c) (hk : K c) : LoadSt h O b off none K
  | agg (K : Value → Prop) (n : Nat) (o : Obj) (hl : Lk h O b o) (cs : List Value) (hn : cs.length = n) (hc : ∀ j v, cs[j]? = some v → objCell o (off + j) = some v) (hk : K (.agg ⟨cs⟩)) : LoadSt h O b off (some n) K
inductive EqSt (P : Program) (t : TypeId) (x y : Value) (K : Bool → Prop) : Prop
  | mk (r : Bool) (hg : P.eqGuardType P.depth t = false) (h : ∀ w, (Op.equal t x y).run P w = .ok r w) (hk : K r)
inductive ToStr (h : View) (O : Hp) (x : Value) (K : Value → Prop) : Prop
  | mk (l : List UInt8) (hr : ∀ (P : Program) w, Val h O w → (Conv.bytesToString x).run P w = .ok (.string ⟨⟨l⟩⟩) w) (hk : K (.string ⟨⟨l⟩⟩))
inductive MapLen (h : View) (O : Hp) (r : Nat) (K : Value → Prop) : Prop
  | mk (es : Array MapEntry) (c : Nat) (hl : Lk h O r (.map es c)) (hk : K (.int .i64 es.size))
inductive LookSt (P : Program) (h : View) (O : Hp) (t : TypeId) (m k : Value) (ok : Bool) (K : Value → Prop) : Prop
  | mk (v : Value) (hr : ∀ w, Val h O w → (Instr.lookup t m k ok).run P w = .ok v w) (hk : K v)
inductive MinMax (mx : Bool) (vs : List Value) (K : Value → Prop) : Prop
  | mk (v : Value) (hr : ∀ (P : Program) w, ((if mx then Builtin.max_ #[] 0 ⟨vs⟩ else Builtin.min_ #[] 0 ⟨vs⟩)).run P w = .ok v w) (hk : K v)

theorem Lk.at {h : View} {O : Hp} {b : Nat} {o : Obj} {w : World} (hl : Lk h O b o) (v : Val h O w) : w.heap[b]? = some o := by
  cases hl with
  | own m => exact v.own b o m
  | per e => exact v.per b o e

theorem cell_of {w : World} {b off : Nat} {o : Obj} {c : Value} (h : w.heap[b]? = some o) (hc : objCell o off = some c) : w.cell? ⟨b, off, none⟩ = some c := by
  unfold World.cell?
  simp only [h]
  cases o <;> simp_all [objCell]

def kindEq : IntKind → IntKind → Bool
  | .i8, .i8 | .i16, .i16 | .i32, .i32 | .i64, .i64 | .u8, .u8 | .u16, .u16 | .u32, .u32 | .u64, .u64 => true
  | _, _ => false
theorem kindEq_eq {j k : IntKind} (h : kindEq j k = true) : j = k := by cases j <;> cases k <;> first | rfl | cases h

def intK (op : BinOp) (k k' : IntKind) (a b : Int) (K : Value → Prop) : Prop :=
  match op with
  | .shl => ShSt .shl k a b K
  | .shr => ShSt .shr k a b K
  | op => match kindEq k k' with
    | false => False
    | true => match op with
      | .add => NW k (a + b) K
      | .sub => NW k (a - b) K
      | .mul => NW k (a * b) K
      | .quo => DivSt .quo k a b K
      | .rem => DivSt .rem k a b K
      | .and => Bits .and k a b K
      | .or => Bits .or k a b K
      | .xor => Bits .xor k a b K
      | .andNot => Bits .andNot k a b K
      | .eql => Cmp (a = b) K
      | .neq => Cmp (¬ a = b) K
      | .lss => Cmp (a < b) K
      | .leq => Cmp (a ≤ b) K
      | .gtr => Cmp (b < a) K
      | .geq => Cmp (b ≤ a) K
      | _ => False
def strK (op : BinOp) (a b : List UInt8) (K : Value → Prop) : Prop :=
  match op with
  | .add => StrAdd a b K
  | .eql => Cmp (a = b) K
  | .neq => Cmp (¬ a = b) K
  | .lss => Cmp (Op.bytesLess a b = true) K
  | .leq => Cmp (Op.bytesLess a b = true ∨ a = b) K
  | .gtr => Cmp (¬ (Op.bytesLess a b = true ∨ a = b)) K
  | .geq => Cmp (¬ Op.bytesLess a b = true) K
  | _ => False
/-- == of values that are neither integers nor strings. -/
def eqlK (P : Program) (t : TypeId) (x y : Value) (K : Bool → Prop) : Prop :=
  match x, y with
  | .bool a, .bool b => match P.underlying t with | some .bool => OnBB (a == b) K | _ => False
  | .pointer (some _), .pointer none => match P.underlying t with | some (.pointer _) => K false | _ => False
  | .pointer none, .pointer none => match P.underlying t with | some (.pointer _) => K true | _ => False
  | .slice a _ _, .slice none _ _ => match P.underlying t with | some (.slice _) => OnBB a.isNone K | _ => False
  | .map a, .map none => match P.underlying t with | some (.map _ _) => OnBB a.isNone K | _ => False
  | .agg a, .agg b => EqSt P t (.agg a) (.agg b) K
  | _, _ => False
/-- A string's bytes. -/
def strL (b : ByteArray) (F : List UInt8 → Prop) : Prop := match b with | ⟨⟨l⟩⟩ => F l
theorem strL_eq (b : ByteArray) (F : List UInt8 → Prop) : strL b F = F b.data.toList := by obtain ⟨⟨l⟩⟩ := b; rfl
def binK (P : Program) (op : BinOp) (t : TypeId) (x y : Value) (K : Value → Prop) : Prop :=
  match x, y with
  | .int k a, .int k' b => intK op k k' a b K
  | .string a, .string b => strL a fun a => strL b fun b => strK op a b K
  | x, y => match op with
    | .eql => eqlK P t x y fun r => match r with | true => K (.bool true) | false => K (.bool false)
    | .neq => eqlK P t x y fun r => match r with | true => K (.bool false) | false => K (.bool true)
    | _ => False

end Gv
end Go
/- The operations that only compute or read: their runs. -/
namespace Go
namespace Gv
variable {P : Program}

theorem intK_run {op : BinOp} {k k' : IntKind} {a b : Int} {K : Value → Prop} (h : intK op k k' a b K) (t : TypeId) :
    ∃ v, K v ∧ ∀ w, (binOp op t (.int k a) (.int k' b)).run P w = .ok v w := by
  unfold intK at h
  split at h
  · cases h with | mk hb h => exact ⟨_, h, fun w => by simp [binOp, Op.shift, Int.not_lt.2 hb]⟩
  · cases h with | mk hb h => exact ⟨_, h, fun w => by simp [binOp, Op.shift, Int.not_lt.2 hb]⟩
  · rename_i h1 h2
    split at h
    · exact h.elim
    · rename_i hk
      have := kindEq_eq hk
      subst this
      split at h
      · cases h with | mk h => exact ⟨_, h, fun w => by simp [binOp, Op.intArith]⟩
      · cases h with | mk h => exact ⟨_, h, fun w => by simp [binOp, Op.intArith]⟩
      · cases h with | mk h => exact ⟨_, h, fun w => by simp [binOp, Op.intArith]⟩
      · cases h with | mk hb h => exact ⟨_, h, fun w => by simp [binOp, Op.intDiv, hb]⟩
      · cases h with | mk hb h => exact ⟨_, h, fun w => by simp [binOp, Op.intDiv, hb]⟩
      · cases h with | mk v h hk => exact ⟨v, hk, fun w => by simpa [binOp] using h P w⟩
      · cases h with | mk v h hk => exact ⟨v, hk, fun w => by simpa [binOp] using h P w⟩
      · cases h with | mk v h hk => exact ⟨v, hk, fun w => by simpa [binOp] using h P w⟩
      · cases h with | mk v h hk => exact ⟨v, hk, fun w => by simpa [binOp] using h P w⟩
      · cases h with | mk h1 h2 => by_cases hp : a = b
                                   · exact ⟨_, h1 hp, fun w => by simp [binOp, Op.intCmp, hp]⟩
                                   · exact ⟨_, h2 hp, fun w => by simp [binOp, Op.intCmp, hp]⟩
      · cases h with | mk h1 h2 => by_cases hp : a = b
                                   · exact ⟨_, h2 (fun h => h hp), fun w => by simp [binOp, Op.intCmp, hp]⟩
                                   · exact ⟨_, h1 hp, fun w => by simp [binOp, Op.intCmp, hp]⟩
      · cases h with | mk h1 h2 => by_cases hp : a < b
                                   · exact ⟨_, h1 hp, fun w => by simp [binOp, Op.intCmp, hp]⟩
                                   · exact ⟨_, h2 hp, fun w => by simp [binOp, Op.intCmp, hp]⟩
      · cases h with | mk h1 h2 => by_cases hp : a ≤ b
                                   · exact ⟨_, h1 hp, fun w => by simp [binOp, Op.intCmp, hp]⟩
                                   · exact ⟨_, h2 hp, fun w => by simp [binOp, Op.intCmp, hp]⟩
      · cases h with | mk h1 h2 => by_cases hp : b < a
                                   · exact ⟨_, h1 hp, fun w => by simp [binOp, Op.intCmp, hp]⟩
                                   · exact ⟨_, h2 hp, fun w => by simp [binOp, Op.intCmp, hp]⟩
      · cases h with | mk h1 h2 => by_cases hp : b ≤ a
                                   · exact ⟨_, h1 hp, fun w => by simp [binOp, Op.intCmp, hp]⟩
                                   · exact ⟨_, h2 hp, fun w => by simp [binOp, Op.intCmp, hp]⟩
      · exact h.elim

theorem toList_data (a : ByteArray) : a.toList = a.data.toList := by
  exact ByteArray.toList_eq a
theorem str_eq (a b : ByteArray) : (a.toList == b.toList) = decide (a.data.toList = b.data.toList) := by
  rw [toList_data, toList_data]
  by_cases h : a.data.toList = b.data.toList
  · rw [h]; simp
  · rw [decide_eq_false h]; exact beq_eq_false_iff_ne.2 h

theorem Cmp.run {p : Prop} [Decidable p] {K : Value → Prop} (h : Cmp p K) : K (.bool (decide p)) := by
  cases h with | mk h1 h2 => by_cases hp : p
                             · simpa [hp] using h1 hp
                             · simpa [hp] using h2 hp

theorem strK_run {op : BinOp} {a b : ByteArray} {K : Value → Prop} (h : strK op a.data.toList b.data.toList K) (t : TypeId) :
    ∃ v, K v ∧ ∀ w, (binOp op t (.string a) (.string b)).run P w = .ok v w := by
  unfold strK at h
  split at h
  · cases h with | mk h hk =>
      refine ⟨_, hk, fun w => ?_⟩
      have h' : ¬ ((a.size + b.size : Nat) : Int) > IntKind.i64.max := by
        have e1 : a.size = a.data.toList.length := by cases a; rfl
        have e2 : b.size = b.data.toList.length := by cases b; rfl
        have e3 : IntKind.i64.max = 9223372036854775807 := by decide
        rw [e1, e2, e3]; omega
      have e : a ++ b = ⟨⟨a.data.toList ++ b.data.toList⟩⟩ := by
        apply ByteArray.ext; apply Array.ext'; simp [ByteArray.data_append]
      simp only [binOp, Op.stringOp, h', if_false]
      rw [e]; rfl
  · refine ⟨_, h.run, fun w => ?_⟩
    show (Sem.pure (Value.bool (a.toList == b.toList))).run P w = _
    rw [str_eq]; rfl
  · refine ⟨_, h.run, fun w => ?_⟩
    show (Sem.pure (Value.bool (!(a.toList == b.toList)))).run P w = _
    rw [str_eq, decide_not]; rfl
  · exact ⟨_, h.run, fun w => by simp only [binOp, Op.stringOp, toList_data, Bool.decide_eq_true]; rfl⟩
  · exact ⟨_, h.run, fun w => by simp only [binOp, Op.stringOp, str_eq, Bool.decide_or, Bool.decide_eq_true]; simp only [toList_data]; rfl⟩
  · exact ⟨_, h.run, fun w => by simp only [binOp, Op.stringOp, str_eq, decide_not, Bool.decide_or, Bool.decide_eq_true]; simp only [toList_data]; rfl⟩
  · exact ⟨_, h.run, fun w => by simp only [binOp, Op.stringOp, toList_data, decide_not, Bool.decide_eq_true]; rfl⟩
  · exact h.elim

theorem OnBB.run {b : Bool} {K : Bool → Prop} (h : OnBB b K) : K b := by
  cases h with | mk h1 h2 => cases b
                             · exact h2 rfl
                             · exact h1 rfl

theorem equal_def (t : TypeId) (x y : Value) : Op.equal t x y = Op.equalIn (9999 + 1) t x y := rfl
theorem guard_def (t : TypeId) (x y : Value) : Op.eqGuardIn Op.maxDepth t x y = Op.eqGuardIn (9999 + 1) t x y := rfl
theorem eqGuard_agg {op : BinOp} {t : TypeId} {xo yo : Operand} {x y : Array Value} (h : P.eqGuardType P.depth t = false)
    (w : World) : (eqGuard op t xo yo (.agg x) (.agg y)).run P w = .ok () w := by
  have key : ∀ z : Sem Unit, ((do
      if !(← program).eqGuardType (← program).depth t then return
      if ← Op.eqGuardIn Op.maxDepth t (.agg x) (.agg y) then z) : Sem Unit).run P w = .ok () w := by
    intro z
    simp only [Sem.run_bind, run_program, Result.andThen_ok, h]
    rfl
  cases op <;> first | rfl | exact key _

theorem eqlK_run {t : TypeId} {x y : Value} {K : Bool → Prop} (h : eqlK P t x y K) :
    ∃ r, K r ∧ (∀ w, (Op.equal t x y).run P w = .ok r w) ∧
      (binOp .eql t x y = (do pure (.bool (← Op.equal t x y)) : Sem Value)) ∧ (binOp .neq t x y = (do pure (.bool (!(← Op.equal t x y))) : Sem Value)) ∧
      (∀ op xo yo w, (eqGuard op t xo yo x y).run P w = .ok () w) := by
  unfold eqlK at h
  simp only [equal_def, guard_def]
  split at h
  · split at h
    · rename_i ht
      exact ⟨_, h.run, fun w => by rw [Op.equalIn]; simp [run_underlying ht], rfl, rfl, fun op _ _ _ => by cases op <;> rfl⟩
    · exact h.elim
  · split at h
    · rename_i ht
      exact ⟨_, h, fun w => by rw [Op.equalIn]; simp [run_underlying ht], rfl, rfl, fun op _ _ _ => by cases op <;> rfl⟩
    · exact h.elim
  · split at h
    · rename_i ht
      exact ⟨_, h, fun w => by rw [Op.equalIn]; simp [run_underlying ht], rfl, rfl, fun op _ _ _ => by cases op <;> rfl⟩
    · exact h.elim
  · rename_i a _ _ _ _
    split at h
    · rename_i ht
      refine ⟨_, h.run, fun w => ?_, rfl, rfl, fun op _ _ _ => by cases op <;> rfl⟩
      cases a <;> (rw [Op.equalIn]; simp [run_underlying ht])
    · exact h.elim
  · rename_i a
    split at h
    · rename_i ht
      refine ⟨_, h.run, fun w => ?_, rfl, rfl, fun op _ _ _ => by cases op <;> rfl⟩
      cases a <;> (rw [Op.equalIn]; simp [run_underlying ht])
    · exact h.elim
  · cases h with | mk r hg h hk => exact ⟨r, hk, h, rfl, rfl, fun _ _ _ w => eqGuard_agg hg w⟩
  · exact h.elim

theorem eqGuard_other {op : BinOp} {t : TypeId} {xo yo : Operand} {x y : Value} (h : (∃ k n, x = .int k n) ∨ (∃ s, x = .string s)) (w : World) :
    (eqGuard op t xo yo x y).run P w = .ok () w := by
  rcases h with ⟨k, n, rfl⟩ | ⟨s, rfl⟩ <;> cases op <;> rfl

theorem binK_run {op : BinOp} {t : TypeId} {xo yo : Operand} {x y : Value} {K : Value → Prop} (h : binK P op t x y K) :
    ∃ v, K v ∧ ∀ w, ((do eqGuard op t xo yo x y; binOp op t x y : Sem Value)).run P w = .ok v w := by
  unfold binK at h
  split at h
  · obtain ⟨v, hk, hr⟩ := intK_run (P := P) h t
    exact ⟨v, hk, fun w => by simp only [Sem.run_bind, eqGuard_other (.inl ⟨_, _, rfl⟩), Result.andThen_ok, hr]⟩
  · rw [strL_eq, strL_eq] at h; obtain ⟨v, hk, hr⟩ := strK_run (P := P) h t
    exact ⟨v, hk, fun w => by simp only [Sem.run_bind, eqGuard_other (.inr ⟨_, rfl⟩), Result.andThen_ok, hr]⟩
  · split at h
    · obtain ⟨r, hk, hr, h1, h2, hn⟩ := eqlK_run h
      refine ⟨.bool r, by cases r <;> exact hk, fun w => ?_⟩
      simp only [Sem.run_bind, hn, Result.andThen_ok, h1, hr, Sem.run_pure]
    · obtain ⟨r, hk, hr, h1, h2, hn⟩ := eqlK_run h
      refine ⟨.bool !r, by cases r <;> exact hk, fun w => ?_⟩
      simp only [Sem.run_bind, hn, Result.andThen_ok, h2, hr, Sem.run_pure]
    · exact h.elim
end Gv
end Go
/- The operations that only compute or read: the whole table, and that the model's run answers so. -/
namespace Go
namespace Gv
variable {P : Program}

def nthK : List Value → Nat → (Value → Prop) → Prop
  | [], _, _ => False
  | v :: _, 0, K => K v
  | _ :: l, n + 1, K => nthK l n K
theorem nthK_some {l : List Value} {n : Nat} {K : Value → Prop} (h : nthK l n K) : ∃ v, l[n]? = some v ∧ K v := by
  induction l generalizing n with
  | nil => exact h.elim
  | cons v l ih => cases n with
    | zero => exact ⟨v, rfl, h⟩
    | succ n => simpa using ih h
def cellsL : Value → List Value
  | .agg cs => cs.toList
  | v => [v]
theorem cellsL_eq (v : Value) : v.cells.toList = cellsL v := by cases v <;> rfl
def setRange : List Value → Nat → List Value → List Value
  | [], _, _ => []
  | l, _, [] => l
  | _ :: l, 0, v :: vs => v :: setRange l 0 vs
  | x :: l, n + 1, vs => x :: setRange l n vs
def setRangeK : List Value → Nat → List Value → (List Value → Prop) → Prop
  | [], _, _, K => K []
  | l, _, [], K => K l
  | _ :: l, 0, v :: vs, K => setRangeK l 0 vs fun r => K (v :: r)
  | x :: l, n + 1, vs, K => setRangeK l n vs fun r => K (x :: r)
theorem setRangeK_eq (l : List Value) (n : Nat) (vs : List Value) (K : List Value → Prop) : setRangeK l n vs K = K (setRange l n vs) := by
  induction l generalizing n vs K with
  | nil => cases n <;> cases vs <;> rfl
  | cons x l ih => cases n <;> cases vs <;> simp [setRangeK, setRange, ih]
theorem setRange_length (l : List Value) (n : Nat) (vs : List Value) : (setRange l n vs).length = l.length := by
  induction l generalizing n vs with
  | nil => cases n <;> cases vs <;> rfl
  | cons x l ih => cases n <;> cases vs <;> simp [setRange, ih]
theorem setRange_get (l : List Value) (n : Nat) (vs : List Value) (i : Nat) :
    (setRange l n vs)[i]? = if n ≤ i ∧ i < n + vs.length ∧ i < l.length then vs[i - n]? else l[i]? := by
  induction l generalizing n vs i with
  | nil => cases n <;> cases vs <;> simp [setRange]
  | cons x l ih =>
    cases vs with
    | nil => cases n <;> simp [setRange] <;> omega
    | cons v vs =>
      cases n with
      | zero =>
        cases i with
        | zero => simp [setRange]
        | succ i =>
          simp only [setRange, List.getElem?_cons_succ, ih, Nat.sub_zero, List.length_cons]
          by_cases hc : i < vs.length ∧ i < l.length
          · rw [if_pos (by omega), if_pos (by omega)]
          · rw [if_neg (by omega), if_neg (by omega)]
      | succ n =>
        cases i with
        | zero => simp [setRange]
        | succ i =>
          simp only [setRange, List.getElem?_cons_succ, ih, List.length_cons]
          by_cases hc : n ≤ i ∧ i < n + (vs.length + 1) ∧ i < l.length
          · rw [if_pos hc, if_pos (by omega)]; congr 1; omega
          · rw [if_neg hc, if_neg (by omega)]
theorem foldl_set (vs : List Value) : ∀ (k off : Nat) (cs : Array Value), off + k + vs.length ≤ cs.size →
    (vs.zipIdx k).foldl (fun cs x => cs.setIfInBounds (off + x.2) x.1) cs = ⟨setRange cs.toList (off + k) vs⟩ := by
  induction vs with
  | nil => intro k off cs _; simp [setRange]; cases cs with | mk l => cases l <;> simp [setRange]
  | cons v vs ih =>
    intro k off cs hb
    simp only [List.length_cons] at hb
    simp only [List.zipIdx_cons, List.foldl_cons]
    rw [ih (k + 1) off _ (by simp; omega)]
    congr 1
    apply List.ext_getElem?
    intro i
    simp only [setRange_get, Array.toList_setIfInBounds, List.length_set, List.length_cons, List.getElem?_set, Array.length_toList]
    by_cases h1 : off + k = i
    · subst h1
      rw [if_neg (by omega), if_pos rfl, if_pos (by omega), if_pos (by omega)]; simp
    · rw [if_neg h1]
      by_cases h2 : off + (k + 1) ≤ i ∧ i < off + (k + 1) + vs.length ∧ i < cs.size
      · rw [if_pos h2, if_pos (by omega)]
        have : i - (off + k) = (i - (off + (k + 1))) + 1 := by omega
        rw [this]; simp
      · rw [if_neg h2, if_neg (by omega)]
/-- The parts of a struct or an array, laid into its cells. -/
def fillK (s : List Value) (place : Nat → Option (Nat × Nat)) : List Value → List (Nat × Operand) → (List Value → Prop) → Prop
  | cells, [], K => K cells
  | cells, (i, x) :: rest, K => evK s x fun v => match place i with
    | none => False
    | some (off, size) => match Nat.beq (cellsL v).length size, Nat.ble (off + (cellsL v).length) cells.length with
      | true, true => setRangeK cells off (cellsL v) fun cells' => fillK s place cells' rest K
      | _, _ => False
theorem fillK_run {s : List Value} {place : Nat → Option (Nat × Nat)} {parts : List (Nat × Operand)} {cells : List Value} {K : List Value → Prop} (h : fillK s place cells parts K) :
    ∃ r, Instr.fill place ⟨cells⟩ (parts.map fun p => (p.1, evS s p.2)) = some ⟨r⟩ ∧ K r := by
  induction parts generalizing cells with
  | nil => exact ⟨cells, rfl, h⟩
  | cons p parts ih =>
    obtain ⟨i, x⟩ := p
    simp only [fillK, evK_eq] at h
    split at h
    · exact h.elim
    · rename_i off size hp
      split at h
      · rename_i hb1 hb2
        rw [setRangeK_eq] at h
        obtain ⟨r, hr, hk⟩ := ih h
        refine ⟨r, ?_, hk⟩
        have e1 : (evS s x).cells.size = (cellsL (evS s x)).length := by rw [← cellsL_eq]; simp
        have hs := Nat.eq_of_beq_eq_true hb1
        have hl := Nat.le_of_ble_eq_true hb2
        simp only [List.map_cons, Instr.fill, hp, e1, hs, ne_eq, not_true_eq_false, decide_false, Bool.false_or, decide_eq_true_eq]
        rw [if_neg (by rw [← hs]; simp; omega), ← hr]
        congr 1
        have := foldl_set (evS s x).cells.toList 0 off ⟨cells⟩ (by simp [e1]; omega)
        simp only [Nat.add_zero] at this
        rw [← Array.foldl_toList, Array.toList_zipIdx]
        rw [cellsL_eq] at this ⊢
        exact this
      · exact h.elim

/-! ## operations that read or compute -/
def unK (op : UnOp) (v : Value) (K : Value → Prop) : Prop :=
  match op, v with
  | .not, .bool b => OnBB b fun t => match t with | true => K (.bool false) | false => K (.bool true)
  | .neg, .int k n => NW k (0 - n) K
  | .xor, .int k n => Bits .xor k (if k.signed then -1 else k.max) n K
  | _, _ => False
def convK (P : Program) (src dst : TypeId) (v : Value) (h : View) (O : Hp) (K : Value → Prop) : Prop :=
  match P.underlying dst, v with
  | some (.int k), .int _ n => match P.underlying src with | some _ => NW k n K | none => False
  | some .string, .string b => match P.underlying src with | some .string => K (.string b) | _ => False
  | some .string, .slice a n c => match P.underlying src with
    | some (.slice e) => match P.underlying e with
      | some (.int .u8) => ToStr h O (.slice a n c) K
      | _ => False
    | _ => False
  | _, _ => False
def aggSize (P : Program) (t : TypeId) : Option (Option Nat) :=
  match P.underlying t with
  | some (.struct _) | some (.array _ _) => match P.info? t with | some i => some (some i.size) | none => none
  | some _ => some none
  | none => none
def loadK (P : Program) (t : TypeId) (v : Value) (h : View) (O : Hp) (K : Value → Prop) : Prop :=
  match v with
  | .pointer (some ⟨b, off, none⟩) => match aggSize P t with
    | some n => LoadSt h O b off n K
    | none => False
  | _ => False
def fieldK (P : Program) (t : TypeId) (v : Value) (f : Nat) (K : Value → Prop) : Prop :=
  match v with
  | .pointer (some ⟨b, off, none⟩) => match P.underlying t with
    | some (.struct fs) => match fs.toList[f]? with
      | some fd => match P.info? fd.type with
        | some i => match i.size with
          | 0 => False
          | _ + 1 => K (.pointer (some ⟨b, off + fd.offset, none⟩))
        | none => False
      | none => False
    | _ => False
  | _ => False
def idxAddrK (P : Program) (t : TypeId) (v i : Value) (K : Value → Prop) : Prop :=
  match i with
  | .int _ n => match P.underlying t with
    | some (.slice e) => match v with
      | .slice a len _ => match P.info? e with
        | some inf => IdxSl a len n inf.size K
        | none => False
      | _ => False
    | some (.array len e) => match v with
      | .pointer (some ⟨b, off, none⟩) => match P.info? e with
        | some inf => IdxArrP len n b off inf.size K
        | none => False
      | _ => False
    | _ => False
  | _ => False
inductive ArrIdx (cs : List Value) (n : Nat) (i : Int) (K : Value → Prop) : Prop
  | mk (hi : 0 ≤ i) (hl : i < n) (c : Value) (hc : cs[i.toNat]? = some c) (hk : K c)
def indexK (P : Program) (t : TypeId) (v i : Value) (K : Value → Prop) : Prop :=
  match i with
  | .int _ n => match P.underlying t with
    | some .string => match v with
      | .string b => strL b fun l => StrIdx l n K
      | _ => False
    | some (.array len e) => match v with
      | .agg cs => match aggSize P e, P.info? e with
        | some none, some inf => match inf.size with
          | 1 => ArrIdx cs.toList len n K
          | _ => False
        | _, _ => False
      | _ => False
    | _ => False
  | _ => False
def fieldValK (P : Program) (t : TypeId) (v : Value) (f : Nat) (K : Value → Prop) : Prop :=
  match v with
  | .agg cs => match P.underlying t with
    | some (.struct fs) => match fs.toList[f]? with
      | some fd => match aggSize P fd.type with
        | some none => nthK cs.toList fd.offset K
        | _ => False
      | none => False
    | _ => False
  | _ => False
def optK (s : List Value) (x : Option Operand) (K : Option Value → Prop) : Prop :=
  match x with
  | none => K none
  | some x => evK s x fun v => K (some v)
theorem optK_eq (s : List Value) (x : Option Operand) (K : Option Value → Prop) : optK s x K = K (x.map (evS s)) := by cases x <;> simp [optK, evK_eq]
def sliceK (P : Program) (t : TypeId) (v : Value) (lo hi mx : Option Value) (K : Value → Prop) : Prop :=
  match P.underlying t with
  | some .string => match v, mx with
    | .string b, none => strL b fun l => StrSl l lo hi K
    | _, _ => False
  | some (.slice e) => match v with
    | .slice a len cap => match P.info? e with
      | some inf => SlSl a len cap lo hi mx inf.size K
      | none => False
    | _ => False
  | _ => False
def lenK (P : Program) (t : TypeId) (v : Value) (h : View) (O : Hp) (K : Value → Prop) : Prop :=
  match P.underlying t with
  | some .string => match v with | .string b => strL b fun l => K (.int .i64 l.length) | _ => False
  | some (.slice _) => match v with | .slice _ n _ => K (.int .i64 n) | _ => False
  | some (.array n _) => K (.int .i64 n)
  | some (.map _ _) => match v with | .map none => K (.int .i64 0) | .map (some r) => MapLen h O r K | _ => False
  | _ => False
def capK (P : Program) (t : TypeId) (v : Value) (K : Value → Prop) : Prop :=
  match P.underlying t with
  | some (.slice _) => match v with | .slice _ _ n => K (.int .i64 n) | _ => False
  | some (.array n _) => K (.int .i64 n)
  | _ => False
def evsK (s : List Value) : List Operand → (List Value → Prop) → Prop
  | [], K => K []
  | x :: xs, K => evK s x fun v => evsK s xs fun vs => K (v :: vs)
theorem evsK_eq (s : List Value) (xs : List Operand) (K : List Value → Prop) : evsK s xs K = K (xs.map (evS s)) := by
  induction xs generalizing K with
  | nil => rfl
  | cons x xs ih => simp [evsK, evK_eq, ih]
def placeOf (P : Program) (t : TypeId) : Option (Nat → Option (Nat × Nat)) :=
  match P.underlying t with
  | some (.struct fs) => some fun i => match fs.toList[i]? with
    | some f => match P.info? f.type with
      | some inf => some (f.offset, inf.size)
      | none => none
    | none => none
  | some (.array _ e) => match P.info? e with
    | some inf => some fun i => some (i * inf.size, inf.size)
    | none => none
  | _ => none
def buildK (P : Program) (t : TypeId) (s : List Value) (parts : List (Nat × Operand)) (K : Value → Prop) : Prop :=
  match P.info? t with
  | some i => match i.zero with
    | some (.agg z) => match P.underlying t with
      | some (.struct fs) => match fs.toList.all (fun f => (P.info? f.type).isSome) with
        | true => match placeOf P t with
          | some pl => fillK s pl z.toList parts fun cs => K (.agg ⟨cs⟩)
          | none => False
        | false => False
      | some (.array _ _) => match placeOf P t with
          | some pl => fillK s pl z.toList parts fun cs => K (.agg ⟨cs⟩)
          | none => False
      | _ => False
    | _ => False
  | none => False
def lightK (P : Program) (o : Op) (s : List Value) (h : View) (O : Hp) (K : Value → Prop) : Prop :=
  match o with
  | .move x => evK s x K
  | .assign x => evK s x K
  | .pick c a b => evK s c fun v => OnB v fun t => match t with | true => evK s a K | false => evK s b K
  | .binOp op t x y _ => evK s x fun v => evK s y fun u => binK P op t v u K
  | .unOp op _ x => evK s x fun v => unK op v K
  | .convert src dst x => evK s x fun v => convK P src dst v h O K
  | .load t a => evK s a fun v => loadK P t v h O K
  | .nilCheck x => evK s x fun v => match v with
    | .pointer (some a) => K (.pointer (some a))
    | .func (.func f) a b => K (.func (.func f) a b)
    | _ => False
  | .fieldAddr t x f => evK s x fun v => fieldK P t v f K
  | .indexAddr t x i => evK s x fun v => evK s i fun j => idxAddrK P t v j K
  | .field t x f => evK s x fun v => fieldValK P t v f K
  | .index t x i => evK s x fun v => evK s i fun j => indexK P t v j K
  | .slice t x lo hi mx => evK s x fun v => optK s lo fun lo => optK s hi fun hi => optK s mx fun mx => sliceK P t v lo hi mx K
  | .extract x i => evK s x fun v => match v with | .tuple vs => nthK vs.toList i K | _ => False
  | .build t parts => buildK P t s parts.toList K
  | .makeFunc fn first cap => evsK s first.toList fun f => evsK s cap.toList fun c => K (.func fn ⟨f⟩ ⟨c⟩)
  | .makeInterface t x => evK s x fun v => match P.underlying t with
    | some (.interface _) => False
    | some _ => K (.iface t v)
    | none => False
  | .lookup t m k ok => evK s m fun m => evK s k fun k => LookSt P h O t m k ok K
  | .call { callee := .builtin .len, args, argTypes } => evsK s args.toList fun vs => match argTypes.toList, vs with
    | t :: _, v :: _ => lenK P t v h O K
    | _, _ => False
  | .call { callee := .builtin .cap, args, argTypes } => evsK s args.toList fun vs => match argTypes.toList, vs with
    | t :: _, v :: _ => capK P t v K
    | _, _ => False
  | .call { callee := .builtin .max, args, .. } => evsK s args.toList fun vs => MinMax true vs K
  | .call { callee := .builtin .min, args, .. } => evsK s args.toList fun vs => MinMax false vs K
  | _ => False

/-- The run of an operation that changes nothing. -/
def Runs (P : Program) (o : Op) (ty : TypeId) (s : List Value) (h : View) (O : Hp) (v : Value) : Prop :=
  ∀ (a : Act) (w : World) (pos : String) (dst : Option Tmp) (af : Array Edge) (g : Option (Nat × Bool)), a.tmps = ⟨s⟩ → Val h O w →
    (execOp a.eval { dst, op := o, type := ty, pos, after := af, guard := g }).run P w = .ok (.value v) w

end Gv
end Go
/- The operations that only compute or read: soundness. -/
namespace Go
namespace Gv
variable {P : Program}

theorem unK_run {op : UnOp} {v : Value} {K : Value → Prop} (h : unK op v K) : ∃ u, K u ∧ ∀ w, (Op.unary op v).run P w = .ok u w := by
  unfold unK at h
  split at h
  · rename_i b
    exact ⟨.bool !b, by have := h.run; cases b <;> exact this, fun w => rfl⟩
  · cases h with | mk h => exact ⟨_, h, fun w => by simp [Op.unary, Op.intArith]⟩
  · cases h with | mk v h hk => exact ⟨v, hk, fun w => h P w⟩
  · exact h.elim

theorem convK_run {src dst : TypeId} {v : Value} {h : View} {O : Hp} {K : Value → Prop} (hc : convK P src dst v h O K) :
    ∃ u, K u ∧ ∀ w, Val h O w → (convert src dst v).run P w = .ok u w := by
  unfold convK at hc
  split at hc
  · rename_i hd
    split at hc
    · rename_i hs
      cases hc with | mk hk => exact ⟨_, hk, fun w _ => by simp [convert, run_underlying hs, run_underlying hd, Conv.intToInt]⟩
    · exact hc.elim
  · rename_i hd
    split at hc
    · rename_i hs
      exact ⟨_, hc, fun w _ => by simp [convert, run_underlying hs, run_underlying hd]⟩
    · exact hc.elim
  · rename_i hd
    split at hc
    · rename_i hs
      split at hc
      · rename_i he
        cases hc with | mk l hr hk => exact ⟨_, hk, fun w hv => by simp [convert, run_underlying hs, run_underlying hd, run_underlying he, hr P w hv]⟩
      · exact hc.elim
    · exact hc.elim
  · exact hc.elim

theorem aggSize_some {t : TypeId} {n : Option Nat} (h : aggSize P t = some n) :
    (n = none ∧ ∀ w, (isAgg t).run P w = .ok false w) ∨ (∃ m, n = some m ∧ (∀ w, (isAgg t).run P w = .ok true w) ∧ ∀ w, (sizeOf t).run P w = .ok m w) := by
  unfold aggSize at h
  split at h
  · rename_i hu
    split at h
    · rename_i i hi
      simp at h; subst h
      exact .inr ⟨_, rfl, fun w => by simp [isAgg, run_underlying hu], fun w => by simp [sizeOf, typeInfo, hi]⟩
    · simp at h
  · rename_i hu
    split at h
    · rename_i i hi
      simp at h; subst h
      exact .inr ⟨_, rfl, fun w => by simp [isAgg, run_underlying hu], fun w => by simp [sizeOf, typeInfo, hi]⟩
    · simp at h
  · rename_i d h1 h2 hu
    simp at h; subst h
    refine .inl ⟨rfl, fun w => ?_⟩
    simp only [isAgg, Sem.run_bind, run_underlying hu, Result.andThen_ok]
    cases d <;> first | rfl | exact absurd hu (h1 _) | exact absurd hu (h2 _ _)
  · simp at h

theorem addr_add (b o n : Nat) : (⟨b, o, none⟩ : Addr).add n = ⟨b, o + n, none⟩ := by
  unfold Addr.add; split <;> simp_all

theorem loadK_run {t : TypeId} {v : Value} {h : View} {O : Hp} {K : Value → Prop} (hl : loadK P t v h O K) :
    ∃ u, K u ∧ ∀ w, Val h O w → (Instr.loadAt t v).run P w = .ok u w := by
  unfold loadK at hl
  split at hl
  · rename_i b off
    split at hl
    · rename_i n hn
      rcases aggSize_some hn with ⟨rfl, hg⟩ | ⟨m, rfl, hg, hs⟩
      · cases hl with | one K o hl c hc hk =>
          refine ⟨c, hk, fun w hv => ?_⟩
          have := cell_of (hl.at hv) hc
          simp [Instr.loadAt, Instr.sureAddr, loadVar, hg, this]
      · cases hl with | agg K n o hl cs hn hc hk =>
          refine ⟨_, hk, fun w hv => ?_⟩
          have := run_loadCells_list (P := P) w ⟨b, off, none⟩ cs (fun j v hj => by rw [addr_add]; exact cell_of (hl.at hv) (hc j v hj))
          rw [hn] at this
          simp [Instr.loadAt, Instr.sureAddr, loadVar, hg, hs, this]
    · exact hl.elim
  · exact hl.elim

theorem fieldK_run {t : TypeId} {v : Value} {f : Nat} {K : Value → Prop} (h : fieldK P t v f K) :
    ∃ u, K u ∧ ∀ w, (Instr.fieldAt t v f).run P w = .ok u w := by
  unfold fieldK at h
  split at h
  · rename_i b off
    split at h
    · rename_i fs hu
      split at h
      · rename_i fd hf
        split at h
        · rename_i i hi
          split at h
          · exact h.elim
          · rename_i m hm
            refine ⟨_, h, fun w => ?_⟩
            have hf' : fs[f]? = some fd := by simpa using hf
            simp [Instr.fieldAt, run_underlying hu, hf', Instr.sureAddr, fieldPlace, sizeOf, typeInfo, hi, hm, addr_add]
        · exact h.elim
      · exact h.elim
    · exact h.elim
  · exact h.elim

theorem idxAddrK_run {t : TypeId} {v i : Value} {K : Value → Prop} (h : idxAddrK P t v i K) :
    ∃ u, K u ∧ ∀ w, (Instr.indexAt t v i).run P w = .ok u w := by
  unfold idxAddrK at h
  split at h
  · rename_i k n
    split at h
    · rename_i e hu
      split at h
      · rename_i a len cap
        split at h
        · rename_i inf hi
          cases h with | mk h0 h1 b o ha hk =>
            subst ha
            refine ⟨_, hk, fun w => ?_⟩
            simp [Instr.indexAt, asIntOf, run_underlying hu, h0, h1, sizeOf, typeInfo, hi, addr_add]
        · exact h.elim
      · exact h.elim
    · rename_i len e hu
      split at h
      · rename_i b off
        split at h
        · rename_i inf hi
          cases h with | mk h0 h1 hk =>
            refine ⟨_, hk, fun w => ?_⟩
            simp [Instr.indexAt, asIntOf, run_underlying hu, Instr.sureAddr, h0, h1, sizeOf, typeInfo, hi, addr_add]
        · exact h.elim
      · exact h.elim
    · exact h.elim
  · exact h.elim

theorem indexK_run {t : TypeId} {v i : Value} {K : Value → Prop} (h : indexK P t v i K) :
    ∃ u, K u ∧ ∀ w, (Instr.index t v i).run P w = .ok u w := by
  unfold indexK at h
  split at h
  · rename_i k n
    split at h
    · rename_i hu
      split at h
      · rename_i b
        rw [strL_eq] at h
        cases h with | mk h0 h1 hk =>
          refine ⟨_, hk, fun w => ?_⟩
          have hlt : n.toNat < b.data.toList.length := by omega
          have hlt' : n.toNat < b.size := by cases b; exact hlt
          have e : b[n.toNat]? = some (b.data.toList.getD n.toNat 0) := by
            rw [getElem?_pos b n.toNat hlt', List.getD_eq_getElem?_getD, List.getElem?_eq_getElem hlt]; rfl
          simp [Instr.index, asIntOf, run_underlying hu, h0, e]
      · exact h.elim
    · rename_i len e hu
      split at h
      · rename_i cs
        split at h
        · rename_i hg hi
          split at h
          · rename_i hs
            cases h with | mk h0 h1 c hc hk =>
              refine ⟨_, hk, fun w => ?_⟩
              rcases aggSize_some hg with ⟨_, hg⟩ | ⟨m, h2, _⟩
              · have hc' : cs[n.toNat]? = some c := by simpa using hc
                simp [Instr.index, asIntOf, run_underlying hu, h0, h1, sizeOf, typeInfo, hi, hs, part, hg, hc']
              · simp at h2
          · exact h.elim
        · exact h.elim
      · exact h.elim
    · exact h.elim
  · exact h.elim

theorem fieldValK_run {t : TypeId} {v : Value} {f : Nat} {K : Value → Prop} (h : fieldValK P t v f K) :
    ∃ u, K u ∧ ∀ w, (Instr.field t v f).run P w = .ok u w := by
  unfold fieldValK at h
  split at h
  · rename_i cs
    split at h
    · rename_i fs hu
      split at h
      · rename_i fd hf
        split at h
        · rename_i hg
          obtain ⟨u, hu', hk⟩ := nthK_some h
          refine ⟨u, hk, fun w => ?_⟩
          rcases aggSize_some hg with ⟨_, hg⟩ | ⟨m, h2, _⟩
          · have hf' : fs[f]? = some fd := by simpa using hf
            have hc' : cs[fd.offset]? = some u := by simpa using hu'
            simp [Instr.field, run_underlying hu, hf', asAgg, part, hg, hc']
          · simp at h2
        · exact h.elim
      · exact h.elim
    · exact h.elim
  · exact h.elim

theorem bound_run {x : Value} {k : IntKind} {n y : Nat} {c : BoundsCode} (hx : x = .int k n) (h : n ≤ y) (w : World) : (Instr.sliceBound x y c).run P w = .ok n w := by
  subst hx
  have : (n : Int) ≤ y := by omega
  simp [Instr.sliceBound, asIntOf, this]

theorem sliceK_run {t : TypeId} {v : Value} {lo hi mx : Option Value} {K : Value → Prop} (h : sliceK P t v lo hi mx K) :
    ∃ u, K u ∧ ∀ w, (Instr.sliceAt t v lo hi mx).run P w = .ok u w := by
  unfold sliceK at h
  split at h
  · rename_i hu
    split at h
    · rename_i b
      rw [strL_eq] at h
      cases h with | mk l r hlo hhi h1 h2 hk =>
        refine ⟨_, hk, fun w => ?_⟩
        have hsz : b.size = b.data.toList.length := by cases b; rfl
        have e : b.extract l r = ⟨⟨(b.data.toList.take r).drop l⟩⟩ := by
          apply ByteArray.ext; apply Array.ext'; simp [ByteArray.data_extract, List.extract_eq_take_drop, List.drop_take]
        have hb : ∀ n, n = b.data.toList.length → (Instr.sliceBounds false n n lo hi none).run P w = .ok (l, r, n) w := by
          intro n hn
          rcases hlo with ⟨rfl, rfl⟩ | ⟨k, rfl⟩ <;> rcases hhi with ⟨rfl, rfl⟩ | ⟨k', rfl⟩
          · simp [Instr.sliceBounds, ← hn]
          · simp [Instr.sliceBounds, bound_run rfl (by omega : r ≤ n)]
          · rw [← hn] at h1
            simp [Instr.sliceBounds, bound_run rfl h1, ← hn]
          · simp [Instr.sliceBounds, bound_run rfl (by omega : r ≤ n), bound_run rfl h1]
        replace hb := hb b.size hsz
        simp [Instr.sliceAt, Instr.slice, run_underlying hu, hb, e]
    · exact h.elim
  · rename_i e hu
    split at h
    · rename_i a len cap
      split at h
      · rename_i inf hi'
        cases h with | mk l r m hlo hhi hmx h1 h2 h3 hk =>
          refine ⟨_, hk, fun w => ?_⟩
          have hb : (Instr.sliceBounds true len cap lo hi mx).run P w = .ok (l, r, m) w := by
            rcases hmx with ⟨rfl, rfl⟩ | ⟨k, rfl⟩
            · rcases hhi with ⟨rfl, _, rfl⟩ | ⟨k', rfl⟩
              · rcases hlo with ⟨rfl, rfl⟩ | ⟨k, rfl⟩
                · simp [Instr.sliceBounds]
                · simp [Instr.sliceBounds, bound_run rfl h1]
              · rcases hlo with ⟨rfl, rfl⟩ | ⟨k, rfl⟩
                · simp [Instr.sliceBounds, bound_run rfl h2]
                · simp [Instr.sliceBounds, bound_run rfl h2, bound_run rfl h1]
            · rcases hhi with ⟨rfl, h4, rfl⟩ | ⟨k', rfl⟩
              · simp at h4
              · rcases hlo with ⟨rfl, rfl⟩ | ⟨k, rfl⟩
                · simp [Instr.sliceBounds, bound_run rfl h2, bound_run rfl h3]
                · simp [Instr.sliceBounds, bound_run rfl h2, bound_run rfl h1, bound_run rfl h3]
          simp [Instr.sliceAt, Instr.slice, run_underlying hu, hb, sizeOf, typeInfo, hi']
      · exact h.elim
    · exact h.elim
  · exact h.elim

theorem lenK_run {t : TypeId} {v : Value} {h : View} {O : Hp} {K : Value → Prop} (hl : lenK P t v h O K) (ts : List TypeId) (vs : List Value) (ty : TypeId) :
    ∃ u, K u ∧ ∀ w, Val h O w → (Builtin.len_ ⟨t :: ts⟩ ty ⟨v :: vs⟩).run P w = .ok u w := by
  unfold lenK at hl
  split at hl
  · rename_i hu
    split at hl
    · rename_i b
      rw [strL_eq] at hl
      refine ⟨_, hl, fun w _ => ?_⟩
      have hsz : b.size = b.data.toList.length := by cases b; rfl
      rw [← hsz]; simp [Builtin.len_, run_underlying hu, goInt]
    · exact hl.elim
  · rename_i hu
    split at hl
    · exact ⟨_, hl, fun w _ => by simp [Builtin.len_, run_underlying hu, goInt]⟩
    · exact hl.elim
  · rename_i hu
    exact ⟨_, hl, fun w _ => by simp [Builtin.len_, run_underlying hu, goInt]⟩
  · rename_i hu
    split at hl
    · exact ⟨_, hl, fun w _ => by simp [Builtin.len_, run_underlying hu, goInt]⟩
    · cases hl with | mk es c hl hk =>
        refine ⟨_, hk, fun w hv => ?_⟩
        have := hl.at hv
        simp [Builtin.len_, run_underlying hu, goInt, getObj, Sem.run, this]
    · exact hl.elim
  · exact hl.elim

theorem capK_run {t : TypeId} {v : Value} {K : Value → Prop} (hl : capK P t v K) (ts : List TypeId) (vs : List Value) (ty : TypeId) :
    ∃ u, K u ∧ ∀ w, (Builtin.cap_ ⟨t :: ts⟩ ty ⟨v :: vs⟩).run P w = .ok u w := by
  unfold capK at hl
  split at hl
  · rename_i hu
    split at hl
    · exact ⟨_, hl, fun w => by simp [Builtin.cap_, run_underlying hu, goInt]⟩
    · exact hl.elim
  · rename_i hu
    exact ⟨_, hl, fun w => by simp [Builtin.cap_, run_underlying hu, goInt]⟩
  · exact hl.elim

end Gv
end Go
/- The operations that only compute or read: soundness of the table. -/
namespace Go
namespace Gv
variable {P : Program}

theorem mapM_run {α β : Type} (f : α → Sem β) (g : α → β) (w : World) (l : List α) (h : ∀ x ∈ l, (f x).run P w = .ok (g x) w) :
    (l.mapM f).run P w = .ok (l.map g) w := by
  induction l with
  | nil => simp
  | cons x l ih =>
    rw [List.mapM_cons, Sem.run_bind, h x (by simp)]
    simp only [Result.andThen_ok, Sem.run_bind, ih (fun y hy => h y (by simp [hy])), Sem.run_pure, List.map_cons]

theorem parts_map (ps : Array (Nat × Operand)) (f : Operand → Value) : (ps.map fun (x : Nat × Operand) => (x.1, f x.2)).toList = ps.toList.map fun p => (p.1, f p.2) := by simp

theorem buildK_run {t : TypeId} {s : List Value} {parts : Array (Nat × Operand)} {K : Value → Prop} (h : buildK P t s parts.toList K) :
    ∃ u, K u ∧ ∀ w, (Instr.build t (parts.map fun (x : Nat × Operand) => (x.1, evS s x.2))).run P w = .ok u w := by
  unfold buildK at h
  split at h
  · rename_i inf hi
    split at h
    · rename_i z hz
      split at h
      · rename_i fs hu
        split at h
        · rename_i hall
          split at h
          · rename_i pl hpl
            obtain ⟨r, hr, hk⟩ := fillK_run h
            refine ⟨_, hk, fun w => ?_⟩
            have hm : (fs.mapM fun f => (do pure (f.offset, ← sizeOf f.type) : Sem (Nat × Nat))).run P w =
                .ok ((fs.toList.map fun f => (f.offset, ((P.info? f.type).map (·.size)).getD 0)).toArray) w := by
              rw [Array.mapM_eq_mapM_toList, Sem.run_map, mapM_run (g := fun f => (f.offset, ((P.info? f.type).map (·.size)).getD 0))]
              · rfl
              · intro f hf
                have := List.all_eq_true.1 hall f hf
                cases hq : P.info? f.type with
                | none => simp [hq] at this
                | some i => simp [sizeOf, typeInfo, hq]
            have hpl' : (fun i => ((fs.toList.map fun f => (f.offset, ((P.info? f.type).map (·.size)).getD 0)).toArray)[i]?) = pl := by
              unfold placeOf at hpl
              rw [hu] at hpl
              simp only [Option.some.injEq] at hpl
              rw [← hpl]
              funext i
              simp only [List.getElem?_toArray, List.getElem?_map]
              cases hq : fs.toList[i]? with
              | none => rfl
              | some f =>
                have := List.all_eq_true.1 hall f (List.mem_of_getElem? hq)
                cases hq2 : P.info? f.type with
                | none => simp [hq2] at this
                | some i => simp [hq2]
            have hz' : (zeroValue t).run P w = .ok (.agg z) w := by simp [zeroValue, typeInfo, hi, hz]
            rw [← hpl'] at hr
            simp only [Instr.build, Sem.run_bind, hz', Result.andThen_ok, run_underlying hu, hm, parts_map]
            have hc : (Value.agg z).cells = ⟨z.toList⟩ := rfl
            rw [hc]
            simp only [hr, Sem.run_pure]
          · exact h.elim
        · exact h.elim
      · rename_i len e hu
        split at h
        · rename_i pl hpl
          obtain ⟨r, hr, hk⟩ := fillK_run h
          refine ⟨_, hk, fun w => ?_⟩
          unfold placeOf at hpl
          rw [hu] at hpl
          simp only at hpl
          split at hpl
          · rename_i inf2 hi2
            simp only [Option.some.injEq] at hpl
            have hz' : (zeroValue t).run P w = .ok (.agg z) w := by simp [zeroValue, typeInfo, hi, hz]
            have hs : (sizeOf e).run P w = .ok inf2.size w := by simp [sizeOf, typeInfo, hi2]
            simp only [Instr.build, Sem.run_bind, hz', Result.andThen_ok, run_underlying hu, hs, parts_map]
            have hc : (Value.agg z).cells = ⟨z.toList⟩ := rfl
            rw [hc, hpl]
            simp only [hr, Sem.run_pure]
          · simp at hpl
        · exact h.elim
      · exact h.elim
    · exact h.elim
  · exact h.elim

theorem map_eval {a : Act} {s : List Value} (h : a.tmps = ⟨s⟩) (xs : Array Operand) : xs.map a.eval = ⟨xs.toList.map (evS s)⟩ := by
  apply Array.ext'; simp only [Array.toList_map]; exact List.map_congr_left fun x _ => eval_eq h x

theorem lightK_run {o : Op} {s : List Value} {h : View} {O : Hp} {K : Value → Prop} (ty : TypeId) (hk : lightK P o s h O K) :
    ∃ u, K u ∧ Runs P o ty s h O u := by
  unfold lightK at hk
  split at hk
  · rw [evK_eq] at hk
    exact ⟨_, hk, fun a w _ _ _ _ ha _ => by simp [execOp, eval_eq ha]⟩
  · rw [evK_eq] at hk
    exact ⟨_, hk, fun a w _ _ _ _ ha _ => by simp [execOp, eval_eq ha]⟩
  · rename_i c x y
    simp only [evK_eq] at hk
    unfold OnB at hk
    split at hk
    · rename_i b hb
      have := hk.run
      refine ⟨if b then evS s x else evS s y, by cases b <;> exact this, fun a w _ _ _ _ ha _ => ?_⟩
      simp [execOp, eval_eq ha, hb, asBool]
    · exact hk.elim
  · rename_i op t x y yt
    simp only [evK_eq] at hk
    obtain ⟨u, hu, hr⟩ := binK_run (xo := x) (yo := y) hk
    refine ⟨u, hu, fun a w _ _ _ _ ha _ => ?_⟩
    have := hr w
    simp only [execOp, eval_eq ha, Sem.run_bind, Sem.run_pure] at this ⊢
    rw [this]; rfl
  · simp only [evK_eq] at hk
    obtain ⟨u, hu, hr⟩ := unK_run (P := P) hk
    exact ⟨u, hu, fun a w _ _ _ _ ha _ => by simp [execOp, eval_eq ha, hr]⟩
  · simp only [evK_eq] at hk
    obtain ⟨u, hu, hr⟩ := convK_run hk
    exact ⟨u, hu, fun a w _ _ _ _ ha hv => by simp [execOp, eval_eq ha, hr w hv]⟩
  · simp only [evK_eq] at hk
    obtain ⟨u, hu, hr⟩ := loadK_run hk
    exact ⟨u, hu, fun a w _ _ _ _ ha hv => by simp [execOp, eval_eq ha, hr w hv]⟩
  · simp only [evK_eq] at hk
    split at hk
    · rename_i e
      exact ⟨_, hk, fun a w _ _ _ _ ha _ => by simp [execOp, eval_eq ha, e]⟩
    · rename_i e
      exact ⟨_, hk, fun a w _ _ _ _ ha _ => by simp [execOp, eval_eq ha, e]⟩
    · exact hk.elim
  · simp only [evK_eq] at hk
    obtain ⟨u, hu, hr⟩ := fieldK_run hk
    exact ⟨u, hu, fun a w _ _ _ _ ha hv => by simp [execOp, eval_eq ha, hr w]⟩
  · simp only [evK_eq] at hk
    obtain ⟨u, hu, hr⟩ := idxAddrK_run hk
    exact ⟨u, hu, fun a w _ _ _ _ ha hv => by simp [execOp, eval_eq ha, hr w]⟩
  · simp only [evK_eq] at hk
    obtain ⟨u, hu, hr⟩ := fieldValK_run hk
    exact ⟨u, hu, fun a w _ _ _ _ ha hv => by simp [execOp, eval_eq ha, hr w]⟩
  · simp only [evK_eq] at hk
    obtain ⟨u, hu, hr⟩ := indexK_run hk
    exact ⟨u, hu, fun a w _ _ _ _ ha hv => by simp [execOp, eval_eq ha, hr w]⟩
  · simp only [evK_eq, optK_eq] at hk
    obtain ⟨u, hu, hr⟩ := sliceK_run hk
    refine ⟨u, hu, fun a w _ _ _ _ ha hv => ?_⟩
    have e : a.eval = evS s := funext (eval_eq ha)
    simp [execOp, e, hr w]
  · simp only [evK_eq] at hk
    split at hk
    · rename_i ix _ vs e
      obtain ⟨u, hu, hk⟩ := nthK_some hk
      have hu' : vs[(ix : Nat)]? = some u := by simpa using hu
      exact ⟨u, hk, fun a w _ _ _ _ ha _ => by simp [execOp, eval_eq ha, e, Instr.extract, hu']⟩
    · exact hk.elim
  · obtain ⟨u, hu, hr⟩ := buildK_run hk
    refine ⟨u, hu, fun a w _ _ _ _ ha _ => ?_⟩
    have e : a.eval = evS s := funext (eval_eq ha)
    simp [execOp, e, hr w]
  · simp only [evsK_eq] at hk
    exact ⟨_, hk, fun a w _ _ _ _ ha _ => by simp [execOp, map_eval ha, Instr.makeFunc]⟩
  · simp only [evK_eq] at hk
    split at hk
    · exact hk.elim
    · rename_i d hd hu
      refine ⟨_, hk, fun a w _ _ _ _ ha _ => ?_⟩
      simp only [execOp, eval_eq ha, Sem.run_bind, Instr.makeInterface, run_underlying hu, Result.andThen_ok]
      cases d <;> first | rfl | exact absurd hu (hd _)
    · exact hk.elim
  · simp only [evK_eq] at hk
    cases hk with | mk v hr hk => exact ⟨v, hk, fun a w _ _ _ _ ha hv => by simp [execOp, eval_eq ha, hr w hv]⟩
  · rename_i args ats
    simp only [evsK_eq] at hk
    split at hk
    · rename_i t ts v vs e1 e2
      obtain ⟨u, hu, hr⟩ := lenK_run hk ts vs ty
      refine ⟨u, hu, fun a w _ _ _ _ ha hv => ?_⟩
      have h1 : ats = ⟨t :: ts⟩ := by cases ats; simp at e1; rw [e1]
      simp [execOp, resolve, invoke, builtin, map_eval ha, e2, h1, hr w hv]
    · exact hk.elim
  · rename_i args ats
    simp only [evsK_eq] at hk
    split at hk
    · rename_i t ts v vs e1 e2
      obtain ⟨u, hu, hr⟩ := capK_run hk ts vs ty
      refine ⟨u, hu, fun a w _ _ _ _ ha hv => ?_⟩
      have h1 : ats = ⟨t :: ts⟩ := by cases ats; simp at e1; rw [e1]
      simp [execOp, resolve, invoke, builtin, map_eval ha, e2, h1, hr w]
    · exact hk.elim
  · simp only [evsK_eq] at hk
    cases hk with | mk v hr hk =>
      refine ⟨v, hk, fun a w _ _ _ _ ha hv => ?_⟩
      have := hr P w
      simp only [if_true, Builtin.max_] at this
      simp [execOp, resolve, invoke, builtin, map_eval ha, Builtin.max_, this]
  · simp only [evsK_eq] at hk
    cases hk with | mk v hr hk =>
      refine ⟨v, hk, fun a w _ _ _ _ ha hv => ?_⟩
      have := hr P w
      simp only [Bool.false_eq_true, if_false, Builtin.min_] at this
      simp [execOp, resolve, invoke, builtin, map_eval ha, Builtin.min_, this]
  · exact hk.elim

end Gv
end Go
/- The operations that make memory, write, or call: what each asks. -/
namespace Go
namespace Gv
variable {P : Program}

/-- What a call does: from a part that stays and a part that is owned, it returns, and R holds behind it. -/
def GSpec (P : Program) (f : FuncId) (args : List Value) (h : View) (O : Hp) (R : Value → View → Hp → Prop) : Prop :=
  (∃ fn, P.funcs[f]? = some fn ∧ fn.body.isSome = true ∧ (fn.name == "runtime.NumGoroutine") = false) ∧
  ∀ w, Val h O w → Calls P f ⟨args⟩ w fun e w' => ∃ v h' O', e = .returned v ∧ Step h O w h' O' w' ∧ R v h' O'

/-- A call that computes; a call that makes what is new. -/
abbrev Ret (O : Hp) (X : Value) : Value → View → Hp → Prop := fun v _ O' => O' = O ∧ v = X
abbrev New (O : Hp) (R : Value → Hp → Prop) : Value → View → Hp → Prop := fun v _ O' => ∃ H, O' = H ++ O ∧ R v H

def byteV (c : UInt8) : Value := .int .u8 c.toNat
def rows (n : Nat) (z : List Value) : List Value := (List.replicate n z).flatten
theorem rows_length (n : Nat) (z : List Value) : (rows n z).length = n * z.length := by simp [rows]
theorem rows_one (n : Nat) (z : Value) : rows n [z] = List.replicate n z := by
  unfold rows; induction n with
  | zero => rfl
  | succ n ih => rw [List.replicate_succ, List.flatten_cons, ih]; rfl
theorem rows_get (n : Nat) (z : List Value) (i : Nat) (hi : i < n * z.length) : (rows n z)[i]? = z[i % z.length]? := by
  induction n generalizing i with
  | zero => simp at hi
  | succ n ih =>
    rw [Nat.add_mul, Nat.one_mul] at hi
    have e : rows (n + 1) z = z ++ rows n z := by simp [rows, List.replicate_succ]
    rw [e]
    by_cases h : i < z.length
    · rw [List.getElem?_append_left h, Nat.mod_eq_of_lt h]
    · rw [List.getElem?_append_right (by omega), ih _ (by omega)]
      congr 1
      rw [Nat.mod_eq_sub_mod (by omega : i ≥ z.length)]
def appK : List Value → List Value → (List Value → Prop) → Prop
  | [], l, K => K l
  | x :: r, l, K => appK r l fun z => K (x :: z)
theorem appK_eq (a b : List Value) (K : List Value → Prop) : appK a b K = K (a ++ b) := by
  induction a generalizing K with
  | nil => rfl
  | cons x r ih => simp [appK, ih]
def zeroCellsOf (i : TypeInfo) : Option (List Value) :=
  match i.zero with
  | some v => some (cellsL v)
  | none => none

inductive AllocSt (h : View) (O : Hp) (obj : Obj) (K : Nat → View → Hp → Prop) : Prop
  | mk (hk : ∀ b, h b = none → (∀ o, (b, o) ∉ O) → K b h ((b, obj) :: O))
inductive StoreSt (h : View) (O : Hp) (b off : Nat) (vs : List Value) (K : View → Hp → Prop) : Prop
  | mk (O1 O2 : Hp) (c : Array Value) (ty : TypeId) (fr : Nat × Nat) (hO : O = O1 ++ (b, .cells c ty fr) :: O2) (hb : off + vs.length ≤ c.size)
      (hf : ∀ j, j < vs.length → ¬ (fr.1 ≤ off + j ∧ off + j < fr.2)) (h1 : ∀ v ∈ vs, v.oneCell' = true)
      (hk : K h (O1 ++ (b, .cells ⟨setRange c.toList off vs⟩ ty fr) :: O2))
inductive CallSt (P : Program) (f : FuncId) (args : List Value) (h : View) (O : Hp) (K : Value → View → Hp → Prop) : Prop
  | mk (h1 : View) (Of Or : Hp) (wk : Wk h O h1 (Of ++ Or)) (R : Value → View → Hp → Prop) (sp : GSpec P f args h1 Of R)
      (hk : ∀ v h' O', (∀ b o, h1 b = some o → h' b = some o) → (∀ b o, (b, o) ∈ Or → h' b = none) → R v h' O' → ∃ h2 O2, Wk h' (O' ++ Or) h2 O2 ∧ K v h2 O2)
  | drop (R : Value → Prop) (sp : GSpec P f args h [] fun v _ _ => R v) (hk : ∀ v, R v → K v h O)
  | know (hk : (∃ w, Val h O w) → CallSt P f args h O K)
  | part (Of Or : Hp) (wk : Wk h O h (Of ++ Or)) (R : Value → Hp → Prop) (sp : GSpec P f args h Of fun v _ O' => R v O') (hk : ∀ v O', R v O' → ∃ O2, Wk h (O' ++ Or) h O2 ∧ K v h O2)
def RdCells (P : Program) (h : View) (O : Hp) (v : Value) (sz n : Nat) (cells : List Value) : Prop :=
  ∀ w, Val h O w → (Builtin.firstCells sz n v).run P w = .ok ⟨cells⟩ w
inductive AppSt (P : Program) (t t2 ty e : TypeId) (inf : TypeInfo) (s x : Value) (h : View) (O : Hp) (K : Value → View → Hp → Prop) : Prop
  | mk (hk : P.underlying t = some (.slice e) → P.info? e = some inf → (∃ d, P.underlying t2 = some d ∧ ∀ k, d ≠ .int k) → ∀ w, Val h O w →
      ∃ v w' h' O', (Builtin.append_ #[t, t2] ty #[s, x]).run P w = .ok v w' ∧ Step h O w h' O' w' ∧ K v h' O')
inductive CopySt (P : Program) (e : TypeId) (sz : Nat) (d s : Value) (h : View) (O : Hp) (K : Value → View → Hp → Prop) : Prop
  | mk (n dlen cap b o : Nat) (cells : List Value) (hd : d = .slice (some ⟨b, o, none⟩) dlen cap) (m : Nat) (hm : ∀ w, (Builtin.lenOf s).run P w = .ok m w) (hn : n = Nat.min m dlen)
      (hr : RdCells P h O s sz n cells) (hk : StoreSt h O b o cells fun h' O' => K (.int .i64 n) h' O')
  | none (dlen cap : Nat) (hd : d = .slice none dlen cap) (m : Nat) (hm : ∀ w, (Builtin.lenOf s).run P w = .ok m w) (h0 : Nat.min m dlen = 0) (cells : List Value) (hr : RdCells P h O s sz 0 cells) (hk : K (.int .i64 0) h O)
inductive ClearSt (P : Program) (inf : TypeInfo) (d : Value) (h : View) (O : Hp) (K : View → Hp → Prop) : Prop
  | none (a : Option Addr) (cap : Nat) (hd : d = .slice a 0 cap) (hk : K h O)
  | some (b o n cap : Nat) (z : List Value) (hd : d = .slice (some ⟨b, o, Option.none⟩) n cap) (hz : zeroCellsOf inf = Option.some z) (hk : StoreSt h O b o (rows n z) K)
inductive BytesSt (e : TypeId) (l : List UInt8) (h : View) (O : Hp) (K : Value → View → Hp → Prop) : Prop
  | mk (hk : ∀ b cap k, h b = none → (∀ o, (b, o) ∉ O) → cap = l.length + k →
      K (.slice (some ⟨b, 0, none⟩) l.length cap) h ((b, .cells ⟨l.map byteV ++ List.replicate k (.int .u8 0)⟩ e (cap, cap + 1)) :: O))
inductive MakeSt (inf : TypeInfo) (e : TypeId) (n c : Int) (h : View) (O : Hp) (K : Value → View → Hp → Prop) : Prop
  | mk (h0 : 0 ≤ n) (h1 : n ≤ c) (h2 : inf.bytes * c ≤ 281474976710656) (h3 : c ≤ 9223372036854775807) (z : List Value) (hz : zeroCellsOf inf = some z) (hs : z.length = inf.size)
      (hk : AllocSt h O (.cells ⟨rows c.toNat z⟩ e) fun b h' O' => K (.slice (some ⟨b, 0, none⟩) n.toNat c.toNat) h' O')
inductive MapUp (P : Program) (t : TypeId) (m k v : Value) (h : View) (O : Hp) (K : View → Hp → Prop) : Prop
  | mk (hk : ∀ w, Val h O w → ∃ w' h' O', (Instr.mapUpdate t m k v).run P w = .ok () w' ∧ Step h O w h' O' w' ∧ K h' O')
inductive RunSt (P : Program) (m : Sem Value) (h : View) (O : Hp) (K : Value → View → Hp → Prop) : Prop
  | mk (hk : ∀ w, Val h O w → ∃ v w' h' O', m.run P w = .ok v w' ∧ Step h O w h' O' w' ∧ K v h' O')

def heavyK (P : Program) (o : Op) (ty : TypeId) (s : List Value) (h : View) (O : Hp) (K : Value → View → Hp → Prop) : Prop :=
  match o with
  | .alloc t => match P.info? t with
    | some i => match i.zero with
      | some z => AllocSt h O (.cells ⟨cellsL z⟩ t) fun b h' O' => K (.pointer (some ⟨b, 0, none⟩)) h' O'
      | none => False
    | none => False
  | .box t x => evK s x fun v => AllocSt h O (.cells ⟨cellsL v⟩ t) fun b h' O' => K (.pointer (some ⟨b, 0, none⟩)) h' O'
  | .buildSlice t len parts => match P.underlying t with
    | some (.slice e) => match P.info? e with
      | some inf => match zeroCellsOf inf, Nat.ble (len * inf.size) 16777216 with
        | some z, true => match Nat.beq z.length inf.size with
          | true => fillK s (fun i => some (i * inf.size, inf.size)) (rows len z) parts.toList fun cs =>
              AllocSt h O (.cells ⟨cs⟩ e) fun b h' O' => K (.slice (some ⟨b, 0, none⟩) len len) h' O'
          | false => False
        | _, _ => False
      | none => False
    | _ => False
  | .makeSlice t l c => match P.underlying t with
    | some (.slice e) => match P.info? e with
      | some inf => evK s l fun l => evK s c fun c => match l, c with
        | .int _ n, .int _ m => MakeSt inf e n m h O K
        | _, _ => False
      | none => False
    | _ => False
  | .makeMap _ none => AllocSt h O (.map #[] 0) fun b h' O' => K (.map (some b)) h' O'
  | .store t a x => evK s a fun a => evK s x fun v => match a with
    | .pointer (some ⟨b, off, none⟩) => match P.info? t with
      | some inf => match Nat.beq (cellsL v).length inf.size with
        | true => StoreSt h O b off (cellsL v) fun h' O' => K undef h' O'
        | false => False
      | none => False
    | _ => False
  | .convert src dst x => match P.underlying dst with
    | some (.slice e) => match P.underlying src, P.underlying e with
      | some .string, some (.int .u8) => evK s x fun v => match v with
        | .string b => strL b fun l => BytesSt e l h O K
        | _ => False
      | _, _ => False
    | _ => False
  | .mapUpdate t m k x => evK s m fun m => evK s k fun k => evK s x fun v => MapUp P t m k v h O fun h' O' => K undef h' O'
  | .insert t m k x => evK s m fun m => evK s k fun k => evK s x fun v => MapUp P t m k v h O fun h' O' => K undef h' O'
  | .range t x => evK s x fun v => RunSt P (Instr.range t v) h O K
  | .next it str => evK s it fun v => RunSt P (Instr.next v str ty) h O K
  | .entry it => evK s it fun v => RunSt P (Instr.entry v) h O K
  | .call { callee := .value f, args, .. } => evK s f fun fv => match fv with
    | .func (.func fid) first cap => evsK s args.toList fun vs => appK vs cap.toList fun vs => appK first.toList vs fun vs => CallSt P fid vs h O K
    | _ => False
  | .call { callee := .builtin .append, args, argTypes } => match argTypes.toList, args.toList with
    | [t, t2], [x, y] => match P.underlying t with
      | some (.slice e) => match P.info? e, P.underlying t2 with
        | some inf, some (.slice _) => evK s x fun x => evK s y fun y => AppSt P t t2 ty e inf x y h O K
        | some inf, some .string => evK s x fun x => evK s y fun y => AppSt P t t2 ty e inf x y h O K
        | some _, some (.int _) => evK s x fun x => evK s y fun y => RunSt P (Builtin.append_ #[t, t2] ty #[x, y]) h O K
        | _, _ => False
      | _ => False
    | _, _ => False
  | .call { callee := .builtin .copy, args, argTypes } => match argTypes.toList, args.toList with
    | t :: _, [x, y] => match P.underlying t with
      | some (.slice e) => match P.info? e with
        | some inf => evK s x fun x => evK s y fun y => CopySt P e inf.size x y h O K
        | none => False
      | _ => False
    | _, _ => False
  | .call { callee := .builtin .clear, args, argTypes } => match argTypes.toList, args.toList with
    | t :: _, x :: _ => match P.underlying t with
      | some (.slice e) => match P.info? e with
        | some inf => evK s x fun x => ClearSt P inf x h O fun h' O' => K (.tuple #[]) h' O'
        | none => False
      | _ => False
    | _, _ => False
  | _ => False

/-- Which operations only compute or read. -/
def isLight (P : Program) : Op → Bool
  | .convert _ dst _ => match P.underlying dst with | some (.slice _) => false | _ => true
  | .move _ | .assign _ | .pick .. | .binOp .. | .unOp .. | .load .. | .nilCheck _ | .fieldAddr .. | .indexAddr .. | .field .. | .index .. | .slice .. | .extract .. | .build .. | .makeFunc .. | .makeInterface .. | .lookup .. => true
  | .call { callee := .builtin b, .. } => match b with | .len | .cap | .max | .min => true | _ => false
  | _ => false
def opK (P : Program) (o : Op) (ty : TypeId) (s : List Value) (h : View) (O : Hp) (K : Value → View → Hp → Prop) : Prop :=
  match isLight P o with
  | true => lightK P o s h O fun v => K v h O
  | false => heavyK P o ty s h O K

end Gv
end Go
/- The operations that make memory, write, or call: soundness. -/
namespace Go
namespace Gv
variable {P : Program}

theorem Val.lt {h : View} {O : Hp} {w : World} (v : Val h O w) {b : Nat} {o : Obj} (hm : (b, o) ∈ O) : b < w.heap.size := by
  have := v.own b o hm
  exact (Array.getElem?_eq_some_iff.1 this).1
theorem Val.ltv {h : View} {O : Hp} {w : World} (v : Val h O w) {b : Nat} {o : Obj} (hm : h b = some o) : b < w.heap.size := by
  have := v.per b o hm
  exact (Array.getElem?_eq_some_iff.1 this).1

theorem Step.postWk {h h' h2 : View} {O O' O2 : Hp} {w w' : World} (p : Step h O w h' O' w') (q : Wk h' O' h2 O2) : Step h O w h2 O2 w' where
  os := p.os
  tape := p.tape
  output := p.output
  mono := fun b o e => q.mono b o (p.mono b o e)
  val := p.val.wk q
  size := p.size
  kept := p.kept
  fresh := fun b hb => by
    cases e : h2 b with
    | none => exact absurd e hb
    | some o =>
      rcases q.from_ b o e with h3 | h3
      · exact p.fresh b (by rw [h3]; simp)
      · rcases p.freshO b o h3 with h4 | h4
        · exact .inr (.inl h4)
        · exact .inr (.inr h4)
  freshO := fun b o e => p.freshO b o (q.sub b o e)

/-- A call's step beside what it does not touch. -/
theorem Step.frame {h h' : View} {Of Or O' : Hp} {w w' : World} (hv : Val h (Of ++ Or) w) (p : Step h Of w h' O' w') : Step h (Of ++ Or) w h' (O' ++ Or) w' where
  os := p.os
  tape := p.tape
  output := p.output
  mono := p.mono
  val :=
    { per := p.val.per
      own := fun b o hm => by
        rcases List.mem_append.1 hm with h1 | h1
        · exact p.val.own b o h1
        · have hb := hv.own b o (List.mem_append_right _ h1)
          rw [p.kept b (hv.lt (List.mem_append_right _ h1)) ?_, hb]
          intro o' h2
          have := hv.nodup
          rw [List.map_append, List.nodup_append] at this
          exact this.2.2 b (List.mem_map_of_mem (f := Prod.fst) h2) b (List.mem_map_of_mem (f := Prod.fst) h1) rfl
      nodup := by
        have hn := hv.nodup
        rw [List.map_append, List.nodup_append] at hn ⊢
        refine ⟨p.val.nodup, hn.2.1, ?_⟩
        intro x hx y hy hxy
        subst hxy
        obtain ⟨⟨x1, o1⟩, hx1, rfl⟩ := List.mem_map.1 hx
        obtain ⟨⟨y1, o2⟩, hy1, e⟩ := List.mem_map.1 hy
        simp only at e; subst e
        rcases p.freshO _ _ hx1 with h1 | ⟨o, h1⟩
        · have := hv.lt (List.mem_append_right _ hy1); omega
        · exact hn.2.2 _ (List.mem_map_of_mem (f := Prod.fst) h1) _ (List.mem_map_of_mem (f := Prod.fst) hy1) rfl
      apart := fun b o hm => by
        rcases List.mem_append.1 hm with h1 | h1
        · exact p.val.apart b o h1
        · cases e : h' b with
          | none => rfl
          | some o' =>
            rcases p.fresh b (by rw [e]; simp) with h2 | h2 | ⟨o2, h2⟩
            · exact absurd (hv.apart b o (List.mem_append_right _ h1)) h2
            · have := hv.lt (List.mem_append_right _ h1); omega
            · have := hv.nodup
              rw [List.map_append, List.nodup_append] at this
              exact absurd rfl (this.2.2 b (List.mem_map_of_mem (f := Prod.fst) h2) b (List.mem_map_of_mem (f := Prod.fst) h1)) }
  size := p.size
  kept := fun b hb hn => p.kept b hb (fun o ho => hn o (List.mem_append_left _ ho))
  fresh := fun b hb => by
    rcases p.fresh b hb with h1 | h1 | ⟨o, h1⟩
    · exact .inl h1
    · exact .inr (.inl h1)
    · exact .inr (.inr ⟨o, List.mem_append_left _ h1⟩)
  freshO := fun b o hb => by
    rcases List.mem_append.1 hb with h1 | h1
    · rcases p.freshO b o h1 with h2 | ⟨o', h2⟩
      · exact .inl h2
      · exact .inr ⟨o', List.mem_append_left _ h2⟩
    · exact .inr ⟨o, List.mem_append_right _ h1⟩

/-- Where nothing was handed over, nothing is known to have changed. -/
theorem Step.forget {h h' : View} {O O' : Hp} {w w' : World} (hv : Val h O w) (p : Step h [] w h' O' w') : Step h O w h O w' where
  os := p.os
  tape := p.tape
  output := p.output
  mono := fun _ _ e => e
  val :=
    { per := fun b o e => p.val.per b o (p.mono b o e)
      own := fun b o hm => by rw [p.kept b (hv.lt hm) (by simp)]; exact hv.own b o hm
      nodup := hv.nodup
      apart := hv.apart }
  size := p.size
  kept := fun b hb _ => p.kept b hb (by simp)
  fresh := fun b e => .inl e
  freshO := fun b o e => .inr ⟨o, e⟩

/-- What has come to stay may be forgotten. -/
theorem Step.forgetV {h h' : View} {O O' : Hp} {w w' : World} (p : Step h O w h' O' w') : Step h O w h O' w' where
  os := p.os
  tape := p.tape
  output := p.output
  mono := fun _ _ e => e
  val :=
    { per := fun b o e => p.val.per b o (p.mono b o e)
      own := p.val.own
      nodup := p.val.nodup
      apart := fun b o hm => by
        have := p.val.apart b o hm
        cases e : h b with
        | none => rfl
        | some x => rw [p.mono b x e] at this; cases this }
  size := p.size
  kept := p.kept
  fresh := fun b e => .inl e
  freshO := p.freshO

theorem Step.alloc {h : View} {O : Hp} {w w' : World} {obj : Obj} (hv : Val h O w) (hh : w'.heap = w.heap.push obj) (ho : w'.os = w.os) (ht : w'.tape = w.tape) (hu : w'.output = w.output) :
    Step h O w h ((w.heap.size, obj) :: O) w' ∧ h w.heap.size = none ∧ ∀ o, (w.heap.size, o) ∉ O := by
  have f1 : h w.heap.size = none := by
    cases e : h w.heap.size with
    | none => rfl
    | some o => have := hv.ltv e; omega
  have f2 : ∀ o, (w.heap.size, o) ∉ O := fun o hm => by have := hv.lt hm; omega
  refine ⟨⟨ho, ht, hu, fun _ _ e => e, ⟨?_, ?_, ?_, ?_⟩, by rw [hh]; simp, ?_, fun _ e => .inl e, ?_⟩, f1, f2⟩
  · intro b o e
    have := hv.per b o e
    rw [hh, Array.getElem?_push, if_neg (by have := hv.ltv e; omega)]; exact this
  · intro b o hm
    rcases List.mem_cons.1 hm with h1 | h1
    · cases h1; rw [hh]; simp
    · rw [hh, Array.getElem?_push, if_neg (by have := hv.lt h1; omega)]; exact hv.own b o h1
  · rw [List.map_cons, List.nodup_cons]
    refine ⟨fun hm => ?_, hv.nodup⟩
    obtain ⟨⟨b, o⟩, h1, h2⟩ := List.mem_map.1 hm
    exact f2 o (by simp only at h2; rw [← h2]; exact h1)
  · intro b o hm
    rcases List.mem_cons.1 hm with h1 | h1
    · cases h1; exact f1
    · exact hv.apart b o h1
  · intro b hb _
    rw [hh, Array.getElem?_push, if_neg (by omega)]
  · intro b o hm
    rcases List.mem_cons.1 hm with h1 | h1
    · cases h1; exact .inl (Nat.le_refl _)
    · exact .inr ⟨o, h1⟩

/-- A block written anew. -/
def putBlock (w : World) (b : Nat) (o : Obj) : World := { w with heap := w.heap.setIfInBounds b o }
theorem Step.put {h : View} {O1 O2 : Hp} {w : World} {b : Nat} {o o' : Obj} (hv : Val h (O1 ++ (b, o) :: O2) w) :
    Step h (O1 ++ (b, o) :: O2) w h (O1 ++ (b, o') :: O2) (putBlock w b o') := by
  have hb : b < w.heap.size := hv.lt (b := b) (o := o) (by simp)
  have hmem : ∀ x y, (x, y) ∈ O1 ++ (b, o') :: O2 → x = b ∧ y = o' ∨ x ≠ b ∧ (x, y) ∈ O1 ++ (b, o) :: O2 := by
    intro x y hm
    have hn := hv.nodup
    rw [List.map_append, List.map_cons, List.nodup_append, List.nodup_cons] at hn
    rcases List.mem_append.1 hm with h1 | h1
    · refine .inr ⟨fun e => ?_, List.mem_append_left _ h1⟩
      subst e
      exact hn.2.2 x (List.mem_map_of_mem (f := Prod.fst) h1) x (by simp) rfl
    · rcases List.mem_cons.1 h1 with h2 | h2
      · cases h2; exact .inl ⟨rfl, rfl⟩
      · refine .inr ⟨fun e => ?_, List.mem_append_right _ (List.mem_cons_of_mem _ h2)⟩
        subst e
        exact hn.2.1.1 (List.mem_map.2 ⟨(x, y), h2, rfl⟩)
  have hget : ∀ x, x ≠ b → (putBlock w b o').heap[x]? = w.heap[x]? := by
    intro x hx; simp only [putBlock, Array.getElem?_setIfInBounds]; rw [if_neg (fun e => hx e.symm)]
  refine ⟨rfl, rfl, rfl, fun _ _ e => e, ⟨?_, ?_, ?_, ?_⟩, by simp [putBlock], ?_, fun _ e => .inl e, ?_⟩
  · intro x y e
    rw [hget x ?_]
    · exact hv.per x y e
    · intro hx; subst hx
      have := hv.apart x o (by simp)
      rw [e] at this; simp at this
  · intro x y hm
    rcases hmem x y hm with ⟨rfl, rfl⟩ | ⟨h1, h2⟩
    · simp [putBlock, hb]
    · rw [hget x h1]; exact hv.own x y h2
  · have := hv.nodup
    simpa [List.map_append, List.map_cons] using this
  · intro x y hm
    rcases hmem x y hm with ⟨rfl, rfl⟩ | ⟨h1, h2⟩
    · exact hv.apart x o (by simp)
    · exact hv.apart x y h2
  · intro x hx hn
    rw [hget x]
    intro e; subst e
    exact hn o (by simp)
  · intro x y hm
    rcases hmem x y hm with ⟨rfl, rfl⟩ | ⟨h1, h2⟩
    · exact .inr ⟨o, by simp⟩
    · exact .inr ⟨y, h2⟩

theorem putBlock_self {w : World} {b : Nat} {o : Obj} (h : w.heap[b]? = some o) : putBlock w b o = w := by
  unfold putBlock
  have : w.heap.setIfInBounds b o = w.heap := by
    apply Array.ext_getElem?
    intro i
    rw [Array.getElem?_setIfInBounds]
    split
    · rename_i e; subst e
      split
      · exact h.symm
      · rename_i h2; exact absurd ((Array.getElem?_eq_some_iff.1 h).1) h2
    · rfl
  rw [this]
theorem putBlock_put (w : World) (b : Nat) (o o' : Obj) : putBlock (putBlock w b o) b o' = putBlock w b o' := by
  unfold putBlock; simp
theorem putBlock_get {w : World} {b : Nat} {o o' : Obj} (h : w.heap[b]? = some o) : (putBlock w b o').heap[b]? = some o' := by
  have hb := (Array.getElem?_eq_some_iff.1 h).1
  simp [putBlock, hb]

theorem setRange_nil (l : List Value) (n : Nat) : setRange l n [] = l := by cases l <;> cases n <;> rfl
theorem setRange_cons (l : List Value) (n : Nat) (v : Value) (vs : List Value) : setRange l n (v :: vs) = setRange (l.set n v) (n + 1) vs := by
  apply List.ext_getElem?
  intro i
  simp only [setRange_get, List.length_set, List.length_cons, List.getElem?_set]
  by_cases h1 : n = i
  · subst h1
    by_cases h2 : n < l.length
    · rw [if_pos (by omega), if_neg (by omega), if_pos rfl, if_pos h2]; simp
    · rw [if_neg (by omega), if_neg (by omega), if_pos rfl, if_neg h2, List.getElem?_eq_none (by omega)]
  · rw [if_neg h1]
    by_cases h2 : n + 1 ≤ i ∧ i < n + 1 + vs.length ∧ i < l.length
    · rw [if_pos (by omega), if_pos h2]
      have : i - n = (i - (n + 1)) + 1 := by omega
      rw [this]; simp
    · rw [if_neg (by omega), if_neg h2]

theorem storeCells_run (b o : Nat) (ty : TypeId) (fr : Nat × Nat) : ∀ (vs : List Value) (i : Nat) (c : Array Value) (w : World), w.heap[b]? = some (.cells c ty fr) →
    o + i + vs.length ≤ c.size → (∀ j, j < vs.length → ¬ (fr.1 ≤ o + i + j ∧ o + i + j < fr.2)) → (∀ v ∈ vs, v.oneCell' = true) →
    (storeCells ⟨b, o, none⟩ vs i).run P w = .ok () (putBlock w b (.cells ⟨setRange c.toList (o + i) vs⟩ ty fr))
  | [], i, c, w, hg, _, _, _ => by
    simp only [storeCells, setRange_nil]
    rw [putBlock_self (o := .cells ⟨c.toList⟩ ty fr) hg]; rfl
  | v :: vs, i, c, w, hg, hl, hf, h1 => by
    simp only [List.length_cons] at hl hf
    have hc : w.cell? ⟨b, o + i, none⟩ = some c[o + i] := by
      simp only [World.cell?, hg]; simp
    have hfr : w.frozen? ⟨b, o + i, none⟩ = false := by
      simp only [World.frozen?, hg]
      have := hf 0 (by omega)
      simp only [Nat.add_zero] at this
      by_cases h2 : fr.1 ≤ o + i <;> by_cases h3 : o + i < fr.2 <;> simp_all
    have hset : w.setCell ⟨b, o + i, none⟩ v = putBlock w b (.cells (c.setIfInBounds (o + i) v) ty fr) := by
      unfold World.setCell putBlock
      congr 1
      apply Array.ext_getElem?
      intro k
      rw [Array.getElem?_modify, Array.getElem?_setIfInBounds]
      by_cases hk : b = k
      · subst hk
        rw [if_pos rfl, if_pos rfl, hg, if_pos (Array.getElem?_eq_some_iff.1 hg).1]; simp
      · rw [if_neg hk, if_neg hk]
    rw [storeCells, addr_add]
    rw [Sem.run_bind, run_store _ _ _ _ _ (h1 v (by simp))]
    simp only [hc, hfr, Bool.false_eq_true, if_false, Result.andThen_ok, hset]
    rw [storeCells_run b o ty fr vs (i + 1) (c.setIfInBounds (o + i) v) _ (putBlock_get hg) (by simp; omega)
      (fun j hj => by have := hf (j + 1) (by omega); rw [show o + (i + 1) + j = o + i + (j + 1) from by omega]; exact this) (fun u hu => h1 u (by simp [hu]))]
    rw [putBlock_put, setRange_cons]
    simp only [Array.toList_setIfInBounds]
    rfl

theorem StoreSt.run {h : View} {O : Hp} {b off : Nat} {vs : List Value} {K : View → Hp → Prop} (hs : StoreSt h O b off vs K) (w : World) (hv : Val h O w) :
    ∃ w' h' O', (storeCells ⟨b, off, none⟩ vs).run P w = .ok () w' ∧ Step h O w h' O' w' ∧ K h' O' := by
  cases hs with | mk O1 O2 c ty fr hO hb hf h1 hk =>
    subst hO
    have hg := hv.own b (.cells c ty fr) (by simp)
    have := storeCells_run (P := P) b off ty fr vs 0 c w hg (by simpa using hb) (by simpa using hf) h1
    exact ⟨_, _, _, this, Step.put hv, hk⟩

theorem AllocSt.run {h : View} {O : Hp} {obj : Obj} {K : Nat → View → Hp → Prop} (hs : AllocSt h O obj K) {w w' : World} (hv : Val h O w)
    (hh : w'.heap = w.heap.push obj) (ho : w'.os = w.os) (ht : w'.tape = w.tape) (hu : w'.output = w.output) :
    ∃ h' O', Step h O w h' O' w' ∧ K w.heap.size h' O' := by
  cases hs with | mk hk =>
    obtain ⟨h1, h2, h3⟩ := Step.alloc (h := h) (O := O) hv hh ho ht hu
    exact ⟨_, _, h1, hk _ h2 h3⟩
end Gv
end Go
