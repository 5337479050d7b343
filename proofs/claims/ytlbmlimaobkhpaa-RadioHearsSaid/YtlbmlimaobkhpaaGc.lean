/- The walk's logic: regions that draw with calls; rows and decoders. -/
import Derived.Test.YtlbmlimaobkhpaaGb
import Derived.Lib.AppendZerosOnto
import Derived.ChangeBears
import Derived.ChangeStays
import Derived.ReadAgain
import Derived.ProofKit
import Derived.OpenShut
import Derived.Deep.Slices
set_option linter.unusedVariables false
set_option linter.unusedSimpArgs false
set_option linter.unusedSectionVars false
/- Regions whose order is open, with one call that turns what is owned: all else comes ahead of it or behind it. -/
namespace Go
namespace Gv
variable {P : Program}
/-- An operation that nothing changes places with. -/
inductive SOpT (P : Program) (ops : Array Oper) (o : Oper) (s : List Value) (h : View) (O : Hp) (K : List Value → View → Hp → Prop) : Prop
  | skip (hw : Region.wanted o (yielded ops ⟨s⟩) = false) (hk : K (putS s o.dst undef) h O)
  | run (hw : Region.wanted o (yielded ops ⟨s⟩) = true) (hk : Sound P o.op o.type s h O fun v h' O' => K (putS s o.dst v) h' O')
def opsT (P : Program) (all : List Oper) (c : Nat) (s : List Value) (h : View) (O : Hp) (K : List Value → View → Hp → Prop) : Prop :=
  match all[c]? with
  | some o => guardB all s o.guard fun b => opB P o.op o.type s h O b fun v h' O' => putK s o.dst v fun s' => K s' h' O'
  | none => False
def Bar (P : Program) (ops : Array Oper) (K : List Value → View → Hp → Prop) (c : Nat) (B : List Nat) : List Value → View → Hp → Prop :=
  fun s h O => ∃ o, ops[c]? = some o ∧ SOpT P ops o s h O (SOps P ops K B)
theorem Bar.of_opsT {ops : Array Oper} {K : List Value → View → Hp → Prop} {c : Nat} {B : List Nat} {s : List Value} {h : View} {O : Hp}
    (hk : opsT P ops.toList c s h O fun s h O => opsG P ops.toList B s h O K) : Bar P ops K c B s h O := by
  unfold opsT at hk
  split at hk
  · rename_i o ho
    refine ⟨o, by simpa using ho, ?_⟩
    replace hk := guardB_eq hk
    simp only [opB, putK_eq] at hk
    rcases guardK_run hk with ⟨hw, hk⟩ | ⟨hw, hk⟩
    · exact .run hw ((opK_sound hk).mono fun v h O k => SOps.of_opsG B _ h O k)
    · exact .skip hw (SOps.of_opsG B _ h O hk)
  · exact hk.elim
theorem SOpT.wpOp {ops : Array Oper} {i : Nat} {o : Oper} (ho : ops[i]? = some o) {s : List Value} {h : View} {O : Hp} {K : List Value → View → Hp → Prop} (hs : SOpT P ops o s h O K) {a : Act} {w : World}
    {next : Act → World → Prop} {Q : Exit → Act → World → Prop} (ha : a.tmps = ⟨s⟩) (hv : Val h O w) (hn : ∀ v h' O' w', Step h O w h' O' w' → K (putS s o.dst v) h' O' → next (a.put o.dst v) w') :
    Go.wpOp P ops Q i next a w := by
  unfold Go.wpOp
  rw [ho]
  simp only
  rw [ha]
  cases hs with
  | skip hw hk =>
    rw [hw, if_neg (by simp)]
    exact hn _ _ _ _ (Step.refl hv) hk
  | run hw hk =>
    rw [hw, if_pos rfl]
    exact .inl (hk.wp ha hv hn)
theorem SOps.anyT {ops : Array Oper} {K : List Value → View → Hp → Prop} {Q : Exit → Act → World → Prop} (hsel : Region.noSelect ops = true) {c : Nat} {B : List Nat} (hB : ∀ x ∈ B, Blk ops c x) : ∀ (n : Nat) (A : List Nat) (listed : Array Bool) (s : List Value) (h : View) (O : Hp) (a : Act) (w : World),
    (A ++ c :: B).length = n → Inv P (fun _ _ => False) ops (A ++ c :: B) listed → (∀ x ∈ A, Blk ops x c) → SOps P ops (Bar P ops K c B) A s h O → a.tmps = ⟨s⟩ → a.defers = [] → Val h O w →
    (∀ s' h' O' a' w', a'.tmps = ⟨s'⟩ → a'.defers = [] → Step h O w h' O' w' → K s' h' O' → Q .normal a' w') → wpAny P .any ops Q n listed a w := by
  intro n
  induction n with
  | zero =>
    intro A listed s h O a w hl
    simp at hl
  | succ n ih =>
    intro A listed s h O a w hl hi hA hk ha hd hv hq
    have hn := hi.nodup
    refine ⟨fun he => ?_, fun x hx => ?_⟩
    · cases A with
      | nil => have := hi.ready; rw [he] at this; cases this
      | cons y L => have := Inv.ready (L := L ++ c :: B) hi; rw [he] at this; cases this
    · have hm := (hi.mem x).2 (mem_ready.1 hx).1
      rcases List.mem_append.1 hm with h1 | h1
      · obtain ⟨A1, A2, rfl⟩ := List.append_of_mem h1
        have hc : ∀ y ∈ A1, comm2 P ops y x = true := by
          intro y hy
          have hpw := hi.pw
          have hnn := hi.nodup
          rw [List.append_assoc] at hpw hnn
          have h2 := (List.pairwise_append.1 hpw).2.2 y hy x (by simp)
          rcases h2.1 with e | e | e | e
          · rw [List.nodup_append] at hnn
            exact absurd e.symm (hnn.2.2 y hy x (by simp))
          · exact e
          · exact absurd hx (e listed hi.size hi.closed ((hi.mem y).1 (by simp [hy])))
          · exact e.elim
        obtain ⟨o, ho, hk⟩ := SOps.front hsel A1 A2 s h O ⟨w, hv⟩ hc hk
        refine hk.wpOp ho ha hv fun v h' O' w' st k => ?_
        have hi2 : Inv P (fun _ _ => False) ops (A1 ++ x :: (A2 ++ c :: B)) listed := by simpa using hi
        exact ih (A1 ++ A2) _ _ h' O' _ w' (by simp at hl ⊢; omega) (by simpa using hi2.step hx) (fun y hy => hA y (by rcases List.mem_append.1 hy with h | h <;> simp [h])) k (put_tmps ha _ _) (by rw [put_defers]; exact hd) st.val
          fun s2 h2 O2 a2 w2 e1 e2 st2 k2 => hq s2 h2 O2 a2 w2 e1 e2 (st.trans st2) k2
      · rcases List.mem_cons.1 h1 with rfl | h1
        · cases A with
          | cons y A => exact absurd hx (hA y (by simp) listed hi.size hi.closed ((hi.mem y).1 (by simp)))
          | nil =>
            obtain ⟨o, ho, hk⟩ := hk
            refine hk.wpOp ho ha hv fun v h' O' w' st k => ?_
            exact SOps.any hsel n B _ _ h' O' _ w' (by simpa using hl) (hi.step (A := []) hx) k (put_tmps ha _ _) (by rw [put_defers]; exact hd) st.val
              fun s2 h2 O2 a2 w2 e1 e2 st2 k2 => hq s2 h2 O2 a2 w2 e1 e2 (st.trans st2) k2
        · exact absurd hx (hB x h1 listed hi.size hi.closed ((hi.mem c).1 (by simp)))
def aheadOk (ops : Array Oper) (c : Nat) (B : List Nat) : List Nat → Bool
  | [] => true
  | a :: r => ((hang ops [a] (r ++ c :: B)).any (Nat.beq c) && !Nat.beq c a) && aheadOk ops c B r
theorem ahead_of {ops : Array Oper} {c : Nat} {B : List Nat} : ∀ A, aheadOk ops c B A = true → ∀ x ∈ A, Blk ops x c
  | [], _ => by simp
  | a :: r, h => by
    simp only [aheadOk, Bool.and_eq_true] at h
    intro x hx
    rcases List.mem_cons.1 hx with rfl | hx
    · obtain ⟨b, hb, he⟩ := List.any_eq_true.1 h.1.1
      rw [← Nat.eq_of_beq_eq_true he] at hb
      exact blk_of hb fun e => by have h9 := h.1.2; rw [e] at h9; simp at h9
    · exact ahead_of r h.2 x hx
def drawOkT (P : Program) (ops : Array Oper) (A : List Nat) (c : Nat) (B : List Nat) : Bool :=
  drawOk P ops (A ++ c :: B) && (aheadOk ops c B A && B.all fun x => (hang ops [c] B).any (Nat.beq x) && !Nat.beq x c)
/-- All of A comes ahead of the call c, all of B behind it. -/
theorem DrawSt.walkT {ops : Array Oper} {s : List Value} {h : View} {O : Hp} {K : List Value → View → Hp → Prop} (A : List Nat) (c : Nat) (B : List Nat) (hm : P.follows .mixedOrders = true) (hL : drawOkT P ops A c B = true)
    (hk : opsG P ops.toList A s h O fun s h O => opsT P ops.toList c s h O fun s h O => opsG P ops.toList B s h O K) : DrawSt P ops s h O K := by
  refine .mk fun id Q a w ha hd hv hq => wp_region_any hm ?_
  unfold drawOkT at hL
  simp only [Bool.and_eq_true] at hL
  obtain ⟨hL, h1, h2⟩ := hL
  obtain ⟨hi, hlen, hsel⟩ := Inv.start hL
  have st := hv.drawn (w.drawn + 1)
  refine SOps.anyT (K := K) hsel (fun x hx => ?_) ops.size A _ s h O a _ hlen hi (ahead_of A h1) (SOps.mono (fun s h O k => Bar.of_opsT k) A s h O (SOps.of_opsG A s h O hk)) ha hd st.val fun s2 h2 O2 a2 w2 e1 e2 st2 k2 => hq s2 h2 O2 a2 w2 e1 e2 (st.trans st2) k2
  have := List.all_eq_true.1 h2 x hx
  simp only [Bool.and_eq_true] at this
  obtain ⟨b, hb, he⟩ := List.any_eq_true.1 this.1
  rw [← Nat.eq_of_beq_eq_true he] at hb
  exact blk_of hb (fun e => by have h9 := this.2; rw [e] at h9; simp at h9)
end Gv
end Go
/- Regions whose order is open, what is read being told ahead: F. Whatever else happens leaves F as it is. -/
namespace Go
namespace Gv
variable {P : Program}
def commuteF (P : Program) (ops : Array Oper) (a x : Oper) : Bool := (isLight P a.op || isLight P x.op) && a.apart ops x
/-- How an operation goes, if it reads from hF and F alone. -/
inductive SOpF (P : Program) (ops : Array Oper) (hF : View) (F : Hp) (o : Oper) (s : List Value) (h : View) (O : Hp) (K : List Value → View → Hp → Prop) : Prop
  | light (v : Value) (hr : RunsG P ops o s hF F v) (hc : isLight P o.op = true) (hk : K (putS s o.dst v) h O)
  | skip (hw : Region.wanted o (yielded ops ⟨s⟩) = false) (hk : K (putS s o.dst undef) h O)
  | heavy (hw : Region.wanted o (yielded ops ⟨s⟩) = true) (hc : isLight P o.op = false) (hk : Sound P o.op o.type s h O fun v h' O' => (∀ b x, (b, x) ∈ F → (b, x) ∈ O') ∧ K (putS s o.dst v) h' O')
theorem SOpF.mono {ops : Array Oper} {hF : View} {F : Hp} {o : Oper} {s : List Value} {h : View} {O : Hp} {K K' : List Value → View → Hp → Prop} (hs : SOpF P ops hF F o s h O K) (hm : ∀ s h O, K s h O → K' s h O) :
    SOpF P ops hF F o s h O K' := by
  cases hs with
  | light v hr hc hk => exact .light v hr hc (hm _ _ _ hk)
  | skip hw hk => exact .skip hw (hm _ _ _ hk)
  | heavy hw hc hk => exact .heavy hw hc (hk.mono fun v h O e => ⟨e.1, hm _ _ _ e.2⟩)
/-- What is read can be read. -/
structure Has (hF : View) (F : Hp) (h : View) (O : Hp) : Prop where
  mono : ∀ b x, hF b = some x → h b = some x
  sub : ∀ b x, (b, x) ∈ F → (b, x) ∈ O
theorem Has.val {hF : View} {F : Hp} {h : View} {O : Hp} {w : World} (H : Has hF F h O) (hF2 : (F.map Prod.fst).Nodup) (hv : Val h O w) : Val hF F w where
  per := fun b o e => hv.per b o (H.mono b o e)
  own := fun b o e => hv.own b o (H.sub b o e)
  nodup := hF2
  apart := fun b o e => by
    cases hb : hF b with
    | none => rfl
    | some x => have := hv.apart b o (H.sub b o e); rw [H.mono b x hb] at this; cases this
theorem SOpF.monoV {ops : Array Oper} {hF : View} {F : Hp} {o : Oper} {s : List Value} {h : View} {O : Hp} {K K' : List Value → View → Hp → Prop} (hs : SOpF P ops hF F o s h O K) (H : Has hF F h O) {w : World} (hv : Val h O w)
    (hm : ∀ s h O, Has hF F h O → (∃ w, Val h O w) → K s h O → K' s h O) : SOpF P ops hF F o s h O K' := by
  cases hs with
  | light v hr hc hk => exact .light v hr hc (hm _ _ _ H ⟨w, hv⟩ hk)
  | skip hw hk => exact .skip hw (hm _ _ _ H ⟨w, hv⟩ hk)
  | heavy hw hc hk => exact .heavy hw hc ((hk.more).mono fun v h' O' ⟨m, e1, e2, e3⟩ => ⟨e2, hm _ _ _ ⟨fun b x e => m b x (H.mono b x e), e2⟩ e1 e3⟩)
theorem swapF {ops : Array Oper} {hF : View} {F : Hp} {a x : Oper} (hc : commuteF P ops a x = true) (hsa : ∀ cs b, a.op ≠ .select cs b) (hsx : ∀ cs b, x.op ≠ .select cs b)
    {s : List Value} {h : View} {O : Hp} {K : List Value → View → Hp → Prop} {w0 : World} (hv : Val h O w0) (hv0 : Val hF F w0)
    (hk : SOpF P ops hF F a s h O fun s h O => SOpF P ops hF F x s h O K) : SOpF P ops hF F x s h O fun s h O => SOpF P ops hF F a s h O K := by
  simp only [commuteF, Bool.and_eq_true, Bool.or_eq_true] at hc
  obtain ⟨a1, a2, a3⟩ := Oper.apart_spec hc.2
  have comm : ∀ v u, putS (putS s a.dst v) x.dst u = putS (putS s x.dst u) a.dst v := fun v u => putS_comm v u a2
  cases hk with
  | light v hr hl hk =>
    cases hk with
    | light u hr2 hl2 hk2 =>
      refine .light u ((RunsG.putS hsx a1).1 hr2) hl2 (.light v ((RunsG.putS hsa a3).2 hr) hl ?_)
      rw [← comm]; exact hk2
    | skip hw hk2 =>
      refine .skip (by rw [← hw]; exact (wanted_putS a1).symm) (.light v ((RunsG.putS hsa a3).2 hr) hl ?_)
      rw [← comm]; exact hk2
    | heavy hw h2 hk2 =>
      rw [wanted_putS a1] at hw
      refine .heavy hw h2 (((Sound.putS hsx a1).1 hk2).mono fun u h' O' ⟨e1, e2⟩ => ⟨e1, .light v ((RunsG.putS hsa a3).2 hr) hl ?_⟩)
      rw [← comm]; exact e2
  | skip hw hk =>
    have hwa : ∀ u, Region.wanted a (yielded ops ⟨putS s x.dst u⟩) = false := fun u => by rw [wanted_putS a3]; exact hw
    cases hk with
    | light u hr2 hl2 hk2 =>
      refine .light u ((RunsG.putS hsx a1).1 hr2) hl2 (.skip (hwa u) ?_)
      rw [← comm]; exact hk2
    | skip hw2 hk2 =>
      refine .skip (by rw [← hw2]; exact (wanted_putS a1).symm) (.skip (hwa _) ?_)
      rw [← comm]; exact hk2
    | heavy hw2 h2 hk2 =>
      rw [wanted_putS a1] at hw2
      refine .heavy hw2 h2 (((Sound.putS hsx a1).1 hk2).mono fun u h' O' ⟨e1, e2⟩ => ⟨e1, .skip (hwa u) ?_⟩)
      rw [← comm]; exact e2
  | heavy hw h2 hk =>
    have hx : isLight P x.op = true := by
      rcases hc.1 with e | e
      · rw [h2] at e; cases e
      · exact e
    have hwa : ∀ u, Region.wanted a (yielded ops ⟨putS s x.dst u⟩) = true := fun u => by rw [wanted_putS a3]; exact hw
    have hm := hk.more
    obtain ⟨v0, _, h0, O0, _, _, ⟨w1, hv1⟩, _, k0⟩ := (hm ⟨⟨s⟩, []⟩ w0 "" none #[] none rfl hv).some
    cases k0 with
    | light u hr2 hl2 _ =>
      have pu : RunsG P ops x s hF F u := (RunsG.putS hsx a1).1 hr2
      refine .light u pu hx (.heavy (hwa u) h2 (((Sound.putS hsa a3).2 hk).mono fun v h' O' ⟨e1, k⟩ => ⟨e1, ?_⟩))
      cases k with
      | light u' hr3 _ k3 =>
        have : u' = u := ((RunsG.putS hsx a1).1 hr3).det pu hv0 hv0
        subst this; rw [← comm]; exact k3
      | skip hw3 k3 =>
        have : undef = u := by
          rcases pu with ⟨e, _⟩ | ⟨_, e⟩
          · rw [wanted_putS a1] at hw3; rw [hw3] at e; cases e
          · exact e.symm
        rw [← comm, ← this]; exact k3
      | heavy _ h3 _ => rw [hx] at h3; cases h3
    | skip hw3 _ =>
      have hws : Region.wanted x (yielded ops ⟨s⟩) = false := by rw [← hw3]; exact (wanted_putS a1).symm
      refine .skip hws (.heavy (hwa _) h2 (((Sound.putS hsa a3).2 hk).mono fun v h' O' ⟨e1, k⟩ => ⟨e1, ?_⟩))
      have hws' : Region.wanted x (yielded ops ⟨putS s a.dst v⟩) = false := by rw [wanted_putS a1]; exact hws
      cases k with
      | light u' hr3 _ k3 =>
        have : u' = undef := by
          rcases hr3 with ⟨e, _⟩ | ⟨_, e⟩
          · rw [hws'] at e; cases e
          · exact e
        subst this; rw [← comm]; exact k3
      | skip _ k3 => rw [← comm]; exact k3
      | heavy _ h3 _ => rw [hx] at h3; cases h3
    | heavy _ h3 _ => rw [hx] at h3; cases h3
def SOpsF (P : Program) (ops : Array Oper) (hF : View) (F : Hp) (K : List Value → View → Hp → Prop) : List Nat → List Value → View → Hp → Prop
  | [], s, h, O => K s h O
  | i :: r, s, h, O => ∃ o, ops[i]? = some o ∧ SOpF P ops hF F o s h O (SOpsF P ops hF F K r)
def commF2 (P : Program) (ops : Array Oper) (i j : Nat) : Bool :=
  match ops.toList[i]?, ops.toList[j]? with
  | some a, some x => commuteF P ops a x
  | _, _ => false
theorem SOpsF.front {ops : Array Oper} {hF : View} {F : Hp} (hF2 : (F.map Prod.fst).Nodup) {K : List Value → View → Hp → Prop} (hsel : Region.noSelect ops = true) {x : Nat} : ∀ (A B : List Nat) (s : List Value) (h : View) (O : Hp), Has hF F h O → (∃ w, Val h O w) →
    (∀ a ∈ A, commF2 P ops a x = true) → SOpsF P ops hF F K (A ++ x :: B) s h O → SOpsF P ops hF F K (x :: (A ++ B)) s h O
  | [], B, s, h, O, _, _, _, hk => hk
  | a :: A, B, s, h, O, H, ⟨w, hv⟩, hc, hk => by
    obtain ⟨oa, ha, hk⟩ := hk
    have hcx := hc a (by simp)
    unfold commF2 at hcx
    rw [Array.getElem?_toList, ha, Array.getElem?_toList] at hcx
    cases hx : ops[x]? with
    | none => rw [hx] at hcx; cases hcx
    | some ox =>
      rw [hx] at hcx
      have hk2 : SOpF P ops hF F oa s h O fun s h O => SOpF P ops hF F ox s h O (SOpsF P ops hF F K (A ++ B)) := by
        refine hk.monoV H hv fun s2 h2 O2 H2 hv2 k2 => ?_
        obtain ⟨ox', hx', k3⟩ := SOpsF.front hF2 hsel A B s2 h2 O2 H2 hv2 (fun b hb => hc b (by simp [hb])) k2
        rw [hx] at hx'; cases hx'
        exact k3
      exact ⟨ox, hx, (swapF hcx (Region.noSelect_spec hsel _ _ · · ha) (Region.noSelect_spec hsel _ _ · · hx) hv (H.val hF2 hv) hk2).mono fun s2 h2 O2 k => ⟨oa, ha, k⟩⟩
theorem SOpF.wpOp {ops : Array Oper} {hF : View} {F : Hp} (hF2 : (F.map Prod.fst).Nodup) {i : Nat} {o : Oper} (ho : ops[i]? = some o) {s : List Value} {h : View} {O : Hp} (H : Has hF F h O) {K : List Value → View → Hp → Prop} (hs : SOpF P ops hF F o s h O K) {a : Act} {w : World}
    {next : Act → World → Prop} {Q : Exit → Act → World → Prop} (ha : a.tmps = ⟨s⟩) (hv : Val h O w) (hn : ∀ v h' O' w', Step h O w h' O' w' → Has hF F h' O' → K (putS s o.dst v) h' O' → next (a.put o.dst v) w') :
    Go.wpOp P ops Q i next a w := by
  unfold Go.wpOp
  rw [ho]
  simp only
  rw [ha]
  cases hs with
  | light v hr _ hk =>
    rcases hr with ⟨hw, hr⟩ | ⟨hw, rfl⟩
    · rw [hw, if_pos rfl]
      refine .inl ?_
      have := hr a w o.pos o.dst o.after o.guard ha (H.val hF2 hv)
      have e : ({ dst := o.dst, op := o.op, type := o.type, pos := o.pos, after := o.after, guard := o.guard } : Oper) = o := rfl
      rw [e] at this
      unfold Oper.wp
      rw [this, Oper.upon_value]
      exact hn _ _ _ _ (Step.refl hv) H hk
    · rw [hw, if_neg (by simp)]
      exact hn _ _ _ _ (Step.refl hv) H hk
  | skip hw hk =>
    rw [hw, if_neg (by simp)]
    exact hn _ _ _ _ (Step.refl hv) H hk
  | heavy hw _ hk =>
    rw [hw, if_pos rfl]
    exact .inl (hk.wp ha hv fun v h' O' w' st k => hn v h' O' w' st ⟨fun b x e => st.mono b x (H.mono b x e), k.1⟩ k.2)
structure InvF (P : Program) (ops : Array Oper) (L : List Nat) (listed : Array Bool) : Prop where
  size : listed.size = ops.size
  mem : ∀ i, i ∈ L ↔ listed.getD i true = false
  nodup : L.Nodup
  pw : L.Pairwise fun a x => (x = a ∨ commF2 P ops a x = true ∨ Blk ops a x) ∧ edges ops a x = false
  selfE : ∀ i ∈ L, edges ops i i = false
  closed : Closed ops listed
  lt : ∀ i j, edges ops i j = true → j < ops.size
/-- The same with all pairs let. -/
theorem InvF.toE {ops : Array Oper} {L : List Nat} {listed : Array Bool} (hi : InvF P ops L listed) : Inv P (fun _ _ => True) ops L listed :=
  ⟨hi.size, hi.mem, hi.nodup, hi.pw.imp fun h => ⟨.inr (.inr (.inr trivial)), h.2⟩, hi.selfE, hi.closed, hi.lt⟩
theorem InvF.step {ops : Array Oper} {A B : List Nat} {x : Nat} {listed : Array Bool} (hi : InvF P ops (A ++ x :: B) listed) (hr : x ∈ Region.ready .any ops listed) :
    InvF P ops (A ++ B) (listed.setIfInBounds x true) :=
  let j := hi.toE.step hr
  ⟨j.size, j.mem, j.nodup, hi.pw.sublist (List.Sublist.append (List.Sublist.refl _) (List.sublist_cons_self _ _)), j.selfE, j.closed, j.lt⟩
theorem SOpsF.any {ops : Array Oper} {hF : View} {F : Hp} (hF2 : (F.map Prod.fst).Nodup) {K : List Value → View → Hp → Prop} {Q : Exit → Act → World → Prop} (hsel : Region.noSelect ops = true) : ∀ (n : Nat) (L : List Nat) (listed : Array Bool) (s : List Value) (h : View) (O : Hp) (a : Act) (w : World),
    L.length = n → InvF P ops L listed → Has hF F h O → SOpsF P ops hF F K L s h O → a.tmps = ⟨s⟩ → a.defers = [] → Val h O w →
    (∀ s' h' O' a' w', a'.tmps = ⟨s'⟩ → a'.defers = [] → Step h O w h' O' w' → K s' h' O' → Q .normal a' w') → wpAny P .any ops Q n listed a w := by
  intro n
  induction n with
  | zero =>
    intro L listed s h O a w hl hi H hk ha hd hv hq
    have : L = [] := List.eq_nil_of_length_eq_zero hl
    subst this
    refine ⟨?_, hq s h O a w ha hd (Step.refl hv) hk⟩
    rw [List.eq_nil_iff_forall_not_mem]
    intro j hj
    have := (hi.mem j).2 (mem_ready.1 hj).1
    cases this
  | succ n ih =>
    intro L listed s h O a w hl hi H hk ha hd hv hq
    refine ⟨fun he => ?_, fun x hx => ?_⟩
    · cases L with
      | nil => simp at hl
      | cons y L => have := hi.toE.ready; rw [he] at this; cases this
    · have hm := (hi.mem x).2 (mem_ready.1 hx).1
      obtain ⟨A, B, rfl⟩ := List.append_of_mem hm
      have hc : ∀ y ∈ A, commF2 P ops y x = true := by
        intro y hy
        have h1 := (List.pairwise_append.1 hi.pw).2.2 y hy x (by simp)
        rcases h1.1 with e | e | e
        · have hn := hi.nodup
          rw [List.nodup_append] at hn
          exact absurd e.symm (hn.2.2 y hy x (by simp))
        · exact e
        · exact absurd hx (e listed hi.size hi.closed ((hi.mem y).1 (by simp [hy])))
      obtain ⟨o, ho, hk⟩ := SOpsF.front hF2 hsel A B s h O H ⟨w, hv⟩ hc hk
      refine hk.wpOp hF2 ho H ha hv fun v h' O' w' st H' k => ?_
      exact ih (A ++ B) _ _ h' O' _ w' (by simp at hl ⊢; omega) (hi.step hx) H' k (put_tmps ha _ _) (by rw [put_defers]; exact hd) st.val
        fun s2 h2 O2 a2 w2 e1 e2 st2 k2 => hq s2 h2 O2 a2 w2 e1 e2 (st.trans st2) k2
def pairsOkF (P : Program) (ops : Array Oper) : List Nat → Bool
  | [] => true
  | a :: r => (let B := hang ops [a] r; r.all fun x => (commF2 P ops a x || B.any (Nat.beq x)) && !edges ops a x) && pairsOkF P ops r
theorem pairs_ofF {ops : Array Oper} : ∀ L : List Nat, pairsOkF P ops L = true → L.Pairwise fun a x => (x = a ∨ commF2 P ops a x = true ∨ Blk ops a x) ∧ edges ops a x = false
  | [], _ => .nil
  | a :: r, h => by
    simp only [pairsOkF, Bool.and_eq_true, List.all_eq_true] at h
    refine .cons (fun x hx => ?_) (pairs_ofF r h.2)
    obtain ⟨h1, h2⟩ := h.1 x hx
    refine ⟨?_, by simpa using h2⟩
    by_cases e : x = a
    · exact .inl e
    · rcases Bool.or_eq_true _ _ ▸ h1 with h3 | h3
      · exact .inr (.inl h3)
      · obtain ⟨b, hb, he⟩ := List.any_eq_true.1 h3
        rw [← Nat.eq_of_beq_eq_true he] at hb
        exact .inr (.inr (blk_of hb e))
def drawOkF (P : Program) (ops : Array Oper) (L : List Nat) : Bool :=
  pairsOkF P ops L && Nat.beq L.length ops.size && L.all (fun i => Nat.blt i ops.size && !edges ops i i) && (List.range ops.size).all (fun i => L.any (Nat.beq i)) &&
    ops.toList.all (fun o => o.after.toList.all fun e => !Region.binds .any e || Nat.blt e.on ops.size) && Region.noSelect ops && noRep L
theorem InvF.start {ops : Array Oper} {L : List Nat} (h : drawOkF P ops L = true) : InvF P ops L (Array.replicate ops.size false) ∧ L.length = ops.size ∧ Region.noSelect ops = true := by
  unfold drawOkF at h
  simp only [Bool.and_eq_true] at h
  obtain ⟨⟨⟨⟨⟨⟨h1, h2⟩, h3⟩, h4⟩, h5⟩, h6⟩, h7⟩ := h
  have hlen := Nat.eq_of_beq_eq_true h2
  have hin : ∀ i, i < ops.size → i ∈ L := by
    intro i hi
    have := List.all_eq_true.1 h4 i (List.mem_range.2 hi)
    obtain ⟨b, hb, e⟩ := List.any_eq_true.1 this
    rw [Nat.eq_of_beq_eq_true e]; exact hb
  have hlt : ∀ i ∈ L, i < ops.size ∧ edges ops i i = false := by
    intro i hi
    have := List.all_eq_true.1 h3 i hi
    simp only [Bool.and_eq_true] at this
    exact ⟨Nat.le_of_ble_eq_true this.1, by simpa using this.2⟩
  have hnd : L.Nodup := noRep_nodup L h7
  refine ⟨⟨by simp, fun i => ?_, hnd, pairs_ofF L h1, fun i hi => (hlt i hi).2, fun i j _ hl => ?_, fun i j he => ?_⟩, hlen, h6⟩
  · constructor
    · intro hi; simp [Array.getD_eq_getD_getElem?, (hlt i hi).1]
    · intro hi
      refine hin i ?_
      rcases Nat.lt_or_ge i ops.size with h7 | h7
      · exact h7
      · rw [Array.getD_eq_getD_getElem?, Array.getElem?_eq_none (by simpa using h7)] at hi; cases hi
  · exfalso
    simp only [Array.getD_eq_getD_getElem?, Array.getElem?_replicate] at hl
    split at hl <;> simp at hl
  · unfold edges at he
    rw [Array.getElem?_toList] at he
    cases ho : ops[i]? with
    | none => rw [ho] at he; cases he
    | some o =>
      rw [ho] at he
      simp only [List.any_eq_true, Bool.and_eq_true] at he
      obtain ⟨e, hm, hb, hj⟩ := he
      have := List.all_eq_true.1 (List.all_eq_true.1 h5 o (by simpa using Array.mem_of_getElem? ho)) e hm
      rw [hb] at this
      simp only [Bool.not_true, Bool.false_or] at this
      rw [← Nat.eq_of_beq_eq_true hj]
      exact Nat.le_of_ble_eq_true this
/-- What is read stays. -/
inductive SubSt (F O : Hp) (p : Prop) : Prop
  | mk (hs : ∀ y ∈ F, y ∈ O) (hp : p)
def gF (P : Program) (hF : View) (F : Hp) (o : Op) (ty : TypeId) (s : List Value) (h : View) (O : Hp) (b : Bool) (K : Value → View → Hp → Prop) : Prop :=
  match b with
  | true => match isLight P o with
    | true => lightK P o s hF F fun v => K v h O
    | false => heavyK P o ty s h O fun v h' O' => SubSt F O' (K v h' O')
  | false => K undef h O
def opsF (P : Program) (all : List Oper) (hF : View) (F : Hp) : List Nat → List Value → View → Hp → (List Value → View → Hp → Prop) → Prop
  | [], s, h, O, K => NextSt (K s h O)
  | i :: r, s, h, O, K => match all[i]? with
    | some o => guardB all s o.guard fun b =>
        gF P hF F o.op o.type s h O b fun v h' O' => putK s o.dst v fun s' => opsF P all hF F r s' h' O' K
    | none => False
theorem SOpsF.of_opsF {ops : Array Oper} {hF : View} {F : Hp} {K : List Value → View → Hp → Prop} : ∀ (L : List Nat) (s : List Value) (h : View) (O : Hp), opsF P ops.toList hF F L s h O K → SOpsF P ops hF F K L s h O
  | [], _, _, _, hk => NextSt.out hk
  | i :: r, s, h, O, hk => by
    unfold opsF at hk
    split at hk
    · rename_i o ho
      refine ⟨o, by simpa using ho, ?_⟩
      replace hk := guardB_eq hk
      simp only [gF, putK_eq] at hk
      rcases guardK_run hk with ⟨hw, hk⟩ | ⟨hw, hk⟩
      · split at hk
        · rename_i hl
          obtain ⟨u, hu, hr⟩ := lightK_run o.type hk
          exact .light u (.inl ⟨hw, hr⟩) hl (SOpsF.of_opsF r _ h O hu)
        · rename_i hl
          refine .heavy hw hl ((heavyK_sound hk).mono fun v h' O' k => ?_)
          cases k with | mk hs hp => exact ⟨fun b x e => hs _ e, SOpsF.of_opsF r _ h' O' hp⟩
      · exact .skip hw (SOpsF.of_opsF r _ h O hk)
    · exact hk.elim
theorem DrawSt.walkF {ops : Array Oper} {s : List Value} {h : View} {O : Hp} {K : List Value → View → Hp → Prop} (F : Hp) (L : List Nat) (hm : P.follows .mixedOrders = true) (hL : drawOkF P ops L = true) (hs : F.Sublist O)
    (hk : opsF P ops.toList h F L s h O K) : DrawSt P ops s h O K := by
  refine .mk fun id Q a w ha hd hv hq => wp_region_any hm ?_
  obtain ⟨hi, hlen, hsel⟩ := InvF.start hL
  have st := hv.drawn (w.drawn + 1)
  exact SOpsF.any (hv.nodup.sublist (hs.map _)) hsel ops.size L _ s h O a _ hlen hi ⟨fun _ _ e => e, fun b x e => hs.mem e⟩ (SOpsF.of_opsF L s h O hk) ha hd st.val fun s2 h2 O2 a2 w2 e1 e2 st2 k2 => hq s2 h2 O2 a2 w2 e1 e2 (st.trans st2) k2
end Gv
end Go
/- Rules: elements of several cells, stored whole or by one part. -/
namespace Go
namespace Gv
variable {P : Program}
theorem flat_getE {α : Type} {g : α → List Value} {s : Nat} (hg : ∀ x, (g x).length = s) : ∀ (xs : List α) (k j : Nat) (x : α), xs[k]? = some x → j < s → (xs.flatMap g)[k * s + j]? = (g x)[j]?
  | [], _, _, _, h, _ => by simp at h
  | y :: xs, 0, j, x, h, hj => by
    have e : y = x := by simpa using h
    rw [List.flatMap_cons, List.getElem?_append_left (by rw [hg]; omega), e, Nat.zero_mul, Nat.zero_add]
  | y :: xs, k + 1, j, x, h, hj => by
    rw [List.flatMap_cons, List.getElem?_append_right (by rw [hg, Nat.add_mul]; omega), hg]
    have : (k + 1) * s + j - s = k * s + j := by rw [Nat.add_mul]; omega
    rw [this]
    exact flat_getE hg xs k j x (by simpa using h) hj
theorem flat_set {α : Type} {g : α → List Value} {s : Nat} (hg : ∀ x, (g x).length = s) {xs : List α} {i : Nat} {x : α} (hi : i < xs.length) : setRange (xs.flatMap g) (i * s) (g x) = (xs.set i x).flatMap g := by
  have hl := flat_length hg xs
  have hl2 := flat_length hg (xs.set i x)
  rw [List.length_set] at hl2
  have his : i * s + s ≤ xs.length * s := by
    have := Nat.mul_le_mul_right s (show i + 1 ≤ xs.length from hi)
    rw [Nat.add_mul, Nat.one_mul] at this; exact this
  apply List.ext_getElem?
  intro j
  rw [setRange_get, hg]
  by_cases hj : j < xs.length * s
  · have hs : 0 < s := by
      rcases Nat.eq_zero_or_pos s with h | h
      · rw [h] at hj; omega
      · exact h
    have e : j = (j / s) * s + j % s := by have := Nat.div_add_mod j s; rw [Nat.mul_comm] at this; exact this.symm
    have hm := Nat.mod_lt j hs
    have hq : j / s < xs.length := Nat.div_lt_of_lt_mul (by rw [Nat.mul_comm]; exact hj)
    by_cases hji : j / s = i
    · have e1 : (xs.set i x)[j / s]? = some x := by rw [hji, List.getElem?_set_self hi]
      have e2 := flat_getE hg (xs.set i x) (j / s) (j % s) x e1 hm
      rw [← e] at e2
      rw [hji] at e
      rw [if_pos (by omega), e2]
      congr 1; omega
    · have e1 : (xs.set i x)[j / s]? = some xs[j / s] := by rw [List.getElem?_set_ne (Ne.symm hji), List.getElem?_eq_getElem hq]
      have e2 := flat_getE hg (xs.set i x) (j / s) (j % s) _ e1 hm
      have e3 := flat_getE hg xs (j / s) (j % s) _ (List.getElem?_eq_getElem hq) hm
      rw [← e] at e2 e3
      rw [e2, if_neg ?_, e3]
      rintro ⟨h1, h2, _⟩
      have : j / s = i := Nat.div_eq_of_lt_le (by omega) (by rw [Nat.add_mul, Nat.one_mul]; omega)
      exact hji this
  · rw [if_neg (by omega), List.getElem?_eq_none (by omega), List.getElem?_eq_none (by omega)]
theorem setRange_app {l pad vs : List Value} {off : Nat} (h : off + vs.length ≤ l.length) : setRange (l ++ pad) off vs = setRange l off vs ++ pad := by
  apply List.ext_getElem?
  intro j
  by_cases hj : j < l.length
  · rw [List.getElem?_append_left (by rw [setRange_length]; exact hj), setRange_get, setRange_get, List.length_append]
    by_cases h2 : off ≤ j ∧ j < off + vs.length
    · rw [if_pos ⟨h2.1, h2.2, by omega⟩, if_pos ⟨h2.1, h2.2, hj⟩]
    · rw [if_neg (fun h3 => h2 ⟨h3.1, h3.2.1⟩), if_neg (fun h3 => h2 ⟨h3.1, h3.2.1⟩), List.getElem?_append_left hj]
  · rw [List.getElem?_append_right (by rw [setRange_length]; omega), setRange_get, setRange_length, if_neg (by omega), List.getElem?_append_right (by omega)]
theorem StoreSt.bufr {b : Buf} {e : TypeId} {l : List Value} {n sz i : Nat} {vs : List Value} {h : View} {O : Hp} {f : Hp → Hp} {off : Nat} {K : View → Hp → Prop} (hO : Loc O (b.hp e l) f) (hb : b.ok sz l n) (ho : off = ofs b.a + i)
    (hi : i + vs.length ≤ l.length) (h0 : 0 < l.length) (h1 : vs.all (·.oneCell') = true) (hk : K h (f (b.hp e (setRange l i vs)))) : StoreSt h O (blk b.a) off vs K := by
  obtain ⟨a, cap, pad, fr⟩ := b
  rcases hb with ⟨hl, ⟨ha, hc, hn⟩ | ⟨ha, hc, hp, hfr⟩⟩
  · simp only at ha hc hn
    subst hn; rw [Nat.zero_mul] at hl; omega
  · simp only at ha hc hp hfr
    have ha' : ofs a = 0 := by rw [ha]; rfl
    simp only [ha', Nat.zero_add] at ho
    subst ho
    have e1 : ∀ l, Buf.hp ⟨a, cap, pad, fr⟩ e l = [(blk a, .cells ⟨l ++ pad⟩ e fr)] := fun l => by rw [ha]; rfl
    rw [e1] at hO hk
    have hcap : l.length ≤ cap * sz := by
      have : n * sz ≤ cap * sz := Nat.mul_le_mul_right _ hc
      omega
    refine .own hO.upd (by simp only [List.length_append]; omega) (by rcases hfr with h | h <;> omega) h1 ?_
    rw [setRange_app hi]
    exact hk
/-- An element, whole. -/
theorem StoreSt.bufe {α : Type} {b : Buf} {e : TypeId} {g : α → List Value} {xs : List α} {n s i : Nat} {x : α} {vs : List Value} {h : View} {O : Hp} {f : Hp → Hp} {off : Nat} {K : View → Hp → Prop} (hO : Loc O (b.hp e (xs.flatMap g)) f) (hb : b.ok s (xs.flatMap g) n)
    (hg : ∀ x, (g x).length = s) (ho : off = ofs b.a + i * s) (hv : vs = g x) (hi : i < xs.length) (h0 : 0 < s) (h1 : (g x).all (·.oneCell') = true) (hk : K h (f (b.hp e ((xs.set i x).flatMap g)))) : StoreSt h O (blk b.a) off vs K := by
  subst hv
  have hl := flat_length hg xs
  have his : i * s + s ≤ xs.length * s := by
    have := Nat.mul_le_mul_right s (show i + 1 ≤ xs.length from hi)
    rw [Nat.add_mul, Nat.one_mul] at this; exact this
  refine .bufr hO hb ho (by rw [hg, hl]; exact his) (by rw [hl]; omega) h1 ?_
  rw [flat_set hg hi]; exact hk
/-- A call on a part of what is owned, in whatever order it lies. -/
theorem CallSt.frame {f : FuncId} {args : List Value} {h : View} {O H G : Hp} {K : Value → View → Hp → Prop} {R : Value → Hp → Prop} (hp : O.Perm (H ++ G)) (sp : GSpec P f args h H fun v _ O' => R v O') (hk : ∀ v O', R v O' → K v h (O' ++ G)) : CallSt P f args h O K :=
  .part H G (Wk.perm hp) R sp fun v O' hR => ⟨O' ++ G, Wk.refl _ _, hk v O' hR⟩
end Gv
end Go
/- Rules: room asked for ahead; a row after row. -/
namespace Go
namespace Gv
variable {P : Program}
/-- append of a row that is made, to nothing. -/
theorem RunSt.grow {t tn ty e : TypeId} {inf : TypeInfo} {kn kq : IntKind} {n : Nat} {x : Int} {h : View} {O : Hp} {K : Value → View → Hp → Prop} (ht : P.underlying t = some (.slice e)) (htn : P.underlying tn = some (.int kn)) (hi : P.info? e = some inf)
    (z : Value) (hz : inf.zero = some z) (hzl : (cellsL z).length = inf.size) (hx : x = n) (h0 : 0 < n) (hs : 0 < inf.size) (hfit : n * inf.bytes ≤ 140737488355328) (h63 : n ≤ 9223372036854775807)
    (hk : ∀ b' : Buf, b'.ok inf.size (rows n (cellsL z)) n → K (.slice b'.a n b'.cap) h (b'.hp e (rows n (cellsL z)) ++ O)) : RunSt P (Builtin.append_ #[t, tn] ty #[.slice none 0 0, .int kq x]) h O K := by
  subst hx
  refine .mk fun w hv => ?_
  have hrun := Lib.run_append_grow_zeros (P := P) w t tn ty e inf z kq kn ht htn hi hz none 0 0 [] (by rw [run_firstCells_none]) n h0 hs (by omega) (by omega) (by omega) (growslice_fits (by omega) (by rw [Nat.zero_add]; exact hfit))
  have hge := grownCap_ge w (0 + n) 0 e
  rw [Nat.zero_add] at hrun hge
  generalize hcap : grownCap w n 0 e = cap at hrun hge
  have hzero : ∀ m, Builtin.zeroCells z.cells m = ⟨rows m (cellsL z)⟩ := fun m => by
    unfold Builtin.zeroCells
    rw [cells_arr]
    exact zeroRow (cellsL z) _ _ rfl
  have hobj : (([] : List Value).toArray ++ Builtin.zeroCells z.cells n ++ Builtin.zeroCells z.cells (cap - n) : Array Value) = ⟨rows n (cellsL z) ++ rows (cap - n) (cellsL z)⟩ := by
    rw [hzero, hzero]; apply Array.ext'; simp
  rw [hobj] at hrun
  obtain ⟨st, f1, f2⟩ := Step.alloc (w' := w.drew.alloc (.cells ⟨rows n (cellsL z) ++ rows (cap - n) (cellsL z)⟩ e)) (obj := .cells ⟨rows n (cellsL z) ++ rows (cap - n) (cellsL z)⟩ e) hv rfl rfl rfl rfl
  let b' : Buf := ⟨some ⟨w.heap.size, 0, none⟩, cap, rows (cap - n) (cellsL z), (0, 0)⟩
  have hk' := hk b' ⟨by rw [rows_length, hzl], .inr ⟨rfl, hge, by simp only [b', rows_length, hzl], .inl (Nat.le_refl _)⟩⟩
  exact ⟨_, _, h, _, hrun, st, hk'⟩
/-- A row that is cut to nothing. -/
theorem Buf.empty {b : Buf} {l : List Value} {n sz : Nat} (hb : b.ok sz l n) : ∃ b' : Buf, b'.a = b.a ∧ b'.cap = b.cap ∧ b'.ok sz [] 0 ∧ ∀ e, b'.hp e [] = b.hp e l := by
  obtain ⟨a, cap, pad, fr⟩ := b
  obtain ⟨hl, hb⟩ := hb
  rcases hb with ⟨h1, h2, h3⟩ | ⟨h1, h2, h3, h4⟩
  · simp only at h1 h2 h3
    subst h1 h2 h3
    exact ⟨⟨none, 0, [], (0, 0)⟩, rfl, rfl, Buf.nil_ok sz, fun e => rfl⟩
  · simp only at h1 h2 h3 h4
    refine ⟨⟨a, cap, l ++ pad, fr⟩, rfl, rfl, ⟨by simp, .inr ⟨h1, Nat.zero_le _, ?_, h4⟩⟩, fun e => by unfold Buf.hp; simp⟩
    simp only [List.length_append, hl, h3, Nat.sub_zero]
    rw [← Nat.add_mul]; congr 1; omega
/-- What is said of a part is said of the whole: a call that makes what is new. -/
theorem GSpec.locNew {f : FuncId} {args : List Value} {h : View} {O H : Hp} {R : Value → Hp → Prop} {φ : Hp → Hp} (l : Loc O H φ) (sp : GSpec P f args h H (New H R)) : GSpec P f args h O (New O R) := by
  obtain ⟨A, B, rfl, hf⟩ := l.parts
  refine ⟨sp.1, fun w hv => ?_⟩
  have hp : (A ++ (H ++ B)).Perm (H ++ (A ++ B)) := by
    rw [← List.append_assoc, ← List.append_assoc]
    exact List.perm_append_comm.append_right _
  have hv2 := hv.wk (Wk.perm (h := h) hp)
  refine (sp.2 w (hv2.wk (Wk.drop (List.sublist_append_left _ _)))).mono ?_
  rintro e w' ⟨v, h', O', he, st, G, rfl, hR⟩
  refine ⟨v, h', G ++ (A ++ (H ++ B)), he, ?_, G, rfl, hR⟩
  have st2 := (st.frame hv2).wk (Wk.perm hp)
  refine st2.postWk (Wk.perm ?_)
  rw [List.append_assoc]
  exact hp.symm.append_left _
end Gv
end Go
/- From a contract to a law's row: what arguments read as; what the call leaves. -/
namespace Go
namespace Gv
open Go.ChangeShapes Go.WideShapes Go.RowKit
variable {P : Program}
/-- All that memory holds. -/
def hv (w : World) : View := fun b => w.heap[b]?
theorem hv_val (w : World) : Val (hv w) [] w := ⟨fun _ _ e => e, by simp, by simp, by simp⟩
/-- Of what was there nothing has changed. -/
structure Kept (w w' : World) : Prop where
  os : w'.os = w.os
  output : w'.output = w.output
  size : w.heap.size ≤ w'.heap.size
  heap : ∀ b, b < w.heap.size → w'.heap[b]? = w.heap[b]?
theorem Step.kept_all {w w' : World} {h' : View} {O' : Hp} (st : Step (hv w) [] w h' O' w') : Kept w w' :=
  ⟨st.os, st.output, st.size, fun b hb => st.kept b hb (by simp)⟩
theorem GSpec.law {f : FuncId} {args : List Value} {w : World} (sp : GSpec P f args (hv w) [] (Ret [] (.bool true))) : Calls P f ⟨args⟩ w fun e w' => e = .returned (.bool true) ∧ Kept w w' := by
  refine (sp.2 w (hv_val w)).mono ?_
  rintro e w' ⟨v, h', O', rfl, st, rfl, rfl⟩
  exact ⟨rfl, st.kept_all⟩
theorem Kept.cell {w w' : World} (k : Kept w w') {b o : Nat} (hb : b < w.heap.size) : w'.cell? ⟨b, o, none⟩ = w.cell? ⟨b, o, none⟩ := by
  unfold World.cell?; simp only [k.heap b hb]
theorem Kept.frozen {w w' : World} (k : Kept w w') {a : Addr} (hb : a.block < w.heap.size) : w'.frozen? a = w.frozen? a := by
  unfold World.frozen?; simp only [k.heap _ hb]
theorem Kept.but {w w' : World} (k : Kept w w') (may : MemPlace → Prop) : w.keptBut w' may := by
  refine ⟨k.os, k.output, fun i hi => ?_⟩
  rw [k.heap i hi]
  cases h : w.heap[i]? with
  | none => trivial
  | some o => cases o <;> first | exact ⟨rfl, rfl, rfl, fun _ _ => rfl⟩ | exact .inr ⟨rfl, rfl⟩ | rfl
section
variable {H : Type} {enc : TypeId × Value → H} {w w' : World}
theorem trodAll_kept (K : Kids P (· < P.types.size)) (hsz : ∀ {t e : TypeId}, t < P.types.size → P.underlying t = some (.slice e) → 0 < P.cellsOf e) (k : Kept w w') {sp : Nat → Bool} :
    ∀ {ts : List TypeId} {vs : List Value} {ds : List (DataW H)} {ps : List MemPlace}, (∀ t ∈ ts, t < P.types.size) → DataW.TrodAll enc P w 0 (fun _ => true) true ts vs ds ps → (∀ p ∈ ps, p.block < w.heap.size ∧ sp p.block = true) →
      DataW.TrodAll enc P w' 0 sp true ts vs ds ps
  | [], _, _, _, _, h, _ => by
    obtain ⟨rfl, rfl, rfl⟩ := trodAll_nil h
    rfl
  | t :: ts, _, _, _, ht, h, hp => by
    obtain ⟨v, vs, d, ds, p, q, rfl, rfl, rfl, ⟨n, h1⟩, h2⟩ := trodAll_cons h
    refine ⟨p, q, ⟨n, ?_⟩, trodAll_kept K hsz k (fun t h => ht t (by simp [h])) h2 (fun x hx => hp x (by simp [hx])), rfl⟩
    refine DataW.trod_stays K hsz (fun h => by cases h) (ht t (by simp)) h1 (fun x hx => ?_) (fun x hx => (hp x (by simp [hx])).2)
    have hb := (hp x (by simp [hx])).1
    cases x with
    | cell b o => exact k.cell hb
    | map b => exact k.heap b hb
/-- What a law's row asks for behind the call. -/
theorem law_post {f : Func} {s : ChangeSpec} {apart fresh handsOn again : Bool} {args : Array Value} {ds : List (DataW H)} {before : List MemPlace} {tb : TypeId}
    (K : Kids P (· < P.types.size)) (hsz : ∀ {t e : TypeId}, t < P.types.size → P.underlying t = some (.slice e) → 0 < P.cellsOf e) (ht : ∀ t ∈ f.params.toList, t < P.types.size) (hvars : s.vars = []) (hr : f.resultTypes = #[tb]) (hb : P.underlying tb = some .bool)
    (hs1 : (s.fn H ds).results = [.lit (.bool true)]) (hs2 : (s.fn H ds).args = ds) (hs3 : (s.fn H ds).vars = [])
    (hW : DataW.Whole enc P f.params.toList s.vars apart w args.toList ds [] before) (k : Kept w w') : s.post enc P f apart fresh handsOn again w args (.bool true) w' := by
  have hlt : ∀ p ∈ before, p.block < w.heap.size := fun p hp => hW.lt p hp
  have hres : ∀ (b : Nat) (sp : Nat → Bool) (hd : Bool), DataW.TrodAll enc P w' b sp hd f.resultTypes.toList ((Value.bool true).resultList f.resultTypes.size) (s.fn H (ds ++ [])).results [] := by
    intro b sp hd
    rw [List.append_nil, hr, hs1]
    exact trodAll_cons_mk (p := []) (p' := []) (shut_bool hb _) trodAll_mk0
  obtain ⟨p, q, hA, hV, rfl, hz, hn⟩ := id hW
  rw [hvars] at hV
  obtain ⟨_, rfl⟩ := trodVars_none hV
  simp only [List.append_nil] at hlt hz hn hW
  have hargs : ∀ sp : Nat → Bool, (∀ x ∈ p, sp x.block = true) → DataW.TrodAll enc P w' 0 sp true f.params.toList args.toList (s.fn H (ds ++ [])).args p := by
    intro sp hsp
    rw [List.append_nil, hs2]
    exact trodAll_kept K hsz k ht hA fun x hx => ⟨hlt x hx, hsp x hx⟩
  have hv' : ∀ sp : Nat → Bool, DataW.TrodVars enc P w' sp s.vars (s.fn H (ds ++ [])).vars [] := by
    intro sp
    rw [List.append_nil, hvars, hs3]; rfl
  refine ⟨ds, [], p, [], p, [], hW, hres _ _ _, hargs _ fun x hx => by simpa using hlt x hx, hv' _, World.keptBut_mono (fun x hx => ⟨hx, .inr (.inl hx)⟩) (k.but _), fun _ => ⟨?_, _, _, ([] ++ p) ++ [], ⟨[] ++ p, [], trodAll_append (hargs _ fun _ _ => rfl) (hres _ _ _), hv' _, rfl, ?_, ?_⟩, fun x hx _ => by simpa using hx⟩⟩
  · intro j t r h1 h2
    rw [hr] at h1 h2
    match j with
    | 0 =>
      have e1 : tb = t := by simpa using h1
      have e2 : Value.bool true = r := by simpa [Value.resultList] using h2
      rw [← e1, ← e2]; exact okWide_bool_mk hb _
    | j + 1 => simp at h1
  · intro b off hp
    have hp' : MemPlace.cell b off ∈ p := by simpa using hp
    rw [k.frozen (a := ⟨b, off, none⟩) (hlt _ hp')]
    exact hz b off hp'
  · intro ha
    simpa using hn ha
end
end Gv
end Go
/- What arguments read as. -/
namespace Go
namespace Gv
open Go.ChangeShapes Go.WideShapes Go.RowKit
variable {P : Program}
/-- Cells that read as a value of the type t encode one of α, of which Q holds. -/
def DecT (P : Program) (w : World) (t : TypeId) {α : Type} (g : α → List Value) (Q : α → Prop) : Prop :=
  ∀ (H : Type) (enc : TypeId × Value → H) (n : Nat) (cs : List Value) (x : DataW H × List MemPlace), DataW.trod enc P w 0 (fun _ => true) true n t cs = some x → ∃ a, cs = g a ∧ Q a
theorem DecT.map {w : World} {t : TypeId} {α β : Type} {g : α → List Value} {Q : α → Prop} {g' : β → List Value} {Q' : β → Prop} (d : DecT P w t g Q) (f : α → β) (hg : ∀ a, g a = g' (f a)) (hq : ∀ a, Q a → Q' (f a)) : DecT P w t g' Q' := by
  intro H enc n cs x h
  obtain ⟨a, e, q⟩ := d H enc n cs x h
  exact ⟨f a, by rw [e, hg], hq a q⟩
theorem dec_int {w : World} {t : TypeId} {k : IntKind} (ht : P.underlying t = some (.int k)) : DecT P w t (fun n : Int => [.int k n]) fun n => (Lit.int k n).wf = true := by
  intro H enc n cs x h
  obtain ⟨m, e, _, hw⟩ := DataW.trod_int ht h
  exact ⟨m, e, hw⟩
theorem dec_i64 {w : World} {t : TypeId} (ht : P.underlying t = some (.int .i64)) : DecT P w t (fun n : Int => [.int .i64 n]) fun n => -9223372036854775808 ≤ n ∧ n ≤ 9223372036854775807 :=
  (dec_int ht).map id (fun _ => rfl) fun _ h => bounds_i64 h
theorem dec_str {w : World} {t : TypeId} (ht : P.underlying t = some .string) : DecT P w t (fun s : List UInt8 => [sV s]) fun s => s.length ≤ maxLen := by
  intro H enc n cs x h
  obtain ⟨s, e, _, hs⟩ := DataW.trod_string ht h
  obtain ⟨⟨l⟩⟩ := s
  exact ⟨l, e, hs⟩
/-! ### structs, whose fields are of one cell each -/
def DecFs (P : Program) (w : World) (ts : List TypeId) {α : Type} (g : α → List Value) (Q : α → Prop) : Prop :=
  ∀ (H : Type) (enc : TypeId × Value → H) (n : Nat) (cs : List Value), cs.length = ts.length → (∀ (i : Nat) (t : TypeId), ts[i]? = some t → ∃ y, DataW.trod enc P w 0 (fun _ => true) true n t ((cs.drop i).take 1) = some y) → ∃ a, cs = g a ∧ Q a
theorem decFs_nil {w : World} : DecFs P w [] (fun _ : Unit => []) fun _ => True := by
  intro H enc n cs hl _
  exact ⟨(), List.eq_nil_of_length_eq_zero hl, trivial⟩
theorem decFs_cons {w : World} {t : TypeId} {ts : List TypeId} {α β : Type} {g : α → List Value} {Q : α → Prop} {g' : β → List Value} {Q' : β → Prop} (d : DecT P w t g Q) (ds : DecFs P w ts g' Q') :
    DecFs P w (t :: ts) (fun p : α × β => g p.1 ++ g' p.2) fun p => Q p.1 ∧ Q' p.2 := by
  intro H enc n cs hl h
  match cs, hl with
  | c :: cs, hl =>
    obtain ⟨y, hy⟩ := h 0 t rfl
    obtain ⟨a, e, q⟩ := d H enc n _ y hy
    obtain ⟨b, e', q'⟩ := ds H enc n cs (by simpa using hl) fun i t' hi => by simpa using h (i + 1) t' (by simpa using hi)
    refine ⟨(a, b), ?_, q, q'⟩
    have e2 : [c] = g a := by simpa using e
    show c :: cs = g a ++ g' b
    rw [← e2, ← e']; rfl
def oneCells (P : Program) (fs : List Field) : Bool := (List.range fs.length).all fun i => match fs[i]? with | some f => Nat.beq f.offset i && Nat.beq (P.cellsOf f.type) 1 | none => false
theorem dec_struct {w : World} {t : TypeId} {fs : Array Field} {α : Type} {g : α → List Value} {Q : α → Prop} (ht : P.underlying t = some (.struct fs)) (ho : oneCells P fs.toList = true) (hc : P.cellsOf t = fs.size)
    (d : DecFs P w (fs.toList.map (·.type)) g Q) : DecT P w t g Q := by
  intro H enc n cs x h
  obtain ⟨xs, m, _, _, hl, hlen, hf⟩ := DataW.trod_struct ht h
  refine d H enc m cs (by rw [hl, hc]; simp) fun i t' hi => ?_
  rw [List.getElem?_map] at hi
  cases hfi : fs.toList[i]? with
  | none => rw [hfi] at hi; cases hi
  | some f =>
    rw [hfi] at hi
    have e : f.type = t' := by simpa using hi
    have hil : i < fs.toList.length := by
      rcases Nat.lt_or_ge i fs.toList.length with h1 | h1
      · exact h1
      · rw [List.getElem?_eq_none h1] at hfi; cases hfi
    have h1 := List.all_eq_true.1 ho i (List.mem_range.2 hil)
    rw [hfi] at h1
    simp only [Bool.and_eq_true] at h1
    have h2 := hf i f (by simpa using hfi)
    rw [Nat.eq_of_beq_eq_true h1.1, Nat.eq_of_beq_eq_true h1.2, e] at h2
    have hix : i < xs.length := by rw [hlen]; simpa using hil
    exact ⟨xs[i], by rw [h2, List.getElem?_eq_getElem hix]⟩
/-! ### slices -/
structure Sl (α : Type) where
  a : Option Addr
  cap : Nat
  l : List α
def Sl.cells {α : Type} (z : Sl α) : List Value := [.slice z.a z.l.length z.cap]
/-- A slice whose elements can be read. -/
structure SlOk (P : Program) (w : World) {α : Type} (g : α → List Value) (Q : α → Prop) (z : Sl α) : Prop where
  le : z.l.length ≤ z.cap
  max : z.cap ≤ maxLen
  all : ∀ x ∈ z.l, Q x
  rd : Rd (hv w) [] z.a (z.l.flatMap g)
  nil : z.a = none → z.l = []
theorem dec_slice {w : World} {t e : TypeId} {s : Nat} {α : Type} {g : α → List Value} {Q : α → Prop} (ht : P.underlying t = some (.slice e)) (hc : P.cellsOf e = s) (h0 : 0 < s) (hg : ∀ x, (g x).length = s) (d : DecT P w e g Q) :
    DecT P w t (Sl.cells (α := α)) (SlOk P w g Q) := by
  intro H enc n cs x h
  rcases Deep.open_slice ht h with ⟨rfl, _⟩ | ⟨a, len, cap, m, n', D, Pl, rfl, hb, hl, hm, hmm, _, hx⟩
  · exact ⟨⟨none, 0, []⟩, rfl, ⟨Nat.le_refl _, Nat.zero_le _, by simp, Rd.nil, fun _ => rfl⟩⟩
  · simp only [if_true] at hmm
    subst hmm
    have key : ∀ k, k ≤ len → ∃ l : List α, l.length = k ∧ (∀ x ∈ l, Q x) ∧ ∀ i, i < k → ∃ y, l[i]? = some y ∧ ∀ j, j < s → w.cell? ((a.add (i * s)).add j) = (g y)[j]? := by
      intro k
      induction k with
      | zero => exact fun _ => ⟨[], rfl, by simp, fun i hi => by omega⟩
      | succ k ih =>
        intro hk
        obtain ⟨l, hll, hq, hi⟩ := ih (by omega)
        obtain ⟨cs', h1, h2⟩ := hx k (by omega)
        obtain ⟨y, rfl, hy⟩ := d H enc n' cs' _ h2
        rw [hc] at h1
        obtain ⟨_, _, hcell⟩ := World.cells?_some h1
        refine ⟨l ++ [y], by simp [hll], fun x hx => ?_, fun i hi' => ?_⟩
        · rcases List.mem_append.1 hx with h3 | h3
          · exact hq x h3
          · rw [List.mem_singleton.1 h3]; exact hy
        · by_cases e : i = k
          · subst e
            exact ⟨y, by rw [List.getElem?_append_right (by omega)]; simp [hll], hcell⟩
          · obtain ⟨z, hz, hzc⟩ := hi i (by omega)
            exact ⟨z, by rw [List.getElem?_append_left (by omega)]; exact hz, hzc⟩
    obtain ⟨l, hll, hq, hi⟩ := key len (Nat.le_refl _)
    refine ⟨⟨some a, m, l⟩, by simp [Sl.cells, hll], ⟨by simp only [hll]; exact hl, hm, hq, ?_, fun e => by cases e⟩⟩
    rcases Nat.eq_zero_or_pos len with hz | hz
    · subst hz
      rw [List.eq_nil_of_length_eq_zero hll]; exact Rd.nil
    · right
      obtain ⟨y, hy, hyc⟩ := hi 0 hz
      have hc0 := hyc 0 h0
      rw [List.getElem?_eq_getElem (by rw [hg]; exact h0)] at hc0
      have ea : (a.add (0 * s)).add 0 = a := by simp [Addr.add]
      rw [ea] at hc0
      unfold World.cell? at hc0
      obtain ⟨b, o, sp⟩ := a
      split at hc0
      · rename_i c ty fr hobj
        split at hc0
        · cases hc0
        · rename_i hsp
          have hsp' : sp = none := by cases sp <;> simp_all
          subst hsp'
          refine ⟨rfl, c, ty, fr, .per hobj, fun j v hj => ?_⟩
          show c[o + j]? = some v
          have hlen := flat_length hg l
          have hjl : j < l.length * s := by
            rw [← hlen]
            rcases Nat.lt_or_ge j (l.flatMap g).length with h1 | h1
            · exact h1
            · rw [List.getElem?_eq_none h1] at hj; cases hj
          have hj2 : j / s < l.length := Nat.div_lt_of_lt_mul (by rw [Nat.mul_comm]; exact hjl)
          have hm2 := Nat.mod_lt j h0
          obtain ⟨z, hz2, hzc⟩ := hi (j / s) (by omega)
          have e1 : j / s * s + j % s = j := by rw [Nat.mul_comm]; exact Nat.div_add_mod j s
          have h3 := flat_getE hg l (j / s) (j % s) z hz2 hm2
          rw [e1, hj] at h3
          have h4 := hzc (j % s) hm2
          rw [addr_add, addr_add, Nat.add_assoc, e1, ← h3] at h4
          unfold World.cell? at h4
          simp only [hobj] at h4
          simpa using h4
      · cases hc0
/-! ### arguments -/
section
variable {H : Type} {enc : TypeId × Value → H} {w : World}
theorem arg_slice {t e : TypeId} {v : Value} {base : Nat} {α : Type} {Q : Sl α → Prop} {d : DataW H} {p : List MemPlace} (ht : P.underlying t = some (.slice e)) (hd : DecT P w t (Sl.cells (α := α)) Q) (hv : Value.okWide P w .any base t v) (hr : DataW.Trod enc P w 0 (fun _ => true) true t v d p) :
    ∃ z : Sl α, v = .slice z.a z.l.length z.cap ∧ Q z := by
  obtain ⟨a, len, cap, rfl⟩ := okWide_slice ht hv
  obtain ⟨m, hm⟩ := hr
  obtain ⟨z, e, q⟩ := hd H enc m _ _ hm
  exact ⟨z, by simpa [Value.cells, Sl.cells] using e, q⟩
end
end Gv
end Go
