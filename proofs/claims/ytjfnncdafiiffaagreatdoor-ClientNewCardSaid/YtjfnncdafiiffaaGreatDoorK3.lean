/- Arguments, as abstract values of their types; and what is left of them behind the call. -/
import Derived.Test.YtjfnncdafiiffaaGreatDoorK2
import Derived.LoopN
import Derived.Laws.Sem
import Derived.KernelRfl
import Derived.Below
import Derived.ChangeSlices
import Derived.Carry
import Derived.ChangeAt
import Derived.ProofKit

namespace Tr
open Go

def befStep (acc : Array Nat) (o : Oper) : Nat := o.after.foldl (fun s e => if Region.binds .any e then s ||| 2 ^ e.on ||| acc.getD e.on 0 else s) 0

theorem befStep_bits (acc : Array Nat) (o : Oper) (i : Nat) (h : (befStep acc o).testBit i = true) : ∃ e ∈ o.after, Region.binds .any e = true ∧ (e.on = i ∨ (acc.getD e.on 0).testBit i = true) := by
  unfold befStep at h
  rw [← Array.foldl_toList] at h
  have key : ∀ (l : List Edge) (s : Nat), (l.foldl (fun s e => if Region.binds .any e then s ||| 2 ^ e.on ||| acc.getD e.on 0 else s) s).testBit i = true → s.testBit i = true ∨ ∃ e ∈ l, Region.binds .any e = true ∧ (e.on = i ∨ (acc.getD e.on 0).testBit i = true) := by
    intro l
    induction l with
    | nil => intro s h; exact .inl h
    | cons e l ih =>
      intro s h
      rw [List.foldl_cons] at h
      rcases ih _ h with h1 | ⟨e', h1, h2⟩
      · split at h1
        · rename_i hb
          rw [Nat.testBit_or, Nat.testBit_or] at h1
          simp only [Bool.or_eq_true] at h1
          rcases h1 with (h1 | h1) | h1
          · exact .inl h1
          · rw [Nat.testBit_two_pow] at h1
            exact .inr ⟨e, by simp, hb, .inl (by simpa using h1)⟩
          · exact .inr ⟨e, by simp, hb, .inr h1⟩
        · exact .inl h1
      · exact .inr ⟨e', by simp [h1], h2⟩
  rcases key _ _ h with h | ⟨e, h1, h2⟩
  · simp at h
  · exact ⟨e, by simpa using h1, h2⟩

def BefOk (ops : List Oper) (B : Array Nat) : Prop :=
  B.size = ops.length ∧ ∀ (j : Nat) (o : Oper) (i : Nat), ops[j]? = some o → (B.getD j 0).testBit i = true → ∃ e ∈ o.after, Region.binds .any e = true ∧ (e.on = i ∨ (B.getD e.on 0).testBit i = true)

theorem getD_push_lt (B : Array Nat) (v j : Nat) (h : j < B.size) : (B.push v).getD j 0 = B.getD j 0 := by
  simp only [Array.getD_eq_getD_getElem?]
  rw [Array.getElem?_push_lt h, Array.getElem?_eq_getElem h]

theorem befOk_push {pre : List Oper} {B : Array Nat} (h : BefOk pre B) (o : Oper) : BefOk (pre ++ [o]) (B.push (befStep B o)) := by
  obtain ⟨hs, hb⟩ := h
  have lift : ∀ k i, (B.getD k 0).testBit i = true → ((B.push (befStep B o)).getD k 0).testBit i = true := by
    intro k i hk
    have hlt : k < B.size := by
      rcases Nat.lt_or_ge k B.size with h | h
      · exact h
      · simp [Array.getD_eq_getD_getElem?, Array.getElem?_eq_none h] at hk
    rw [getD_push_lt _ _ _ hlt]; exact hk
  refine ⟨by simp [hs], fun j o' i hj hi => ?_⟩
  by_cases hlt : j < pre.length
  · rw [List.getElem?_append_left hlt] at hj
    rw [getD_push_lt _ _ _ (by omega)] at hi
    obtain ⟨e, h1, h2, h3⟩ := hb j o' i hj hi
    exact ⟨e, h1, h2, h3.imp id (lift _ _)⟩
  · rw [List.getElem?_append_right (by omega)] at hj
    have hj0 : j - pre.length = 0 := by
      rcases Nat.eq_zero_or_pos (j - pre.length) with h | h
      · exact h
      · rw [List.getElem?_eq_none (by simp; omega)] at hj; cases hj
    rw [hj0] at hj
    simp only [List.getElem?_cons_zero, Option.some.injEq] at hj
    subst hj
    have hje : j = B.size := by omega
    subst hje
    have : (B.push (befStep B o)).getD B.size 0 = befStep B o := by simp [Array.getD_eq_getD_getElem?]
    rw [this] at hi
    obtain ⟨e, h1, h2, h3⟩ := befStep_bits B o i hi
    exact ⟨e, h1, h2, h3.imp id (lift _ _)⟩

theorem befOk_all : ∀ (l pre : List Oper) (B : Array Nat), BefOk pre B → BefOk (pre ++ l) (l.foldl (fun acc o => acc.push (befStep acc o)) B)
  | [], pre, B, h => by simpa using h
  | o :: l, pre, B, h => by
    rw [List.foldl_cons]
    have := befOk_all l (pre ++ [o]) _ (befOk_push h o)
    simpa using this

theorem before_ok (ops : Array Oper) : BefOk ops.toList (Region.before ops) := by
  have := befOk_all ops.toList [] #[] ⟨rfl, by simp⟩
  have e : Region.before ops = ops.toList.foldl (fun acc o => acc.push (befStep acc o)) #[] := by
    unfold Region.before
    rw [← Array.foldl_toList]
    rfl
  rw [e]
  simpa using this

theorem edgesOk_spec : ∀ (l : List Oper) (k : Nat), edgesOk k l = true → ∀ (j : Nat) (o : Oper), l[j]? = some o → ∀ e ∈ o.after, Region.binds .any e = true → e.on < k + j
  | [], _, _, j, o, h => by simp at h
  | p :: l, k, h, j, o, hj => by
    simp only [edgesOk, Bool.and_eq_true, List.all_eq_true, Bool.or_eq_true, Bool.not_eq_true', decide_eq_true_eq] at h
    cases j with
    | zero =>
      simp at hj; subst hj
      intro e he hb
      rcases h.1 e (by simpa using he) with h | h
      · rw [hb] at h; cases h
      · omega
    | succ j =>
      intro e he hb
      have := edgesOk_spec l (k + 1) h.2 j o (by simpa using hj) e he hb
      omega

/-- What stands before what is listed is listed. -/
def Closed (ops : Array Oper) (listed : Array Bool) : Prop := ∀ j i, listed.getD j false = true → ((Region.before ops).getD j 0).testBit i = true → listed.getD i false = true

theorem closed_ready {ops : Array Oper} {listed : Array Bool} {j i : Nat} (hc : Closed ops listed) (hr : j ∈ Region.ready .any ops listed) (hb : ((Region.before ops).getD j 0).testBit i = true) : listed.getD i false = true := by
  obtain ⟨_, o, ho, hall⟩ := mem_ready.1 hr
  obtain ⟨e, h1, h2, h3⟩ := (before_ok ops).2 j o i (by simpa using ho) hb
  have := hall e h1 h2
  rcases h3 with rfl | h3
  · exact this
  · exact hc _ _ this h3

theorem closed_set {ops : Array Oper} {listed : Array Bool} {j : Nat} (hc : Closed ops listed) (hr : j ∈ Region.ready .any ops listed) : Closed ops (listed.setIfInBounds j true) := by
  intro k i hk hb
  refine getD_set_true ?_
  by_cases hkj : k = j
  · subst hkj; exact closed_ready hc hr hb
  · rw [getD_set_ne false (Ne.symm hkj)] at hk
    exact hc k i hk hb

end Tr

namespace Tr
open Go

section
variable {P : Program} {F : Fm} {gh gh' : Gh} {T T' T2 : Tags} {hn : Hn} {S : Fns} {sig : Nat → Option Sg} {own n reg i j : Nat} {ops : Array Oper} {o : Oper} {e e' e1 e2 : Env} {x y : GP} {a : Act} {w w' : World} {Q : Exit → Act → World → Prop} {g : Nat → GP}

def RunOk (P : Program) (sig : Nat → Option Sg) (hn : Hn) (own n reg : Nat) (ops : Array Oper) (S : Fns) (g : Nat → GP) : List Nat → Tags → Env → Tags → Env → Prop
  | [], T, e, T', e' => T = T' ∧ e = e'
  | i :: U, T, e, T', e' => ∃ o e1, ops[i]? = some o ∧ planAt P sig hn own n reg ops i o T = some (g i) ∧ stepG S (g i) o.dst e = some e1 ∧ RunOk P sig hn own n reg ops S g U (T.ups (g i).p.ups) e1 T' e'

theorem pair_dst (h : planAt P sig hn own n reg ops i o T = some x) : ∀ s g b, x.gd = some (s, g, b) → o.dst = some (gpD x) := fun s g b hg => ((planAt_pair h).1 s g b hg).1

theorem run_swap {U : List Nat} (h : RunOk P sig hn own n reg ops S g (j :: i :: U) T e T' e') (hc : clash (g j) (g i) = false) : RunOk P sig hn own n reg ops S g (i :: j :: U) T e T' e' := by
  obtain ⟨oj, e1, hoj, hpj, hsj, oi, e2, hoi, hpi, hsi, hr⟩ := h
  unfold clash at hc
  simp only [Bool.or_eq_false_iff] at hc
  obtain ⟨⟨⟨⟨⟨c1, c2⟩, c3⟩, c4⟩, c5⟩, c6⟩ := hc
  have m1 := meets_false c1
  have m2 := meets_false c2
  have m3 := meets_false c3
  have m4 := meets_false c4
  have m5 := meets_false c5
  have m6 := meets_false c6
  have hpi' : planAt P sig hn own n reg ops i oi T = some (g i) := planAt_ag hpi (fun t ht => (ups_out _ _ _ (fun h => m1 t h ht)).symm)
  have hpj' : planAt P sig hn own n reg ops j oj (T.ups (g i).p.ups) = some (g j) := planAt_ag hpj (fun t ht => ups_out _ _ _ (fun h => m3 t h ht))
  obtain ⟨l1, l2⟩ := stepG_loc (e2 := e) (pair_dst hpj) hsj (fun _ _ => rfl)
  obtain ⟨k1, k2⟩ := stepG_loc (e2 := e) (pair_dst hpi) hsi (fun t ht => (l2 t (fun h => m4 t h ht)).symm)
  obtain ⟨q1, _⟩ := stepG_loc (e2 := e.over e2 (g i).cw) (pair_dst hpj) hsj (fun t ht => by
    simp only [Env.over]
    rw [if_neg (fun h => m6 t h ht)])
  refine ⟨oi, _, hoi, hpi', k1, oj, _, hoj, hpj', q1, ?_⟩
  rw [ups_swap _ _ _ (fun t h1 h2 => m2 t h2 h1)]
  have he : (e.over e2 (g i).cw).over e1 (g j).cw = e2 := by
    funext t
    simp only [Env.over]
    by_cases hj : t ∈ (g j).cw
    · rw [if_pos hj]
      exact (k2 t (m5 t hj)).symm
    · rw [if_neg hj]
      by_cases hi : t ∈ (g i).cw
      · rw [if_pos hi]
      · rw [if_neg hi, k2 t hi, l2 t hj]
  rw [he]
  exact hr

theorem run_front : ∀ (V W : List Nat) (T : Tags) (e : Env), RunOk P sig hn own n reg ops S g (V ++ i :: W) T e T' e' → (∀ j ∈ V, clash (g j) (g i) = false) → RunOk P sig hn own n reg ops S g (i :: (V ++ W)) T e T' e'
  | [], W, T, e, h, _ => h
  | j :: V, W, T, e, h, hc => by
    obtain ⟨oj, e1, hoj, hpj, hsj, hr⟩ := h
    have ih := run_front V W _ _ hr (fun k hk => hc k (by simp [hk]))
    exact run_swap ⟨oj, e1, hoj, hpj, hsj, ih⟩ (hc j (by simp))

theorem run_of (Qs : List GP × Tags) : ∀ (r : List Oper) (i : Nat) (T : Tags) (q : List GP × Tags) (e e' : Env), ops.toList.drop i = r → Qs.1.drop i = q.1 → planOps P sig hn own n reg ops i r T = some q → stepsG S q.1 r e = some e' →
    RunOk P sig hn own n reg ops S (fun k => (Qs.1[k]?).getD ⟨none, ⟨.nop, [], []⟩⟩) (List.range' i r.length) T e q.2 e'
  | [], i, T, q, e, e', hd, hq, hp, hs => by
    cases hp
    cases hs
    exact ⟨rfl, rfl⟩
  | o :: r, i, T, q, e, e', hd, hq, hp, hs => by
    obtain ⟨x, q', hx, hq', rfl⟩ := planOps_cons hp
    simp only [stepsG, Option.bind_eq_some_iff] at hs
    obtain ⟨e1, h1, h2⟩ := hs
    have hoi : ops[i]? = some o := by
      have := congrArg (fun l => l[0]?) hd
      simpa [List.getElem?_drop] using this
    have hxi : Qs.1[i]? = some x := by
      have := congrArg (fun l => l[0]?) hq
      simpa [List.getElem?_drop] using this
    have hdr : ops.toList.drop (i + 1) = r := by
      rw [← List.drop_drop, hd]; rfl
    have hqr : Qs.1.drop (i + 1) = q'.1 := by
      rw [← List.drop_drop, hq]; rfl
    rw [List.length_cons, List.range'_succ]
    refine ⟨o, e1, hoi, ?_, ?_, ?_⟩
    · simp only [hxi, Option.getD_some]; exact hx
    · simp only [hxi, Option.getD_some]; exact h1
    · simp only [hxi, Option.getD_some]; exact run_of Qs r (i + 1) _ q' e1 e' hdr hqr hq' h2

def unl (listed : Array Bool) (l : List Nat) : List Nat := l.filter fun i => !listed.getD i true

theorem unl_split {listed : Array Bool} : ∀ (l : List Nat), l.Nodup → i ∈ unl listed l → ∃ V W, unl listed l = V ++ i :: W ∧ unl (listed.setIfInBounds i true) l = V ++ W
  | [], _, h => by simp [unl] at h
  | k :: l, hnd, h => by
    have hnd' := List.nodup_cons.1 hnd
    by_cases hk : k = i
    · subst hk
      have hun : listed.getD k true = false := by simpa [unl] using (List.mem_filter.1 h).2
      refine ⟨[], unl listed l, by simp only [unl, List.nil_append, List.filter_cons, hun, Bool.not_false, if_true], ?_⟩
      have h1 : (listed.setIfInBounds k true).getD k true = true := by
        have hlt : k < listed.size := by
          rcases Nat.lt_or_ge k listed.size with h' | h'
          · exact h'
          · simp [Array.getElem?_eq_none h'] at hun
        simp [hlt]
      simp only [unl, List.filter_cons, h1, Bool.not_true, Bool.false_eq_true, if_false, List.nil_append]
      refine List.filter_congr fun m hm => ?_
      have : k ≠ m := fun e => hnd'.1 (e ▸ hm)
      rw [getD_set_ne true this]
    · have hi : i ∈ unl listed l := by
        simp only [unl, List.mem_filter, List.mem_cons] at h ⊢
        rcases h.1 with h1 | h1
        · exact absurd h1.symm hk
        · exact ⟨h1, h.2⟩
      obtain ⟨V, W, h1, h2⟩ := unl_split l hnd'.2 hi
      by_cases hun : listed.getD k true = false
      · refine ⟨k :: V, W, ?_, ?_⟩
        · simp only [unl, List.filter_cons, hun, Bool.not_false, if_true, List.cons_append]
          rw [← h1]; rfl
        · simp only [unl, List.filter_cons, getD_set_ne true (Ne.symm hk), hun, Bool.not_false, if_true, List.cons_append]
          rw [← h2]; rfl
      · have hun : listed.getD k true = true := by simpa using hun
        refine ⟨V, W, ?_, ?_⟩
        · simp only [unl, List.filter_cons, hun, Bool.not_true, Bool.false_eq_true, if_false]
          rw [← h1]; rfl
        · simp only [unl, List.filter_cons, getD_set_ne true (Ne.symm hk), hun, Bool.not_true, Bool.false_eq_true, if_false]
          rw [← h2]; rfl

theorem unl_sorted {listed : Array Bool} {V W : List Nat} {m : Nat} (h : unl listed (List.range m) = V ++ i :: W) : (∀ j ∈ V, j < i) ∧ ∀ j ∈ V, listed.getD j true = false := by
  have hp : (unl listed (List.range m)).Pairwise (· < ·) := List.Pairwise.filter _ List.pairwise_lt_range
  rw [h] at hp
  have := (List.pairwise_append.1 hp).2.2
  refine ⟨fun j hj => this j hj i (by simp), fun j hj => ?_⟩
  have hm : j ∈ unl listed (List.range m) := by rw [h]; simp [hj]
  simpa [unl] using (List.mem_filter.1 hm).2

theorem any_sound (hS : FnsOk P sig S) (hhp : own ≠ 0 → F.hp = true) (hnn : F.n = n)
    (hord : ∀ i j, j < ops.size → i < j → ((Region.before ops).getD j 0).testBit i = true ∨ clash (g i) (g j) = false)
    (hedge : ∀ (j : Nat) (o : Oper), ops[j]? = some o → ∀ e ∈ o.after, Region.binds .any e = true → e.on < j) :
    ∀ (fuel : Nat) (listed : Array Bool) (gh : Gh) (T : Tags) (e : Env) (a : Act) (w : World), listed.size = ops.size → Closed ops listed → (unl listed (List.range ops.size)).length ≤ fuel →
      RunOk P sig hn own n reg ops S g (unl listed (List.range ops.size)) T e T' e' → Rel F gh T e a w → (∀ gh' a' w', Rel F gh' T' e' a' w' → Q .normal a' w') → wpAny P .any ops Q fuel listed a w := by
  intro fuel
  have done : ∀ (listed : Array Bool) (gh : Gh) (T : Tags) (e : Env) (a : Act) (w : World), listed.size = ops.size → Region.ready .any ops listed = [] → 
      RunOk P sig hn own n reg ops S g (unl listed (List.range ops.size)) T e T' e' → Rel F gh T e a w → (∀ gh' a' w', Rel F gh' T' e' a' w' → Q .normal a' w') → Q .normal a w := by
    intro listed gh T e a w hsz hr hrun R hQ
    cases hu : unl listed (List.range ops.size) with
    | nil =>
      rw [hu] at hrun
      obtain ⟨rfl, rfl⟩ := hrun
      exact hQ _ _ _ R
    | cons i U =>
      exfalso
      have hm : i ∈ unl listed (List.range ops.size) := by rw [hu]; simp
      have hlt : i < ops.size := by simpa using (List.mem_filter.1 hm).1
      have hun : listed.getD i true = false := by simpa [unl] using (List.mem_filter.1 hm).2
      have hready : i ∈ Region.ready .any ops listed := by
        refine mem_ready.2 ⟨hun, ops[i], by simp [hlt], fun ed he hb => ?_⟩
        have hlt2 := hedge i ops[i] (by simp [hlt]) ed he hb
        have : listed.getD ed.on true = true := by
          cases hl : listed.getD ed.on true with
          | true => rfl
          | false =>
            exfalso
            have hmem : ed.on ∈ unl listed (List.range ops.size) := by
              simp only [unl, List.mem_filter, List.mem_range]
              exact ⟨by omega, by rw [hl]; rfl⟩
            rw [hu] at hmem
            have hp : (unl listed (List.range ops.size)).Pairwise (· < ·) := List.Pairwise.filter _ List.pairwise_lt_range
            rw [hu] at hp
            rcases List.mem_cons.1 hmem with h | h
            · omega
            · have := (List.pairwise_cons.1 hp).1 _ h; omega
        have hl2 : ed.on < listed.size := by omega
        simp only [Array.getD_eq_getD_getElem?, Array.getElem?_eq_getElem hl2, Option.getD_some] at this ⊢
        exact this
      rw [hr] at hready
      cases hready
  induction fuel with
  | zero =>
    intro listed gh T e a w hsz hc hl hrun R hQ
    have hnil : unl listed (List.range ops.size) = [] := List.eq_nil_of_length_eq_zero (by omega)
    have hr : Region.ready .any ops listed = [] := by
      cases hr : Region.ready .any ops listed with
      | nil => rfl
      | cons i U =>
        exfalso
        have hm : i ∈ Region.ready .any ops listed := by rw [hr]; simp
        obtain ⟨h1, o, ho, _⟩ := mem_ready.1 hm
        have hlt : i < ops.size := (Array.getElem?_eq_some_iff.1 ho).1
        have : i ∈ unl listed (List.range ops.size) := by simp only [unl, List.mem_filter, List.mem_range]; exact ⟨hlt, by rw [h1]; rfl⟩
        rw [hnil] at this
        cases this
    exact ⟨hr, done listed gh T e a w hsz hr hrun R hQ⟩
  | succ fuel ih =>
    intro listed gh T e a w hsz hc hl hrun R hQ
    refine ⟨fun hr => done listed gh T e a w hsz hr hrun R hQ, fun i hi => ?_⟩
    obtain ⟨h1, o, ho, _⟩ := mem_ready.1 hi
    have hlt : i < ops.size := (Array.getElem?_eq_some_iff.1 ho).1
    have hmem : i ∈ unl listed (List.range ops.size) := by simp only [unl, List.mem_filter, List.mem_range]; exact ⟨hlt, by rw [h1]; rfl⟩
    obtain ⟨V, W, u1, u2⟩ := unl_split _ List.nodup_range hmem
    obtain ⟨s1, s2⟩ := unl_sorted u1
    rw [u1] at hrun
    have hfr := run_front V W T e hrun (fun j hj => by
      rcases hord j i hlt (s1 j hj) with h | h
      · exfalso
        have h2 := closed_ready hc hi h
        have h3 := s2 j hj
        have hl2 : j < listed.size := by have := s1 j hj; omega
        simp only [Array.getD_eq_getD_getElem?, Array.getElem?_eq_getElem hl2, Option.getD_some] at h2 h3
        rw [h2] at h3; cases h3
      · exact h)
    obtain ⟨o', e1, ho', hp, hs, hrun'⟩ := hfr
    rw [ho] at ho'
    cases ho'
    refine op_sound R hS hhp hnn ho hp hs (fun gh' a' w' R' => ?_)
    refine ih _ gh' _ e1 a' w' (by simp [hsz]) (closed_set hc hi) ?_ (by rw [u2]; exact hrun') R' hQ
    rw [u2]
    rw [u1] at hl
    simp only [List.length_append, List.length_cons] at hl ⊢
    omega

end
end Tr

namespace Tr
open Go

section
variable {P : Program} {F : Fm} {gh gh' : Gh} {T T' T2 : Tags} {hn : Hn} {S : Fns} {sig : Nat → Option Sg} {own n reg i j : Nat} {ops : Array Oper} {o : Oper} {e e' e1 e2 : Env} {a : Act} {w w' : World} {Q : Exit → Act → World → Prop}

theorem Rel.heapOnly (R : Rel F gh T e a w) (hw : w'.heap = w.heap) (hs : SameS w w') : Rel F gh T e a w' := by
  have P0 : Pers gh gh w w' (fun _ => True) := ⟨⟨fun _ h => h, fun _ _ => by rw [hw], fun _ _ h => h⟩, fun _ _ h _ => ⟨h, by rw [hw]⟩⟩
  refine R.world (K := fun _ => True) ⟨by rw [hw]; exact R.base.sz, fun b h1 h2 => by rw [hw]; exact R.base.keep b h1 h2, fun b k h => by rw [hw]; exact R.base.owned b k h, fun b h => by rw [hw]; exact R.base.imm b h, R.base.im0, R.base.et, R.base.et2, R.base.st.trans hs⟩ P0 rfl (fun _ => trivial) (fun _ _ _ => trivial) (fun _ _ => trivial)

theorem clash_get {all : List GP} {ms : Array Nat} (h : ordOk ms all.toArray = true) (d : GP) : ∀ i j, j < all.length → i < j → (ms.getD j 0).testBit i = true ∨ clash ((all[i]?).getD d) ((all[j]?).getD d) = false := by
  intro i j hj hi
  unfold ordOk at h
  rw [List.all_eq_true] at h
  have h1 := h j (by simpa using hj)
  rw [List.all_eq_true] at h1
  have h2 := h1 i (by simpa using hi)
  simp only [Bool.or_eq_true] at h2
  refine h2.imp id (fun h3 => ?_)
  have e1 : all[i]? = some all[i] := List.getElem?_eq_getElem (by omega)
  have e2 : all[j]? = some all[j] := List.getElem?_eq_getElem hj
  simp only [List.getElem?_toArray, e1, e2] at h3
  rw [e1, e2]
  simpa using h3

theorem planOps_len : ∀ (r : List Oper) (i : Nat) (T : Tags) (q : List GP × Tags), planOps P sig hn own n reg ops i r T = some q → q.1.length = r.length
  | [], i, T, q, h => by cases h; rfl
  | o :: r, i, T, q, h => by
    obtain ⟨x, q', hx, hq', rfl⟩ := planOps_cons h
    simp [planOps_len r (i + 1) _ q' hq']

theorem region_sound (hm : P.follows .mixedOrders = true) (hS : FnsOk P sig S) (hhp : own ≠ 0 → F.hp = true) (hnn : F.n = n) {draw : Bool} {r : IC × Tags} (hr : cReg P sig hn own n reg ops draw T = some r) (R : Rel F gh T e a w) {ics : List DG} (hic : r.1 = .reg ics)
    (he : evGs S ics e some = some e') (hQ : ∀ gh' a' w', Rel F gh' r.2 e' a' w' → Q .normal a' w') : (Code.region reg ops draw).wp P Q a w := by
  cases draw with
  | false => exact region_text hS hhp hnn hr R hic he hQ
  | true =>
    unfold cReg at hr
    simp only [Option.bind_eq_some_iff, Bool.true_and] at hr
    obtain ⟨q, hq, hr⟩ := hr
    split at hr
    · cases hr
    · rename_i hord
      simp only [Bool.not_eq_true', Bool.not_eq_false, Bool.and_eq_true] at hord
      obtain ⟨hord, hedge⟩ := hord
      split at hr
      · cases hr
      · rename_i hk
        cases hr
        cases hic
        have hk : grpsOk (groups q.1) = true := by simpa using hk
        obtain ⟨p1, p2⟩ := planOps_pairs _ _ _ _ hq
        have hf := groups_flat q.1
        obtain ⟨e2, h1, h2⟩ := grp_sound (S := S) (groups q.1) ops.toList e e e' (fun _ => False) (groups_grp q.1) (by rw [hf]; exact p1) hk (fun _ _ => rfl) (fun _ _ h => h) he
        rw [hf] at h1
        have hrun := run_of q ops.toList 0 T q e e2 (by simp) (by simp) hq h1
        have hu : unl (Array.replicate ops.size false) (List.range ops.size) = List.range' 0 ops.toList.length := by
          rw [Array.length_toList, ← List.range_eq_range']
          refine List.filter_eq_self.2 fun i hi => ?_
          have : i < ops.size := by simpa using hi
          simp [this]
        have hl := planOps_len _ _ _ _ hq
        refine wp_region_any hm ?_
        refine any_sound hS hhp hnn (fun i j hj hi => clash_get hord _ i j (by rw [hl]; simpa using hj) hi) (fun j o ho e he hb => by
            have := edgesOk_spec _ _ hedge j o (by simpa using ho) e he hb
            omega)
          ops.size _ gh T e a _ (by simp) (fun j i hj => by
            exfalso
            simp only [Array.getD_eq_getD_getElem?] at hj
            by_cases hlt : j < ops.size
            · simp [hlt] at hj
            · simp [hlt] at hj)
          (by rw [hu]; simp) (by rw [hu]; exact hrun) (R.heapOnly rfl ⟨rfl, rfl, rfl⟩) (fun gh' a' w' R' => hQ gh' a' w' (R'.kill _ (fun t ht => by
            obtain ⟨x, hx, hg, rfl⟩ := toDG_kills _ (groups_grp q.1) t ht
            rw [hf] at hx
            rw [hnn]; exact p2 x hx hg) (fun t ht => (h2 t (fun h => h) ht).symm)))

end
end Tr

namespace Tr
open Go

section
variable {P : Program} {F : Fm} {gh gh' : Gh} {T T' : Tags} {e e' : Env} {a : Act} {w w' : World} {lv : List (Nat × Tag)} {own : Nat}

theorem pack_unpack : ∀ (l : List (Nat × Bool)) (e : Env) (t : Nat), unpack l (pack e l) t = match l.find? (fun x => x.1 == t) with | some (_, true) => e t | some (_, false) => [(e t).headD .junk] | none => [.junk]
  | [], e, t => rfl
  | (s, b) :: l, e, t => by
    simp only [pack, unpack, List.headD_cons, List.tail_cons, List.find?_cons]
    by_cases h : t = s
    · subst h
      simp only [beq_self_eq_true, if_true]
      cases b <;> rfl
    · have h2 : (s == t) = false := by simp; exact fun e => h e.symm
      simp only [h, if_false, h2]
      exact pack_unpack l e t

def tagBx : Tag → Option Bool
  | .one _ => some false
  | .agg _ => some true
  | .box _ => some true
  | _ => none

theorem lvC_find : ∀ (lv : List (Nat × Tag)) (t : Nat), nodupN (lv.map (·.1)) = true → (lvC lv).find? (fun x => x.1 == t) = (tagBx (lvT lv t).tag).map fun b => (t, b)
  | [], t, _ => rfl
  | (s, x) :: lv, t, hn => by
    simp only [List.map_cons, nodupN, Bool.and_eq_true, Bool.not_eq_true'] at hn
    have ih := lvC_find lv t hn.2
    by_cases h : t = s
    · subst h
      have hno : (lvC lv).find? (fun x => x.1 == t) = none := by
        rw [ih]
        have : lvT lv t = ⟨0, .dead, none⟩ := by
          have h1 := hn.1
          clear ih hn
          induction lv with
          | nil => rfl
          | cons y lv ih2 =>
            obtain ⟨s2, x2⟩ := y
            simp only [List.map_cons, List.any_cons, Bool.or_eq_false_iff, beq_eq_false_iff_ne, ne_eq] at h1
            simp only [lvT]
            rw [if_neg (fun e => h1.1 e.symm)]
            exact ih2 h1.2
        rw [this]; rfl
      cases x <;> simp [lvC, lvT, tagBx, hno]
    · have h2 : (s == t) = false := by simp; exact fun e => h e.symm
      have e1 : lvT ((s, x) :: lv) t = lvT lv t := by simp [lvT, h]
      rw [e1, ← ih]
      cases x <;> simp [lvC, h2]

theorem lvT_mem : ∀ (lv : List (Nat × Tag)) (t : Nat), (lvT lv t).tag ≠ .dead → (t, (lvT lv t).tag) ∈ lv
  | [], t, h => by simp [lvT] at h
  | (s, x) :: lv, t, h => by
    simp only [lvT] at h ⊢
    by_cases hs : t = s
    · subst hs; simp
    · rw [if_neg hs] at h ⊢
      exact List.mem_cons_of_mem _ (lvT_mem lv t h)

theorem lvT_g (lv : List (Nat × Tag)) (t : Nat) : (lvT lv t).g = 0 ∧ (lvT lv t).gd = none := by
  induction lv with
  | nil => exact ⟨rfl, rfl⟩
  | cons y lv ih =>
    obtain ⟨s, x⟩ := y
    simp only [lvT]
    split
    · exact ⟨rfl, rfl⟩
    · exact ih

theorem ckLe_spec : ∀ {as bs : List CK}, ckLe as bs = true → bs.length = as.length ∧ ∀ (k : Nat) (b : CK), bs[k]? = some b → ∃ c, as[k]? = some c ∧ b.u = 0 ∧
    (b.k = .dead ∨ (c.k = .v ∧ b.k = .v) ∨ (∃ e z, c.k = .own e z ∧ b.k = .v) ∨ ∃ e z, c.k = .own e z ∧ b.k = .own e z)
  | [], [], _ => ⟨rfl, by simp⟩
  | x :: as, y :: bs, h => by
    simp only [ckLe, Bool.and_eq_true, beq_iff_eq] at h
    obtain ⟨⟨h1, h2⟩, h3⟩ := h
    obtain ⟨i1, i2⟩ := ckLe_spec h3
    refine ⟨by simp [i1], fun k b hb => ?_⟩
    cases k with
    | zero =>
      simp at hb; subst hb
      refine ⟨x, rfl, h2, ?_⟩
      split at h1
      · rename_i hd; exact .inl hd
      · rename_i h4 h5; exact .inr (.inl ⟨h4, h5⟩)
      · rename_i h4 h5; exact .inr (.inr (.inl ⟨_, _, h4, h5⟩))
      · rename_i h4 h5
        simp only [Bool.and_eq_true, beq_iff_eq] at h1
        obtain ⟨rfl, rfl⟩ := h1
        exact .inr (.inr (.inr ⟨_, _, h4, h5⟩))
      · cases h1
    | succ k => simpa using i2 k b (by simpa using hb)
  | [], _ :: _, h => by simp [ckLe] at h
  | _ :: _, [], h => by simp [ckLe] at h

/-- The cells of a slot of which nobody is the owner any more. -/
def jnR (T lvt : Tags) : Key → Option Key
  | .own t 0 k => match (T t).tag.ck k, (lvt t).tag.ck k with
    | some ⟨_, .own _ _⟩, some ⟨_, .v⟩ => none
    | _, _ => some (.own t 0 k)
  | x => some x

theorem jnR_le {as bs : List CK} {T lvt : Tags} {t k : Nat} {b : CK} (h : ckLe as bs = true) (hb : bs[k]? = some b) (hT : ∀ k, (T t).tag.ck k = as[k]?) (hL : ∀ k, (lvt t).tag.ck k = bs[k]?) :
    ∃ c, as[k]? = some c ∧ KLe (jnR T lvt) (.own t 0 k) c.k b.k := by
  obtain ⟨c, h1, _, h3⟩ := (ckLe_spec h).2 k b hb
  refine ⟨c, h1, ?_⟩
  have e1 : (T t).tag.ck k = some c := (hT k).trans h1
  have e2 : (lvt t).tag.ck k = some b := (hL k).trans hb
  obtain ⟨cu, ckk⟩ := c
  obtain ⟨bu, bkk⟩ := b
  simp only at h3 ⊢
  rcases h3 with h | ⟨h, h'⟩ | ⟨e, z, h, h'⟩ | ⟨e, z, h, h'⟩
  · subst h; exact .dead _
  · subst h; subst h'; exact .v
  · subst h; subst h'
    exact .fr _ _ (by simp [jnR, e1, e2])
  · subst h; subst h'
    exact .keep _ _ (by simp [jnR, e1, e2])

theorem tagsLe_at (h : tagsLe T lv = true) {t : Nat} (hd : (lvT lv t).tag ≠ .dead) : tagLe T (lvT lv) t (lvT lv t).tag = true := by
  unfold tagsLe at h
  rw [List.all_eq_true] at h
  exact h _ (lvT_mem lv t hd)

theorem tag_one_ck (c : CK) (k : Nat) : (Tag.one c).ck k = [c][k]? := by cases k <;> rfl

theorem Rel.join (R : Rel F gh T e a w) (h : tagsLe T lv = true) (hn : nodupN (lv.map (·.1)) = true) (hhp : F.hp = true ↔ own ≠ 0) :
    ∃ gh', Rel F gh' (lvT lv) (unpack (lvH own lv) (pack e (lvH own lv))) a w := by
  have he2 : ∀ t, t ≠ HS ∨ own = 0 → unpack (lvH own lv) (pack e (lvH own lv)) t = match tagBx (lvT lv t).tag with | some true => e t | some false => [(e t).headD .junk] | none => [.junk] := by
    intro t ht
    rw [pack_unpack]
    have : (lvH own lv).find? (fun x => x.1 == t) = (lvC lv).find? (fun x => x.1 == t) := by
      unfold lvH
      split
      · rfl
      · rename_i ho
        have : (HS == t) = false := by
          simp
          intro e
          rcases ht with h | h
          · exact h e.symm
          · exact ho h
        simp [this]
    rw [this, lvC_find lv t hn]
    cases tagBx (lvT lv t).tag with
    | none => rfl
    | some b => cases b <;> rfl
  have hdead : ∀ t, (lvT lv t).tag ≠ .dead → t < F.n := by
    intro t ht
    have hl := tagsLe_at h ht
    refine R.lt ?_
    intro hd
    revert hl ht
    generalize lvT lv t = y
    intro ht hl
    cases hy : y.tag <;> rw [hy] at hl ht <;> simp [tagLe, hd] at hl ht
  have hHSd : (lvT lv HS).tag = .dead := by
    cases hd : (lvT lv HS).tag with
    | dead => rfl
    | _ => have := hdead HS (by rw [hd]; simp); have := R.le; omega
  have hHS : own ≠ 0 → unpack (lvH own lv) (pack e (lvH own lv)) HS = [(e HS).headD .junk] := by
    intro ho
    rw [pack_unpack]
    simp [lvH, ho]
  have hHS0 : own = 0 → unpack (lvH own lv) (pack e (lvH own lv)) HS = [.junk] := by
    intro ho
    rw [he2 HS (.inr ho), hHSd]
    rfl
  have hlt : ∀ t, (lvT lv t).tag ≠ .dead → unpack (lvH own lv) (pack e (lvH own lv)) t = match tagBx (lvT lv t).tag with | some true => e t | some false => [(e t).headD .junk] | none => [.junk] := fun t ht => he2 t (.inl (by have := hdead t ht; have := R.le; omega))
  let ρ := jnR T (lvT lv)
  have P : Pers gh (gh.ren ρ) w w (fun key => ρ key = some key) := Pers.ren gh w ρ _ (fun _ h => h)
  have hbx : ∀ t, ρ (.box t) = some (.box t) := fun t => rfl
  refine ⟨gh.ren ρ, R.base.ren ρ, ⟨fun t => ?_, fun t ht => ?_, fun t s g b hgd => ?_, fun t _ => (lvT_g lv t).2⟩, R.n, R.le, R.df, fun t _ => ?_, fun hp => ?_, fun hp => ?_⟩
  · -- references
    by_cases hd : (lvT lv t).tag = .dead
    · rw [hd]; trivial
    · have hl := tagsLe_at h hd
      cases hy : (lvT lv t).tag with
      | al s k g u =>
        rw [hy] at hl
        simp only [tagLe, Bool.and_eq_true, beq_iff_eq] at hl
        obtain ⟨⟨rfl, rfl⟩, _⟩ := hl
        exact ⟨Nat.zero_le _, fun _ c _ => Nat.zero_le _⟩
      | bp s o g => rw [hy] at hl; cases hl
      | ep s k o g u => rw [hy] at hl; cases hl
      | _ => trivial
  · cases hd : (lvT lv t).tag with
    | dead => rfl
    | _ => have := hdead t (by rw [hd]; simp); omega
  · rw [(lvT_g lv t).2] at hgd; cases hgd
  · by_cases hd : (lvT lv t).tag = .dead
    · rw [hd]; trivial
    · have hl := tagsLe_at h hd
      have het := hlt t hd
      cases hy : (lvT lv t).tag with
      | dead => exact absurd hy hd
      | one b =>
        rw [hy] at hl het
        simp only [tagLe] at hl
        split at hl
        · rename_i c hgd htag
          have hs := R.slot t (by rw [hgd]; trivial)
          rw [htag] at hs
          obtain ⟨x, hx, hc⟩ := hs
          obtain ⟨c', h1, h2⟩ := jnR_le (lvt := lvT lv) (t := t) (k := 0) (b := b) hl rfl (fun k => by rw [htag]; exact tag_one_ck c k) (fun k => by rw [hy]; exact tag_one_ck b k)
          simp only [List.getElem?_cons_zero, Option.some.injEq] at h1
          subst h1
          refine ⟨x, ?_, hc.ren h2⟩
          rw [het]
          simp [tagBx, hx]
        · cases hl
      | agg bs =>
        rw [hy] at hl het
        simp only [tagLe] at hl
        split at hl
        · rename_i as hgd htag
          have hs := R.slot t (by rw [hgd]; trivial)
          rw [htag] at hs
          obtain ⟨vs, hv, hc⟩ := hs
          refine ⟨vs, hv, ?_⟩
          rw [show unpack (lvH own lv) (pack e (lvH own lv)) t = e t from het]
          refine hc.ren (by simp [(ckLe_spec hl).1]) (fun k c' hk => ?_)
          obtain ⟨b, q1, q2⟩ := map_k hk
          obtain ⟨c, p1, p2⟩ := jnR_le (T := T) (lvt := lvT lv) (t := t) hl q1 (fun k => by rw [htag]; rfl) (fun k => by rw [hy]; rfl)
          exact ⟨c.k, by simp [List.getElem?_map, p1], q2 ▸ p2⟩
        · cases hl
      | box bs =>
        rw [hy] at hl het
        simp only [tagLe] at hl
        split at hl
        · rename_i as hgd htag
          have hs := R.slot t (by rw [hgd]; trivial)
          rw [htag] at hs
          obtain ⟨B, vs, el, ho, hv, hb, hc⟩ := hs
          refine ⟨B, vs, el, by simp [Gh.ren, ho, hbx], hv, hb, ?_⟩
          rw [show unpack (lvH own lv) (pack e (lvH own lv)) t = e t from het]
          refine hc.ren (by simp [(ckLe_spec hl).1]) (fun k c' hk => ?_)
          obtain ⟨b, q1, q2⟩ := map_k hk
          obtain ⟨c, p1, p2⟩ := jnR_le (T := T) (lvt := lvT lv) (t := t) hl q1 (fun k => by rw [htag]; rfl) (fun k => by rw [hy]; rfl)
          exact ⟨c.k, by simp [List.getElem?_map, p1], q2 ▸ p2⟩
        · cases hl
      | tup ms => rw [hy] at hl; cases hl
      | bp s o g => rw [hy] at hl; cases hl
      | ep s k o g u => rw [hy] at hl; cases hl
      | al s k g u =>
        rw [hy] at hl
        simp only [tagLe, Bool.and_eq_true, beq_iff_eq] at hl
        obtain ⟨⟨rfl, rfl⟩, hl⟩ := hl
        split at hl
        · rename_i s' j g' u' hgd htag
          simp only [Bool.and_eq_true, beq_iff_eq] at hl
          obtain ⟨⟨⟨rfl, rfl⟩, h1⟩, h2⟩ := hl
          have hs := R.slot t (by rw [hgd]; trivial)
          rw [htag] at hs
          obtain ⟨y', hy'⟩ := Option.isSome_iff_exists.1 h1
          have hh := hs y' hy'
          intro y hy2
          rw [← hh]
          obtain ⟨_, k1⟩ := alOk_g hy2
          obtain ⟨_, k2⟩ := alOk_g hy'
          have hd' : (lvT lv s').tag ≠ .dead := by intro e; rw [e] at k1; cases k1
          have hl' := tagsLe_at h hd'
          revert hl' k1 k2
          cases hA : (lvT lv s').tag <;> cases hB : (T s').tag <;> simp [tagLe, hB, hdr, Tag.ck]
        · cases hl
  · obtain ho := hhp.1 hp
    have hH := R.hp hp
    refine hH.monoK P (fun i => rfl) ?_ rfl
    obtain ⟨bs, hbs, _⟩ := hH
    rw [hHS ho, hbs]
    rfl
  · have ho : own = 0 := by
      rcases Nat.eq_zero_or_pos own with h | h
      · exact h
      · have := hhp.2 (by omega); rw [hp] at this; cases this
    exact hHS0 ho

end
end Tr

namespace Tr
open Go

def iterL (F : (List (List AV) → Option AV) → List (List AV) → Option AV) : Nat → List (List AV) → Option AV
  | 0, _ => none
  | m + 1, vs => F (iterL F m) vs

/-- What a loop comes to is what it comes to within a number of rounds. -/
def LOk (L : LoopOp) : Prop := ∀ F vs r, L F vs = some r → ∃ m, iterL F m vs = some r

section
variable {P : Program} {F : Fm} {gh gh' : Gh} {T T' : Tags} {e e' : Env} {a : Act} {w w' : World} {hn : Hn} {S : Fns} {sig : Nat → Option Sg} {own n : Nat} {L : LoopOp} {rk : Kont} {r : AV} {rs : List ResultVar} {ms : List Md}

theorem evGs_val : ∀ (ops : List DG) (e : Env) (k : Env → Option AV), evGs S ops e k = (evGs S ops e some).bind k
  | [], e, k => rfl
  | .one d :: ops, e, k => by
    simp only [evGs]
    rw [dyn_bind, dyn_bind d e (fun e => evGs S ops e some)]
    cases d.ev S e some with
    | none => rfl
    | some e1 => simp only [Option.bind_some]; exact evGs_val ops e1 k
  | .grp s b ds outs :: ops, e, k => by
    simp only [evGs, CR.ev_val, Option.bind_assoc]
    congr 1; funext c
    congr 1; funext t
    split
    · rw [Option.bind_assoc]; congr 1; funext o; exact evGs_val ops _ k
    · rw [Option.bind_assoc]; congr 1; funext o; exact evGs_val ops _ k

theorem cReg_reg {reg : Nat} {ops : Array Oper} {draw : Bool} {q : IC × Tags} (h : cReg P sig hn own n reg ops draw T = some q) : ∃ ics, q.1 = .reg ics := by
  unfold cReg at h
  simp only [Option.bind_eq_some_iff] at h
  obtain ⟨q', hq, h⟩ := h
  split at h
  · cases h
  · split at h
    · cases h
    · cases h; exact ⟨_, rfl⟩

theorem cC_sound (hm : P.follows .mixedOrders = true) (hS : FnsOk P sig S) (hnn : F.n = n) (hhp : F.hp = true ↔ own ≠ 0) (hL : LOk L) :
    ∀ (c : Code) (T : Tags) (lvs : List (List (Nat × Tag))) (x : CO), cC P sig hn own n rs ms c T lvs = some x →
      ∀ (gh : Gh) (e : Env) (a : Act) (w : World) (k : Kont) (xs : Nat → Kont) (Q : Exit → Act → World → Prop), Rel F gh T e a w → evC S L rk x.ic k xs e = some r →
      (∀ T' ∈ x.out, ∀ gh' e' a' w', Rel F gh' T' e' a' w' → k e' = some r → Q .normal a' w') →
      (∀ y ∈ x.ex, ∀ gh' e' a' w', Rel F gh' y.2 e' a' w' → xs y.1 e' = some r → Q (.exit y.1) a' w') →
      (∀ T' gh' e' a' w', retOk P T' rs ms = true → Rel F gh' T' e' a' w' → rk e' = some r → Q .ret a' w') → c.wp P Q a w
  | .skip, T, lvs, x, hc, gh, e, a, w, k, xs, Q, R, he, hN, hX, hR => by
    simp only [cC, Option.some.injEq] at hc
    subst hc
    exact wp_skip (hN T (by simp) gh e a w R he)
  | .region id ops draw, T, lvs, x, hc, gh, e, a, w, k, xs, Q, R, he, hN, hX, hR => by
    simp only [cC, Option.bind_eq_some_iff, Option.some.injEq] at hc
    obtain ⟨q, hq, rfl⟩ := hc
    obtain ⟨ics, hic⟩ := cReg_reg hq
    simp only [hic, evC] at he
    rw [evGs_val] at he
    simp only [Option.bind_eq_some_iff] at he
    obtain ⟨e1, h1, h2⟩ := he
    exact region_sound hm hS (fun h => hhp.2 h) hnn hq R hic h1 (fun gh' a' w' R' => hN _ (by simp) gh' e1 a' w' R' h2)
  | .seq c1 c2, T, lvs, x, hc, gh, e, a, w, k, xs, Q, R, he, hN, hX, hR => by
    simp only [cC, Option.bind_eq_some_iff] at hc
    obtain ⟨x1, hx1, j, hj, hc⟩ := hc
    refine wp_seq ?_
    unfold joinTo at hj
    split at hj
    · rename_i hout
      cases hj
      simp only [Option.some.injEq] at hc
      subst hc
      refine cC_sound hm hS hnn hhp hL c1 T lvs x1 hx1 gh e a w k xs _ R he (fun T' hT => by rw [hout] at hT; cases hT) (fun y hy gh' e' a' w' R' h => hX y hy gh' e' a' w' R' h) (fun T' gh' e' a' w' h1 R' h => hR T' gh' e' a' w' h1 R' h)
    · rename_i T1 hout
      cases hj
      simp only [Option.bind_eq_some_iff, Option.some.injEq] at hc
      obtain ⟨y, hy, rfl⟩ := hc
      simp only [evC] at he
      refine cC_sound hm hS hnn hhp hL c1 T lvs x1 hx1 gh e a w _ xs _ R he (fun T' hT gh' e' a' w' R' h => ?_) (fun y hy gh' e' a' w' R' h => hX y (by simp [hy]) gh' e' a' w' R' h) (fun T' gh' e' a' w' h1 R' h => hR T' gh' e' a' w' h1 R' h)
      rw [hout] at hT
      simp only [List.mem_singleton] at hT
      subst hT
      exact cC_sound hm hS hnn hhp hL c2 _ _ y hy gh' e' a' w' k xs Q R' h hN (fun y hy gh' e' a' w' R' h => hX y (by simp [hy]) gh' e' a' w' R' h) hR
    · rename_i n1 n2
      split at hj
      · rename_i lv r' hlv
        split at hj
        · rename_i hcc
          simp only [Bool.and_eq_true, List.all_eq_true] at hcc
          obtain ⟨hnd, hall⟩ := hcc
          cases hj
          simp only [Option.bind_eq_some_iff, Option.some.injEq] at hc
          obtain ⟨y, hy, rfl⟩ := hc
          simp only [evC, Lab] at he
          refine cC_sound hm hS hnn hhp hL c1 T lvs x1 hx1 gh e a w _ xs _ R he (fun T' hT gh' e' a' w' R' h => ?_) (fun y hy gh' e' a' w' R' h => hX y (by simp [hy]) gh' e' a' w' R' h) (fun T' gh' e' a' w' h1 R' h => hR T' gh' e' a' w' h1 R' h)
          obtain ⟨gh2, R2⟩ := R'.join (hall T' hT) hnd hhp
          exact cC_sound hm hS hnn hhp hL c2 _ _ y hy gh2 _ a' w' k xs Q R2 h hN (fun y hy gh' e' a' w' R' h => hX y (by simp [hy]) gh' e' a' w' R' h) hR
        · cases hj
      · cases hj
  | .cond c c1 c2, T, lvs, x, hc, gh, e, a, w, k, xs, Q, R, he, hN, hX, hR => by
    simp only [cC, Option.bind_eq_some_iff, Option.some.injEq] at hc
    obtain ⟨q, hq, x1, hx1, x2, hx2, rfl⟩ := hc
    simp only [evC, CR.ev_val, Option.bind_eq_some_iff] at he
    obtain ⟨av, hav, t, ht, he⟩ := he
    have hrd := rdO_sound R (gd := none) trivial hq hav
    have hev : a.eval c = .bool t := by
      unfold A.asB at ht
      split at ht
      · cases ht
        revert hrd
        generalize a.eval c = v
        intro hrd
        cases hrd
        rfl
      · cases ht
    refine wp_cond hev ?_
    cases t with
    | true =>
      simp only [if_true] at he ⊢
      exact cC_sound hm hS hnn hhp hL c1 T lvs x1 hx1 gh e a w k xs Q R he (fun T' hT => hN T' (by simp [hT])) (fun y hy => hX y (by simp [hy])) hR
    | false =>
      simp only [Bool.false_eq_true, if_false] at he ⊢
      exact cC_sound hm hS hnn hhp hL c2 T x1.lvs x2 hx2 gh e a w k xs Q R he (fun T' hT => hN T' (by simp [hT])) (fun y hy => hX y (by simp [hy])) hR
  | .block id c1, T, lvs, x, hc, gh, e, a, w, k, xs, Q, R, he, hN, hX, hR => by
    simp only [cC, Option.bind_eq_some_iff, Option.some.injEq] at hc
    obtain ⟨x1, hx1, rfl⟩ := hc
    simp only [evC] at he
    refine wp_block ?_
    refine cC_sound hm hS hnn hhp hL c1 T lvs x1 hx1 gh e a w k _ _ R he (fun T' hT gh' e' a' w' R' h => hN T' (by simp [hT]) gh' e' a' w' R' h) (fun y hy gh' e' a' w' R' h => ?_) (fun T' gh' e' a' w' h1 R' h => hR T' gh' e' a' w' h1 R' h)
    simp only [exitK] at h
    simp only [Exit.inBlock]
    split
    · rename_i hid
      rw [if_pos hid] at h
      refine hN y.2 ?_ gh' e' a' w' R' h
      simp only [List.mem_append, List.mem_map, List.mem_filter]
      exact .inr ⟨y, ⟨hy, by simp [hid]⟩, rfl⟩
    · rename_i hid
      rw [if_neg hid] at h
      refine hX y ?_ gh' e' a' w' R' h
      simp only [List.mem_filter]
      exact ⟨hy, by simp [hid]⟩
  | .loop c1, T, lvs, x, hc, gh, e, a, w, k, xs, Q, R, he, hN, hX, hR => by
    simp only [cC] at hc
    split at hc
    · rename_i lv r' 
      split at hc
      · rename_i hcc
        simp only [Bool.and_eq_true] at hcc
        obtain ⟨hnd, hle⟩ := hcc
        simp only [Option.bind_eq_some_iff] at hc
        obtain ⟨x1, hx1, hc⟩ := hc
        split at hc
        · rename_i hall
          simp only [List.all_eq_true] at hall
          cases hc
          simp only [evC] at he
          obtain ⟨m, hmm⟩ := hL _ _ _ he
          refine wp_loop_rounds m ?_
          clear he
          -- rounds
          have key : ∀ (m : Nat) (T : Tags) (gh : Gh) (e : Env) (a : Act) (w : World), tagsLe T lv = true → Rel F gh T e a w →
              iterL (fun self vs => evC S L rk x1.ic (fun e => self (pack e (lvH own lv))) xs (unpack (lvH own lv) vs)) m (pack e (lvH own lv)) = some r → Code.rounds P c1 Q m a w := by
            intro m
            induction m with
            | zero => intro T gh e a w _ _ h; cases h
            | succ m ih =>
              intro T gh e a w hle R h
              simp only [iterL] at h
              obtain ⟨gh2, R2⟩ := R.join hle hnd hhp
              rw [rounds_succ]
              refine cC_sound hm hS hnn hhp hL c1 _ r' x1 hx1 gh2 _ a w _ xs _ R2 h (fun T' hT gh' e' a' w' R' h' => ?_) (fun y hy gh' e' a' w' R' h => hX y hy gh' e' a' w' R' h) (fun T' gh' e' a' w' h1 R' h => hR T' gh' e' a' w' h1 R' h)
              exact ih T' gh' e' a' w' (hall T' hT) R' h'
          exact key m T gh e a w hle R hmm
        · cases hc
      · cases hc
    · cases hc
  | .exit id, T, lvs, x, hc, gh, e, a, w, k, xs, Q, R, he, hN, hX, hR => by
    simp only [cC, Option.some.injEq] at hc
    subst hc
    simp only [evC] at he
    exact wp_exit (hX (id, T) (by simp) gh e a w R he)
  | .ret, T, lvs, x, hc, gh, e, a, w, k, xs, Q, R, he, hN, hX, hR => by
    simp only [cC, Option.ite_none_right_eq_some] at hc
    obtain ⟨hr, hc⟩ := hc
    cases hc
    simp only [evC] at he
    exact wp_ret (hR T gh e a w hr R he)
  | .rangeFunc _ _ _ _, _, _, x, hc, _, _, _, _, _, _, _, _, _, _, _, _ => by simp [cC] at hc
  | .scope _, _, _, x, hc, _, _, _, _, _, _, _, _, _, _, _, _ => by simp [cC] at hc
  | .label _, _, _, x, hc, _, _, _, _, _, _, _, _, _, _, _, _ => by simp [cC] at hc
  | .goto _, _, _, x, hc, _, _, _, _, _, _, _, _, _, _, _, _ => by simp [cC] at hc
  | .refuse _, _, _, x, hc, _, _, _, _, _, _, _, _, _, _, _, _ => by simp [cC] at hc

end
end Tr

namespace Tr
open Go

def resV (rv : ResultVar) (tmps : Array Value) : Sem Value :=
  match rv with
  | .tmp t => pure (tmps.getD t undef)
  | .cell a t => do loadVar t (← asAddr (tmps.getD a undef))

def tk (m : Md) (k : Nat) : Bool :=
  match m with
  | .own _ _ => k == 0
  | .agg ks => match ks[k]? with | some (.own _ _) => true | _ => false
  | _ => false

section
variable {P : Program} {F : Fm} {gh gh' : Gh} {T T' : Tags} {e e' : Env} {a : Act} {w w' : World}

/-- A cell handed back. -/
theorem CellOk.out {ρ : Key → Option Key} {key key' : Key} {c c' : CKd} {x : AV} {v : Value} (h : CellOk w gh key c x v)
    (hk : c' = .dead ∨ (c = .v ∧ c' = .v) ∨ (∃ e s, c = .own e s ∧ c' = .v ∧ ρ key = none) ∨ (∃ e s, c = .own e s ∧ c' = .own e s ∧ ρ key = some key')) : CellOk w (gh.ren ρ) key' c' x v := by
  have S : Stay w w gh.im (gh.ren ρ).im gh.et gh.et := ⟨fun _ h => .inl h, fun _ _ => rfl, fun _ _ h => h⟩
  rcases hk with rfl | ⟨rfl, rfl⟩ | ⟨e, s, rfl, rfl, hr⟩ | ⟨e, s, rfl, rfl, hr⟩
  · trivial
  · exact Rep.mono S h
  · exact OwnOk.toRep h hr
  · exact OwnOk.rename h hr

theorem live_out {c : CK} (h : c.k.live = true) {r : Option Key} (hr : r = none) : CKd.v = .dead ∨ (c.k = .v ∧ CKd.v = .v) ∨ (∃ e s, c.k = .own e s ∧ CKd.v = .v ∧ r = none) ∨ (∃ e s, c.k = .own e s ∧ CKd.v = .own e s ∧ False) := by
  cases hk : c.k with
  | dead => rw [hk] at h; cases h
  | v => exact .inr (.inl ⟨rfl, rfl⟩)
  | own e s => exact .inr (.inr (.inl ⟨e, s, rfl, rfl, hr⟩))

theorem run_loadVar1 {ty : TypeId} (ht : okT P ty = true) (hag : isAg P ty = false) {B off : Nat} {vs : List Value} {el : TypeId} {fr : Nat × Nat} (hb : w.heap[B]? = some (.cells vs.toArray el fr)) {v : Value} (hv : vs[off]? = some v) :
    (loadVar ty ⟨B, off, none⟩).run P w = .ok v w := by
  obtain ⟨⟨desc, hd⟩, _⟩ := okT_spec ht
  have hc : w.cell? ⟨B, off, none⟩ = some v := by rw [cell_of_row w B off _ el fr hb]; simpa using hv
  simp [loadVar, run_isAgg hd, hag, hc]

theorem run_loadVarN {ty : TypeId} (ht : okT P ty = true) (hag : isAg P ty = true) {B : Nat} {vs : List Value} {el : TypeId} {fr : Nat × Nat} (hb : w.heap[B]? = some (.cells vs.toArray el fr)) (hl : vs.length = P.cellsOf ty) :
    (loadVar ty ⟨B, 0, none⟩).run P w = .ok (.agg vs.toArray) w := by
  have h := run_loadN (P := P) (w := w) (off := 0) ht hag hb (by simp [hl])
  simp only [List.drop_zero, ← hl, List.take_length] at h
  simpa [Instr.loadAt, Instr.sureAddr] using h

theorem res_one (R : Rel F gh T e a w) {rv : ResultVar} {m : Md} (h : retOk P T [rv] [m] = true) {ρ : Key → Option Key} {j : Nat} (hρ : ∀ k, ρ (.own (resT rv) 0 k) = if tk m k then some (.arg j k) else none)
    {cr : CR} {av : AV} (hcr : rsOf P [rv] = [cr]) (hv : cr.val e = some av) : ∃ v, (resV rv a.tmps).run P w = .ok v w ∧ MdOk w (gh.ren ρ) (.arg j) m av v := by
  cases rv with
  | tmp t =>
    simp only [retOk, Bool.and_true] at h
    simp only [rsOf, List.cons.injEq, and_true] at hcr
    subst hcr
    refine ⟨tmp a t, rfl, ?_⟩
    simp only [resT] at hρ
    split at h
    · rename_i c hgd htag
      have hs := R.slot t (by rw [hgd]; trivial)
      rw [htag] at hs
      obtain ⟨x, hx, hc⟩ := hs
      simp only [CR.val, hx, List.getElem?_cons_zero, Option.some.injEq] at hv
      subst hv
      exact hc.out (key' := .arg j 0) ((live_out h (r := ρ (.own t 0 0)) (by rw [hρ]; rfl)).imp id (Or.imp id (Or.imp id (fun ⟨_, _, _, _, hf⟩ => hf.elim))))
    · rename_i c ee ss hgd htag
      have hs := R.slot t (by rw [hgd]; trivial)
      rw [htag] at hs
      obtain ⟨x, hx, hc⟩ := hs
      simp only [CR.val, hx, List.getElem?_cons_zero, Option.some.injEq] at hv
      subst hv
      split at h
      · rename_i e' s' hk
        simp only [Bool.and_eq_true, beq_iff_eq] at h
        obtain ⟨rfl, rfl⟩ := h
        exact hc.out (key' := .arg j 0) (c' := .own ee ss) (.inr (.inr (.inr ⟨ee, ss, hk, rfl, by rw [hρ]; rfl⟩)))
      · cases h
    · cases h
  | cell t ty =>
    simp only [retOk, Bool.and_true] at h
    simp only [resT] at hρ
    simp only [rsOf, List.cons.injEq, and_true] at hcr
    split at h
    · rename_i ks hgd htag
      simp only [Bool.and_eq_true, beq_iff_eq, Bool.or_eq_true, List.all_eq_true] at h
      obtain ⟨⟨⟨hok, hlive⟩, hlen⟩, hag⟩ := h
      have hs := R.slot t (by rw [hgd]; trivial)
      rw [htag] at hs
      obtain ⟨B, vs, el, ho, hvv, hb, hc⟩ := hs
      have ha : a.tmps.getD t undef = .pointer (some ⟨B, 0, none⟩) := hvv
      have hcells : RepL w (gh.ren ρ).im gh.et (e t) vs := repL_of (by rw [hc.1, hc.2.1]) (fun k x v h1 h2 => by
        have hlt : k < ks.length := by have := (List.getElem?_eq_some_iff.1 h1).1; rw [hc.1] at this; simpa using this
        have hk : (ks.map CK.k)[k]? = some (ks[k]).k := by simp [hlt]
        have := hc.2.2.2 k _ x v hk h1 h2
        exact this.out (key' := .arg j k) (c' := .v) (ρ := ρ) ((live_out (hlive _ (List.getElem_mem hlt)) (r := ρ (.own t 0 k)) (by rw [hρ]; rfl)).imp id (Or.imp id (Or.imp id (fun ⟨_, _, _, _, hf⟩ => hf.elim)))))
      have hvl : vs.length = P.cellsOf ty := by have := hc.2.1; simp at this; rw [this, hlen]; rfl
      cases hagg : isAg P ty with
      | true =>
        rw [hagg] at hcr
        simp only [if_true] at hcr
        subst hcr
        simp only [CR.val, Option.some.injEq] at hv
        subst hv
        refine ⟨.agg vs.toArray, ?_, .agg _ vs hcells hc.2.2.1⟩
        simp only [resV, ha, asAddr, Sem.run_bind, Sem.run_pure, Result.andThen]
        exact run_loadVarN hok hagg hb hvl
      | false =>
        rw [hagg] at hcr hag
        simp only [Bool.false_eq_true, if_false] at hcr
        subst hcr
        have hl1 : ks.length = 1 := hag.resolve_left (by simp)
        have h1 : vs.length = 1 := by have := hc.2.1; simp at this; omega
        have h2 : (e t).length = 1 := by have := hc.1; simp at this; omega
        simp only [CR.val] at hv
        obtain ⟨v, hv', hr⟩ := hcells.get hv
        refine ⟨v, ?_, hr⟩
        simp only [resV, ha, asAddr, Sem.run_bind, Sem.run_pure, Result.andThen]
        exact run_loadVar1 hok hagg hb hv'
    · rename_i ks cs hgd htag
      simp only [Bool.and_eq_true, beq_iff_eq] at h
      obtain ⟨⟨⟨hok, hkk⟩, hagg⟩, hlen⟩ := h
      have hs := R.slot t (by rw [hgd]; trivial)
      rw [htag] at hs
      obtain ⟨B, vs, el, ho, hvv, hb, hc⟩ := hs
      have ha : a.tmps.getD t undef = .pointer (some ⟨B, 0, none⟩) := hvv
      have hvl : vs.length = P.cellsOf ty := by have := hc.2.1; simp at this; rw [this, hlen]; rfl
      rw [hagg] at hcr
      simp only [if_true] at hcr
      subst hcr
      simp only [CR.val, Option.some.injEq] at hv
      subst hv
      obtain ⟨k1, k2⟩ := kOk_spec hkk
      refine ⟨.agg vs.toArray, ?_, e t, vs, rfl, rfl, ?_⟩
      · simp only [resV, ha, asAddr, Sem.run_bind, Sem.run_pure, Result.andThen]
        exact run_loadVarN hok hagg hb hvl
      · refine ⟨by rw [hc.1, List.length_map, k1], by rw [hc.2.1, List.length_map, k1], hc.2.2.1, fun k c x v q1 q2 q3 => ?_⟩
        obtain ⟨c0, p1, p2⟩ := k2 k c q1
        have := hc.2.2.2 k c0.k x v (by simp [List.getElem?_map, p1]) q2 q3
        refine this.out ?_
        have hr := hρ k
        simp only [tk, q1] at hr
        rcases p2 with rfl | ⟨rfl, hl⟩ | ⟨e0, z0, rfl, hck⟩
        · exact .inl rfl
        · simp only [Bool.false_eq_true, if_false] at hr
          exact (live_out hl hr).imp id (Or.imp id (Or.imp id (fun ⟨_, _, _, _, hf⟩ => hf.elim)))
        · simp only [if_true] at hr
          exact .inr (.inr (.inr ⟨e0, z0, hck, rfl, hr⟩))
    · rename_i c ee ss hgd htag
      simp only [Bool.and_eq_true, Bool.not_eq_true'] at h
      obtain ⟨⟨hok, hagg⟩, hk⟩ := h
      have hs := R.slot t (by rw [hgd]; trivial)
      rw [htag] at hs
      obtain ⟨B, vs, el, ho, hvv, hb, hc⟩ := hs
      have ha : a.tmps.getD t undef = .pointer (some ⟨B, 0, none⟩) := hvv
      have hvl : vs.length = 1 := by simpa using hc.2.1
      have hxl : (e t).length = 1 := by simpa using hc.1
      rw [hagg] at hcr
      simp only [Bool.false_eq_true, if_false] at hcr
      subst hcr
      simp only [CR.val] at hv
      obtain ⟨v, hvs⟩ : ∃ v, vs[0]? = some v := ⟨vs[0], by simp⟩
      have hcell := hc.2.2.2 0 c.k av v (by simp) hv hvs
      refine ⟨v, ?_, ?_⟩
      · simp only [resV, ha, asAddr, Sem.run_bind, Sem.run_pure, Result.andThen]
        exact run_loadVar1 hok hagg hb hvs
      · split at hk
        · rename_i e' s' hck
          simp only [Bool.and_eq_true, beq_iff_eq] at hk
          obtain ⟨rfl, rfl⟩ := hk
          exact hcell.out (key' := .arg j 0) (c' := .own ee ss) (.inr (.inr (.inr ⟨ee, ss, hck, rfl, by rw [hρ]; rfl⟩)))
        · cases hk
    · cases h

/-- Where what is handed back goes. -/
def resR : List ResultVar → List Md → Nat → Key → Option Key
  | rv :: r, m :: ms, j, .own t 0 k => if t = resT rv then (if tk m k then some (.arg j k) else none) else resR r ms (j + 1) (.own t 0 k)
  | _, _, _, key => some key

theorem resR_at : ∀ (rs : List ResultVar) (ms : List Md) (j i : Nat) (rv : ResultVar) (m : Md), nodupN (rs.map resT) = true → rs[i]? = some rv → ms[i]? = some m →
    ∀ k, resR rs ms j (.own (resT rv) 0 k) = if tk m k then some (.arg (j + i) k) else none
  | [], _, _, i, _, _, _, h, _ => by simp at h
  | r0 :: rs, [], _, i, _, _, _, _, h => by simp at h
  | r0 :: rs, m0 :: ms, j, 0, rv, m, hn, h1, h2 => fun k => by
    simp only [List.getElem?_cons_zero, Option.some.injEq] at h1 h2
    subst h1; subst h2
    simp [resR]
  | r0 :: rs, m0 :: ms, j, i + 1, rv, m, hn, h1, h2 => fun k => by
    simp only [List.getElem?_cons_succ] at h1 h2
    simp only [List.map_cons, nodupN, Bool.and_eq_true, Bool.not_eq_true', List.any_eq_false, List.mem_map] at hn
    have hne : resT rv ≠ resT r0 := fun e => hn.1 (resT rv) ⟨rv, List.mem_of_getElem? h1, rfl⟩ (by simp [e])
    simp only [resR, if_neg hne]
    rw [resR_at rs ms (j + 1) i rv m hn.2 h1 h2 k]
    rw [show j + 1 + i = j + (i + 1) by omega]

theorem rsOf_map (P : Program) : ∀ (rs : List ResultVar), (rsOf P rs).length = rs.length ∧ ∀ (i : Nat) (rv : ResultVar), rs[i]? = some rv → ∃ cr, (rsOf P rs)[i]? = some cr ∧ rsOf P [rv] = [cr]
  | [] => ⟨rfl, by simp⟩
  | rv :: rs => by
    obtain ⟨h1, h2⟩ := rsOf_map P rs
    cases rv with
    | tmp t =>
      refine ⟨by simp [rsOf, h1], fun i rv h => ?_⟩
      cases i with
      | zero => simp at h; subst h; exact ⟨_, rfl, rfl⟩
      | succ i => obtain ⟨cr, q1, q2⟩ := h2 i rv (by simpa using h); exact ⟨cr, by simpa [rsOf] using q1, q2⟩
    | cell t ty =>
      refine ⟨by simp [rsOf, h1], fun i rv h => ?_⟩
      cases i with
      | zero => simp at h; subst h; exact ⟨_, rfl, rfl⟩
      | succ i => obtain ⟨cr, q1, q2⟩ := h2 i rv (by simpa using h); exact ⟨cr, by simpa [rsOf] using q1, q2⟩

theorem retOk_map : ∀ (rs : List ResultVar) (ms : List Md), retOk P T rs ms = true → rs.length = ms.length ∧ ∀ (i : Nat) (rv : ResultVar) (m : Md), rs[i]? = some rv → ms[i]? = some m → retOk P T [rv] [m] = true
  | [], [], _ => ⟨rfl, by simp⟩
  | [], _ :: _, h => by simp [retOk] at h
  | rv :: _, [], h => by cases rv <;> simp [retOk] at h
  | rv :: rs, m :: ms, h => by
    have hh : retOk P T [rv] [m] = true ∧ retOk P T rs ms = true := by
      cases rv with
      | tmp t => simp only [retOk, Bool.and_eq_true, and_true] at h ⊢; exact h
      | cell t ty => simp only [retOk, Bool.and_eq_true, and_true] at h ⊢; exact h
    obtain ⟨h1, h2⟩ := retOk_map rs ms hh.2
    refine ⟨by simp [h1], fun i rv' m' q1 q2 => ?_⟩
    cases i with
    | zero => simp at q1 q2; subst q1; subst q2; exact hh.1
    | succ i => exact h2 i rv' m' (by simpa using q1) (by simpa using q2)

theorem valCRs_map : ∀ (crs : List CR) (avs : List AV), valCRs e crs = some avs → avs.length = crs.length ∧ ∀ (i : Nat) (cr : CR), crs[i]? = some cr → ∃ av, avs[i]? = some av ∧ cr.val e = some av
  | [], avs, h => by cases h; exact ⟨rfl, by simp⟩
  | cr :: crs, avs, h => by
    simp only [valCRs, Option.bind_eq_some_iff, Option.some.injEq] at h
    obtain ⟨x, h1, xs, h2, rfl⟩ := h
    obtain ⟨q1, q2⟩ := valCRs_map crs xs h2
    refine ⟨by simp [q1], fun i c hc => ?_⟩
    cases i with
    | zero => simp at hc; subst hc; exact ⟨x, rfl, h1⟩
    | succ i => simpa using q2 i c (by simpa using hc)

theorem mapM_run {α : Type} (f : α → Sem Value) : ∀ (l : List α), (∀ (i : Nat) (x : α), l[i]? = some x → ∃ v, (f x).run P w = .ok v w) → ∃ vs, (l.mapM f).run P w = .ok vs w ∧ vs.length = l.length ∧ ∀ (i : Nat) (x : α) (v : Value), l[i]? = some x → vs[i]? = some v → (f x).run P w = .ok v w
  | [], _ => ⟨[], by simp, rfl, by simp⟩
  | x :: l, h => by
    obtain ⟨v, hv⟩ := h 0 x rfl
    obtain ⟨vs, h1, h2, h3⟩ := mapM_run f l (fun i y hy => h (i + 1) y (by simpa using hy))
    refine ⟨v :: vs, ?_, by simp [h2], fun i y u q1 q2 => ?_⟩
    · simp only [List.mapM_cons, Sem.run_bind, hv, Result.andThen, h1, Sem.run_pure]
    · cases i with
      | zero => simp at q1 q2; subst q1; subst q2; exact hv
      | succ i => exact h3 i y u (by simpa using q1) (by simpa using q2)

/-- What a list of cells, handed back, comes to. -/
def resA (avs : List AV) : AV := match avs with | [v] => v | _ => .tup avs

/-- What a function hands back. -/
theorem results_sound (R : Rel F gh T e a w) {fn : Func} {ms : List Md} (h : retOk P T fn.results.toList ms = true) (hn : nodupN (fn.results.toList.map resT) = true)
    {avs : List AV} (hv : valCRs e (rsOf P fn.results.toList) = some avs) :
    ∃ v, (results fn a.tmps).run P w = .ok v w ∧ resOk w (gh.ren (resR fn.results.toList ms 0)) ms (resA avs) v := by
  unfold resA
  obtain ⟨l1, hr⟩ := retOk_map _ _ h
  obtain ⟨l2, hc⟩ := rsOf_map P fn.results.toList
  obtain ⟨l3, ha⟩ := valCRs_map _ _ hv
  have one : ∀ (i : Nat) (rv : ResultVar) (m : Md) (av : AV), fn.results.toList[i]? = some rv → ms[i]? = some m → avs[i]? = some av → ∃ v, (resV rv a.tmps).run P w = .ok v w ∧ MdOk w (gh.ren (resR fn.results.toList ms 0)) (.arg i) m av v := by
    intro i rv m av h1 h2 h3
    obtain ⟨cr, c1, c2⟩ := hc i rv h1
    obtain ⟨av', a1, a2⟩ := ha i cr c1
    rw [h3] at a1; cases a1
    exact res_one R (hr i rv m h1 h2) (fun k => by have := resR_at _ _ 0 i rv m hn h1 h2 k; rw [Nat.zero_add] at this; exact this) c2 a2
  have getm : ∀ i, i < fn.results.toList.length → ∃ m av, ms[i]? = some m ∧ avs[i]? = some av := fun i hi => ⟨_, _, List.getElem?_eq_getElem (by rw [← l1]; exact hi), List.getElem?_eq_getElem (by rw [l3, l2]; exact hi)⟩
  obtain ⟨vs, v1, v2, v3⟩ := mapM_run (P := P) (w := w) (fun rv => resV rv a.tmps) fn.results.toList (fun i rv hi => by
    obtain ⟨m, av, m1, m2⟩ := getm i (List.getElem?_eq_some_iff.1 hi).1
    obtain ⟨v, hv, _⟩ := one i rv m av hi m1 m2
    exact ⟨v, hv⟩)
  have all : ∀ (i : Nat) (m : Md) (x : AV) (v : Value), ms[i]? = some m → avs[i]? = some x → vs[i]? = some v → MdOk w (gh.ren (resR fn.results.toList ms 0)) (.arg i) m x v := by
    intro i m x v h1 h2 h3
    have hi : i < fn.results.toList.length := by have := (List.getElem?_eq_some_iff.1 h3).1; rw [v2] at this; exact this
    obtain ⟨u, u1, u2⟩ := one i _ m x (List.getElem?_eq_getElem hi) h1 h2
    have := v3 i _ v (List.getElem?_eq_getElem hi) h3
    rw [u1] at this
    cases this
    exact u2
  clear getm
  have hrun : (results fn a.tmps).run P w = .ok (if h : vs.toArray.size = 1 then vs.toArray[0] else .tuple vs.toArray) w := by
    unfold results
    rw [Array.mapM_eq_mapM_toList]
    have e1 : (fun rv : ResultVar => (match rv with | .tmp t => pure (a.tmps.getD t undef) | .cell b t => do loadVar t (← asAddr (a.tmps.getD b undef)) : Sem Value)) = fun rv => resV rv a.tmps := by
      funext rv; cases rv <;> rfl
    have e2 := congrArg (fun f => List.toArray <$> List.mapM f fn.results.toList) e1
    refine (congrArg (fun z => (z >>= fun vs => pure (if h : vs.size = 1 then vs[0] else .tuple vs) : Sem Value).run P w) e2).trans ?_
    simp only [Sem.run_bind, map_eq_pure_bind, v1, Result.andThen, Sem.run_pure]
  refine ⟨_, hrun, ?_⟩
  unfold resOk
  split
  · rename_i m
    have hl1 : vs.length = 1 := by rw [v2, l1]; rfl
    have hl2 : avs.length = 1 := by rw [l3, l2, l1]; rfl
    obtain ⟨v, rfl⟩ := List.length_eq_one_iff.1 hl1
    obtain ⟨x, rfl⟩ := List.length_eq_one_iff.1 hl2
    simp only [List.size_toArray, List.length_singleton, dite_true]
    exact all 0 m x v rfl rfl rfl
  · rename_i hm
    have hl : ms.length ≠ 1 := fun h => by
      obtain ⟨m, rfl⟩ := List.length_eq_one_iff.1 h
      exact hm m rfl
    have hl1 : vs.length ≠ 1 := by rw [v2, l1]; exact hl
    have hl2 : avs.length ≠ 1 := by rw [l3, l2, l1]; exact hl
    refine ⟨avs, vs, ?_, ?_, by rw [l3, l2, l1], by rw [v2, l1], all⟩
    · split
      · rename_i v; exact absurd rfl hl2
      · rfl
    · rw [dif_neg]
      simpa using hl1

end
end Tr

namespace Tr
open Go

section
variable {w : World} {im : Nat → Prop} {et : List Nat} (et' : List Nat)

theorem noRef_cells {x : AV} (h : noRef x = true) : noRefs x.cells = true := by
  cases x <;> simp_all [AV.cells, noRef, noRefs]

mutual
theorem Rep.noRef : ∀ {x : AV} {v : Value}, Rep w im et x v → Tr.noRef x = true → Rep w im et' x v
  | _, _, .bool b, _ => .bool b
  | _, _, .int k n, _ => .int k n
  | _, _, .str s, _ => .str s
  | _, _, .nil, _ => .nil
  | _, _, .nilp, _ => .nilp
  | _, _, .nilf, _ => .nilf
  | _, _, .undef, _ => .undef
  | _, _, .agg cs vs h h1, hn => .agg cs vs (RepL.noRef h (by simpa [Tr.noRef] using hn)) h1
  | _, _, .tup cs vs h, hn => .tup cs vs (RepL.noRef h (by simpa [Tr.noRef] using hn))
  | _, _, .sl xs a cap sz vs h hc hi hm, hn => .sl xs a cap sz vs (RepE.noRef h (by simpa [Tr.noRef] using hn)) hc hi hm
  | _, _, .ip cs a vs h h1 hi hm, hn => .ip cs a vs (RepL.noRef h (by simpa [Tr.noRef] using hn)) h1 hi hm
  | _, _, .fn f fs cs fv cv hf hc, hn => .fn f fs cs fv cv (RepL.noRef hf (by simp [Tr.noRef] at hn; exact hn.1)) (RepL.noRef hc (by simp [Tr.noRef] at hn; exact hn.2))
  | _, _, .ref id off B h, hn => by simp [Tr.noRef] at hn
theorem RepL.noRef : ∀ {xs : List AV} {vs : List Value}, RepL w im et xs vs → noRefs xs = true → RepL w im et' xs vs
  | _, _, .nil, _ => .nil
  | _, _, .cons x xs v vs h hs, hn => .cons x xs v vs (Rep.noRef h (by simp [noRefs] at hn; exact hn.1)) (RepL.noRef hs (by simp [noRefs] at hn; exact hn.2))
theorem RepE.noRef : ∀ {sz : Nat} {xs : List AV} {vs : List Value}, RepE w im et sz xs vs → noRefs xs = true → RepE w im et' sz xs vs
  | _, _, _, .nil sz, _ => .nil sz
  | _, _, _, .cons sz x xs us vs h hn h1 hs, hr => .cons sz x xs us vs (RepL.noRef h (noRef_cells (by simp [noRefs] at hr; exact hr.1))) hn h1 (RepE.noRef hs (by simp [noRefs] at hr; exact hr.2))
 end

end

section
variable {w : World} {gh : Gh}

theorem noRefs_get : ∀ {xs : List AV} {i : Nat} {x : AV}, noRefs xs = true → xs[i]? = some x → noRef x = true
  | [], i, x, _, h => by simp at h
  | y :: ys, i, x, h, hx => by
    simp only [noRefs, Bool.and_eq_true] at h
    cases i with
    | zero => simp at hx; subst hx; exact h.1
    | succ i => exact noRefs_get h.2 (by simpa using hx)

theorem OwnOk.et {e sz : Nat} {key : Key} {x : AV} {v : Value} (h : OwnOk w gh e sz key x v) (hx : noRef x = true) (et' : List Nat) : OwnOk w { gh with et := et' } e sz key x v := by
  obtain ⟨xs, vs, q1, q2, q3, q4, q5⟩ := h
  refine ⟨xs, vs, q1, q2, q3.noRef et' ?_, q4, q5⟩
  rcases q1 with ⟨rfl, _⟩ | ⟨rfl, rfl, _⟩
  · simpa [noRef] using hx
  · rfl

theorem MdOk.et {kf : Nat → Key} {m : Md} {x : AV} {v : Value} (h : MdOk w gh kf m x v) (hx : noRef x = true) (et' : List Nat) : MdOk w { gh with et := et' } kf m x v := by
  cases m with
  | dead => trivial
  | v => exact Rep.noRef et' h hx
  | own e s => exact OwnOk.et h hx et'
  | agg ks =>
    obtain ⟨cs, vs, rfl, rfl, h1, h2, h3, h4⟩ := h
    have hc : noRefs cs = true := by simpa [noRef] using hx
    refine ⟨cs, vs, rfl, rfl, h1, h2, h3, fun k c x v a1 a2 a3 => ?_⟩
    have hh := h4 k c x v a1 a2 a3
    cases c with
    | dead => trivial
    | v => exact Rep.noRef et' hh (noRefs_get hc a2)
    | own e s => exact OwnOk.et hh (noRefs_get hc a2) et'

theorem resOk.et {ms : List Md} {r : AV} {v : Value} (h : resOk w gh ms r v) (hr : noRef r = true) (et' : List Nat) : resOk w { gh with et := et' } ms r v := by
  have tup : (∃ xs vs, r = .tup xs ∧ v = .tuple vs.toArray ∧ MdsOk w gh .arg ms xs vs) → ∃ xs vs, r = .tup xs ∧ v = .tuple vs.toArray ∧ MdsOk w { gh with et := et' } .arg ms xs vs := by
    rintro ⟨xs, vs, rfl, rfl, q1, q2, q3⟩
    have hc : noRefs xs = true := by simpa [noRef] using hr
    exact ⟨xs, vs, rfl, rfl, q1, q2, fun i m x v a1 a2 a3 => MdOk.et (q3 i m x v a1 a2 a3) (noRefs_get hc a2) et'⟩
  match ms, h, tup with
  | [], h, tup => exact tup h
  | [m], h, _ => exact MdOk.et h hr et'
  | _ :: _ :: _, h, tup => exact tup h

theorem ArgsOk.et {i : Nat} {ms : List Md} {xs : List AV} {vs : List Value} (h : ArgsOk w gh i ms xs vs) (hx : noRefs xs = true) (et' : List Nat) : ArgsOk w { gh with et := et' } i ms xs vs := by
  induction h with
  | nil i => exact .nil i
  | cons i m ms x xs v vs h hs ih =>
    simp only [noRefs, Bool.and_eq_true] at hx
    exact .cons i m ms x xs v vs (h.et hx.1 et') (ih hx.2)

theorem ArgsOk.get {i : Nat} {ms : List Md} {xs : List AV} {vs : List Value} (h : ArgsOk w gh i ms xs vs) : xs.length = ms.length ∧ vs.length = ms.length ∧
    ∀ (j : Nat) (m : Md), ms[j]? = some m → ∃ x v, xs[j]? = some x ∧ vs[j]? = some v ∧ MdOk w gh (.arg (i + j)) m x v := by
  induction h with
  | nil i => exact ⟨rfl, rfl, by simp⟩
  | cons i m ms x xs v vs h hs ih =>
    obtain ⟨l1, l2, ih⟩ := ih
    refine ⟨by simp [l1], by simp [l2], fun j m' hm => ?_⟩
    cases j with
    | zero => simp at hm; subst hm; exact ⟨x, v, rfl, rfl, h⟩
    | succ j =>
      obtain ⟨x', v', h1, h2, h3⟩ := ih j m' (by simpa using hm)
      exact ⟨x', v', by simpa using h1, by simpa using h2, by rw [show i + (j + 1) = i + 1 + j by omega]; exact h3⟩

/-- The owners at a function's entry. -/
def Gh.enter (gh : Gh) (hp : Bool) : Gh :=
  { ow := fun b => match gh.ow b with | some (.arg i k) => some (.own i 0 k) | some (.heap i) => if hp then some (.heap i) else none | _ => none, im := gh.im, et := gh.et }

theorem MdOk.enter {hp : Bool} {i : Nat} {m : Md} {x : AV} {v : Value} (h : MdOk w gh (.arg i) m x v) : MdOk w (gh.enter hp) (.own i 0) m x v := by
  have own : ∀ {e sz k : Nat} {x : AV} {v : Value}, OwnOk w gh e sz (.arg i k) x v → OwnOk w (gh.enter hp) e sz (.own i 0 k) x v := by
    intro e sz k x v h
    obtain ⟨xs, vs, q1, q2, q3, q4, q5⟩ := h
    exact ⟨xs, vs, q1, q2, q3, q4, fun B hB => by simp [Gh.enter, q5 B hB]⟩
  cases m with
  | dead => trivial
  | v => exact h
  | own e s => exact own h
  | agg ks =>
    obtain ⟨cs, vs, rfl, rfl, h1, h2, h3, h4⟩ := h
    refine ⟨cs, vs, rfl, rfl, h1, h2, h3, fun k c x v a1 a2 a3 => ?_⟩
    have hh := h4 k c x v a1 a2 a3
    cases c with
    | dead => trivial
    | v => exact hh
    | own e s => exact own hh

theorem psOf_lv : ∀ (ms : List Md) (t j : Nat), (lvT (psOf t ms).2 j) = if t ≤ j then (match ms[j - t]? with | some m => ⟨0, mdT m, none⟩ | none => ⟨0, .dead, none⟩) else ⟨0, .dead, none⟩
  | [], t, j => by simp [psOf, lvT]
  | m :: ms, t, j => by
    simp only [psOf, lvT]
    rw [psOf_lv ms (t + 1) j]
    by_cases h : j = t
    · subst h; simp
    · rw [if_neg h]
      by_cases h2 : t ≤ j
      · have e : j - t = (j - (t + 1)) + 1 := by omega
        rw [if_pos (by omega), if_pos h2, e]
        simp
      · rw [if_neg (by omega), if_neg h2]

theorem argsEnv_at : ∀ (ms : List Md) (avs : List AV) (t j : Nat) (m : Md) (x : AV), ms[j]? = some m → avs[j]? = some x → argsEnv (psOf t ms).1 avs (t + j) = match m with | .agg _ => x.cells | _ => [x]
  | [], _, _, _, _, _, h, _ => by simp at h
  | _ :: _, [], _, _, _, _, _, h => by simp at h
  | m :: ms, a :: avs, t, 0, m', x, h1, h2 => by
    simp only [List.getElem?_cons_zero, Option.some.injEq] at h1 h2
    subst h1; subst h2
    simp only [psOf, argsEnv, Nat.add_zero, if_true]
    cases m <;> simp
  | m :: ms, a :: avs, t, j + 1, m', x, h1, h2 => by
    simp only [List.getElem?_cons_succ] at h1 h2
    simp only [psOf, argsEnv]
    rw [if_neg (by omega)]
    have := argsEnv_at ms avs (t + 1) j m' x h1 h2
    rw [show t + 1 + j = t + (j + 1) by omega] at this
    exact this

theorem argsEnv_out : ∀ (ms : List Md) (avs : List AV) (t j : Nat), t + ms.length ≤ j → argsEnv (psOf t ms).1 avs j = [.junk]
  | [], _, _, _, _ => by simp [psOf, argsEnv]
  | m :: ms, [], t, j, h => by simp [psOf, argsEnv]
  | m :: ms, a :: avs, t, j, h => by
    simp only [List.length_cons] at h
    simp only [psOf, argsEnv]
    rw [if_neg (by omega)]
    exact argsEnv_out ms avs (t + 1) j (by omega)

theorem rel_enter {n : Nat} {kh hp : Bool} {O : Nat → Prop} {ms : List Md} {avs : List AV} {vals : List Value} {e : Env} (hG : GhOk w gh) (ha : ArgsOk w gh 0 ms avs vals) (hn : ms.length ≤ n) (hnH : n ≤ HS)
    (hO : ∀ b k, (gh.enter kh).ow b = some k → O b) (he : ∀ t, t < n → e t = argsEnv (psOf 0 ms).1 avs t) (hh : hp = true → HeapOk w (gh.enter kh) e) (hh0 : hp = false → e HS = [.junk]) :
    Rel ⟨w, O, gh.im, n, hp, gh.et⟩ (gh.enter kh) (lvT (psOf 0 ms).2) e { tmps := vals.toArray ++ Array.replicate (n - vals.toArray.size) undef, defers := [] } w := by
  obtain ⟨l1, l2, hget⟩ := ha.get
  have hT : ∀ t, lvT (psOf 0 ms).2 t = match ms[t]? with | some m => ⟨0, mdT m, none⟩ | none => ⟨0, .dead, none⟩ := fun t => by
    rw [psOf_lv ms 0 t, if_pos (Nat.zero_le t)]
    rfl
  have htmp : ∀ t v, vals[t]? = some v → tmp { tmps := vals.toArray ++ Array.replicate (n - vals.toArray.size) undef, defers := [] } t = v := by
    intro t v h
    have hlt := (List.getElem?_eq_some_iff.1 h).1
    simp only [tmp, Array.getD_eq_getD_getElem?]
    rw [Array.getElem?_append_left (by simpa using hlt)]
    simp [h]
  have how : ∀ b k, (gh.enter kh).ow b = some k → b < w.heap.size := fun b k hk => by
    simp only [Gh.enter] at hk
    split at hk
    · exact hG.ow b _ (by assumption)
    · exact hG.ow b _ (by assumption)
    · cases hk
  refine ⟨⟨Nat.le_refl _, fun _ _ _ => rfl, fun b k hk => ⟨.inl (hO b k hk), how b k hk⟩, fun b hb => ⟨?_, (hG.im b hb).2, .inl hb⟩, fun b hb => hb, fun _ _ h => h, fun _ => rfl, SameS.refl _⟩, ⟨fun t => ?_, fun t ht => ?_, fun t s g b h => ?_, fun t _ => ?_⟩, ?_, hnH, rfl, fun t _ => ?_, hh, hh0⟩
  · simp [Gh.enter, (hG.im b hb).1]
  · rw [hT t]
    cases ms[t]? with
    | none => trivial
    | some m => cases m <;> trivial
  · rw [hT t, List.getElem?_eq_none (by have : n ≤ t := ht; omega)]
  · rw [hT t] at h
    split at h <;> cases h
  · rw [hT t]
    split <;> rfl
  · show (vals.toArray ++ Array.replicate (n - vals.toArray.size) undef).size = n
    simp
    omega
  · rw [hT t]
    cases hm : ms[t]? with
    | none => trivial
    | some m =>
      obtain ⟨x, v, h1, h2, h3⟩ := hget t m hm
      rw [Nat.zero_add] at h3
      have h3 := h3.enter (hp := kh)
      have htn : t < n := by have := (List.getElem?_eq_some_iff.1 hm).1; omega
      have het := he t htn
      have hx := argsEnv_at ms avs 0 t m x hm h1
      rw [Nat.zero_add] at hx
      rw [hx] at het
      simp only
      cases m with
      | dead => trivial
      | v => exact ⟨x, het, by rw [htmp t v h2]; exact h3⟩
      | own e s => exact ⟨x, het, by rw [htmp t v h2]; exact h3⟩
      | agg ks =>
        obtain ⟨cs, vs, rfl, rfl, hc⟩ := h3
        refine ⟨vs, htmp t _ h2, ?_⟩
        rw [het]
        have e1 : (ks.map fun k => (⟨0, k⟩ : CK)).map CK.k = ks := by rw [List.map_map]; exact List.map_id _
        rw [e1]
        exact hc

end
end Tr

namespace Tr
open Go

section
variable {P : Program} {hn : Hn} {S : Fns} {sig : Nat → Option Sg} {L : LoopOp} {f : Nat} {i : IF}

theorem cF_spec (h : cF P sig hn f = some i) : ∃ sg fn b x, sig f = some sg ∧ P.funcs[f]? = some fn ∧ fn.body = some b ∧ cC P sig hn sg.own fn.ntmps fn.results.toList sg.rs b (lvT (psOf 0 sg.ps).2) hn.lvs = some x ∧
    x.ex = [] ∧ nodupN (fn.results.toList.map resT) = true ∧ (∀ T ∈ x.out, retOk P T fn.results.toList sg.rs = true) ∧ sg.ps.length ≤ fn.ntmps ∧ fn.ntmps ≤ HS ∧ sg.ps.length = fn.params.size + fn.nfree ∧
    i = { ps := (psOf 0 sg.ps).1, rs := rsOf P fn.results.toList, own := sg.own, body := x.ic } := by
  unfold cF at h
  simp only [Option.bind_eq_some_iff] at h
  obtain ⟨sg, h1, fn, h2, b, h3, x, h4, h⟩ := h
  rw [Option.ite_none_right_eq_some] at h
  obtain ⟨hc, h⟩ := h
  simp only [Bool.and_eq_true, List.isEmpty_iff, List.all_eq_true, beq_iff_eq, decide_eq_true_eq] at hc
  obtain ⟨⟨⟨⟨⟨⟨c1, c2⟩, c3⟩, c4⟩, c5⟩, c6⟩, c7⟩ := hc
  cases h
  exact ⟨sg, fn, b, x, h1, h2, h3, h4, c1, c3, c4, by omega, c7, c5, rfl⟩

theorem retv_spec {rs : List CR} {b : Bool} {e : Env} {r : AV} (h : retv rs b e = some r) : ∃ avs, valCRs e rs = some avs ∧ ((b = false ∧ r = resA avs) ∨ (b = true ∧ ∃ h t, e HS = h :: t ∧ r = .tup [resA avs, h])) := by
  unfold retv at h
  rw [evCRs_val] at h
  simp only [Option.bind_eq_some_iff] at h
  obtain ⟨avs, h1, h⟩ := h
  refine ⟨avs, h1, ?_⟩
  cases b with
  | false =>
    simp only [Bool.false_eq_true, if_false, Option.some.injEq] at h
    exact .inl ⟨rfl, h.symm⟩
  | true =>
    simp only [if_true] at h
    split at h
    · rename_i hh t he
      cases h
      exact .inr ⟨rfl, hh, t, he, rfl⟩
    · cases h

theorem body_sound (hm : P.follows .mixedOrders = true) (hS : FnsOk P sig S) (hL : LOk L) {fn : Func} {sg : Sg} {b : Code} {x : CO} (hfn : P.funcs[f]? = some fn) (hbody : fn.body = some b)
    (hx : cC P sig hn sg.own fn.ntmps fn.results.toList sg.rs b (lvT (psOf 0 sg.ps).2) hn.lvs = some x) (hex : x.ex = []) (hnd : nodupN (fn.results.toList.map resT) = true) (hout : ∀ T ∈ x.out, retOk P T fn.results.toList sg.rs = true)
    {F : Fm} {gh : Gh} {e : Env} {vals : List Value} {w : World} (hnn : F.n = fn.ntmps) (hhp : F.hp = true ↔ sg.own ≠ 0)
    (R : Rel F gh (lvT (psOf 0 sg.ps).2) e { tmps := vals.toArray ++ Array.replicate (fn.ntmps - vals.toArray.size) undef, defers := [] } w) {bb : Bool} {r : AV}
    (he : evC S L (retv (rsOf P fn.results.toList) bb) x.ic (retv (rsOf P fn.results.toList) bb) (fun _ _ => none) e = some r) :
    Calls P f vals.toArray w fun en w' => ∃ v gh1 T1 e1 a1 avs, en = .returned v ∧ Rel F gh1 T1 e1 a1 w' ∧ resOk w' (gh1.ren (resR fn.results.toList sg.rs 0)) sg.rs (resA avs) v ∧
      ((bb = false ∧ r = resA avs) ∨ (bb = true ∧ ∃ h t, e1 HS = h :: t ∧ r = .tup [resA avs, h])) := by
  refine calls_of_wp hfn hbody ?_
  have fin : ∀ T1 gh1 e1 a1 w1, retOk P T1 fn.results.toList sg.rs = true → Rel F gh1 T1 e1 a1 w1 → retv (rsOf P fn.results.toList) bb e1 = some r →
      a1.defers = [] ∧ ∃ v, (results fn a1.tmps).run P w1 = .ok v w1 ∧ ∃ v' gh1 T1 e1 a1 avs, Ending.returned v = .returned v' ∧ Rel F gh1 T1 e1 a1 w1 ∧ resOk w1 (gh1.ren (resR fn.results.toList sg.rs 0)) sg.rs (resA avs) v' ∧
      ((bb = false ∧ r = resA avs) ∨ (bb = true ∧ ∃ h t, e1 HS = h :: t ∧ r = .tup [resA avs, h])) := by
    intro T1 gh1 e1 a1 w1 hret R1 hr
    obtain ⟨avs, h1, h2⟩ := retv_spec hr
    obtain ⟨v, hv1, hv2⟩ := results_sound R1 hret hnd h1
    exact ⟨R1.df, v, hv1, v, gh1, T1, e1, a1, avs, rfl, R1, hv2, h2⟩
  refine cC_sound (F := F) (r := r) hm hS hnn hhp hL b _ _ x hx gh e _ w _ _ _ R he (fun T1 hT gh1 e1 a1 w1 R1 h => ?_) (fun y hy => by rw [hex] at hy; cases hy) (fun T1 gh1 e1 a1 w1 hret R1 h => ?_)
  · exact fin T1 gh1 e1 a1 w1 (hout T1 hT) R1 h
  · exact fin T1 gh1 e1 a1 w1 hret R1 h

theorem ret_of {F : Fm} {gh gh1 : Gh} {T1 : Tags} {e1 : Env} {a1 : Act} {w w1 : World} (R : Rel F gh1 T1 e1 a1 w1) (hw : F.w0 = w) (him : F.im0 = gh.im) (ρ : Key → Option Key) (et : List Nat) : Ret w gh F.O w1 { gh1.ren ρ with et := et } := by
  have hb := R.base.ren ρ
  subst hw
  exact ⟨hb.sz, hb.keep, hb.owned, fun b h => ⟨(hb.imm b h).1, (hb.imm b h).2.1, by rw [← him]; exact (hb.imm b h).2.2⟩, fun b h => by rw [← him] at h; exact hb.im0 b h, hb.st⟩

theorem cF_sound0 (hm : P.follows .mixedOrders = true) (hS : FnsOk P sig S) (hL : LOk L) (h : cF P sig hn f = some i) {sg : Sg} (hsg : sig f = some sg) (hown : sg.own ≠ 1) : FOk0 P sg f (evF S L i) := by
  obtain ⟨sg', fn, b, x, h1, h2, h3, hx, hex, hnd, hout, hps, hHS, _, hi⟩ := cF_spec h
  rw [hsg] at h1; cases h1
  subst hi
  intro w gh avs vals r hG ha hr
  obtain ⟨l1, l2, _⟩ := ha.get
  unfold evF at hr
  simp only at hr
  split at hr
  · -- no own memory
    rename_i ho
    have R := rel_enter (n := fn.ntmps) (kh := false) (hp := false) (O := argB gh) (e := argsEnv (psOf 0 sg.ps).1 avs) hG ha hps hHS
      (fun b k hk => by
        simp only [Gh.enter] at hk
        split at hk
        · rename_i i k' hh; exact ⟨i, k', hh⟩
        · simp at hk
        · cases hk)
      (fun _ _ => rfl) (fun h => by cases h) (fun _ => argsEnv_out sg.ps avs 0 HS (by omega))
    refine Calls.mono (body_sound (F := ⟨w, argB gh, gh.im, fn.ntmps, false, gh.et⟩) hm hS hL h2 h3 hx hex hnd hout rfl (by simp [ho]) R hr) (fun en w' ⟨v, gh1, T1, e1, a1, avs1, q1, q2, q3, q4⟩ => ?_)
    rcases q4 with ⟨_, rfl⟩ | ⟨hb, _⟩
    · refine ⟨v, { gh1.ren (resR fn.results.toList sg.rs 0) with et := gh.et }, q1, ret_of (F := ⟨w, argB gh, gh.im, fn.ntmps, false, gh.et⟩) q2 rfl rfl _ _, rfl, ?_⟩
      have het : gh1.et = gh.et := q2.base.et2 rfl
      have : ({ gh1.ren (resR fn.results.toList sg.rs 0) with et := gh.et } : Gh) = gh1.ren (resR fn.results.toList sg.rs 0) := by
        rw [← het]; rfl
      rw [this]
      exact q3
    · cases hb
  · rename_i ho; exact absurd ho hown
  · -- a memory of its own
    rename_i ho0 ho1
    split at hr
    · rename_i hnr
      simp only [Option.bind_eq_some_iff] at hr
      obtain ⟨r', hr, hr2⟩ := hr
      split at hr2
      · rename_i hnr2
        cases hr2
        have hG' : GhOk w { gh with et := [] } := ⟨hG.ow, hG.im⟩
        have R := rel_enter (gh := { gh with et := [] }) (n := fn.ntmps) (kh := false) (hp := true) (O := argB gh) (e := (argsEnv (psOf 0 sg.ps).1 avs).set HS [.hp []]) hG' (ha.et hnr []) hps hHS
          (fun b k hk => by
            simp only [Gh.enter] at hk
            split at hk
            · rename_i i k' hh; exact ⟨i, k', hh⟩
            · simp at hk
            · cases hk)
          (fun t ht => set_other _ _ _ _ (by omega)) (fun _ => ⟨[], set_same _ _ _, rfl, fun i B h => by simp [Gh.enter] at h⟩) (fun h => by cases h)
        refine Calls.mono (body_sound (F := ⟨w, argB gh, gh.im, fn.ntmps, true, []⟩) hm hS hL h2 h3 hx hex hnd hout rfl (by simp; exact ho0) R hr) (fun en w' ⟨v, gh1, T1, e1, a1, avs1, q1, q2, q3, q4⟩ => ?_)
        rcases q4 with ⟨_, rfl⟩ | ⟨hb, _⟩
        · exact ⟨v, { gh1.ren (resR fn.results.toList sg.rs 0) with et := gh.et }, q1, ret_of (F := ⟨w, argB gh, gh.im, fn.ntmps, true, []⟩) q2 rfl rfl _ _, rfl, q3.et hnr2 gh.et⟩
        · cases hb
      · cases hr2
    · cases hr

theorem cF_sound1 (hm : P.follows .mixedOrders = true) (hS : FnsOk P sig S) (hL : LOk L) (h : cF P sig hn f = some i) {sg : Sg} (hsg : sig f = some sg) (hown : sg.own = 1) : FOk1 P sg f (evF S L i) := by
  obtain ⟨sg', fn, b, x, h1, h2, h3, hx, hex, hnd, hout, hps, hHS, _, hi⟩ := cF_spec h
  rw [hsg] at h1; cases h1
  subst hi
  intro w gh h0 avs vals r hG ha hh hr
  obtain ⟨l1, l2, _⟩ := ha.get
  unfold evF at hr
  simp only [hown] at hr
  have R := rel_enter (n := fn.ntmps) (kh := true) (hp := true) (O := fun b => argB gh b ∨ heapB gh b) (e := (argsEnv (psOf 0 sg.ps).1 avs).set HS [h0]) hG ha hps hHS
    (fun b k hk => by
      simp only [Gh.enter] at hk
      split at hk
      · rename_i i k' hh; exact .inl ⟨i, k', hh⟩
      · rename_i i hh; exact .inr ⟨i, hh⟩
      · cases hk)
    (fun t ht => set_other _ _ _ _ (by omega)) (fun _ => by
      obtain ⟨bs, b1, b2, b3⟩ := hh
      refine ⟨bs, (set_same _ _ _).trans b1, b2, fun i B hi => ?_⟩
      obtain ⟨o1, rest⟩ := b3 i B hi
      exact ⟨by simp [Gh.enter, o1], rest⟩) (fun h => by cases h)
  refine Calls.mono (body_sound (F := ⟨w, fun b => argB gh b ∨ heapB gh b, gh.im, fn.ntmps, true, gh.et⟩) hm hS hL h2 h3 hx hex hnd hout rfl (by simp [hown]) R hr) (fun en w' ⟨v, gh1, T1, e1, a1, avs1, q1, q2, q3, q4⟩ => ?_)
  rcases q4 with ⟨hb, _⟩ | ⟨_, h', t, he1, rfl⟩
  · cases hb
  · have hren : ∀ i, resR fn.results.toList sg.rs 0 (.heap i) = some (.heap i) := by
      intro i
      cases fn.results.toList <;> cases sg.rs <;> rfl
    have het : t = [] := by
      obtain ⟨bs, b1, _⟩ := q2.hp rfl
      rw [he1] at b1; cases b1; rfl
    subst het
    refine ⟨v, gh1.ren (resR fn.results.toList sg.rs 0), resA avs1, h', q1, rfl, ret_of (F := ⟨w, fun b => argB gh b ∨ heapB gh b, gh.im, fn.ntmps, true, gh.et⟩) q2 rfl rfl _ _, q2.base.et, ?_, q3⟩
    obtain ⟨bs, b1, b2, b3⟩ := q2.hp rfl
    rw [he1] at b1
    refine ⟨bs, b1, b2, fun i B hi => ?_⟩
    obtain ⟨o1, cs, vs, el, c1, c2, c3, c4⟩ := b3 i B hi
    exact ⟨by simp [Gh.ren, o1, hren], cs, vs, el, c1, c2, c3.mono ⟨fun _ h => .inl h, fun _ _ => rfl, fun _ _ h => h⟩, c4⟩

end
end Tr

namespace Tr
open Go

/-- Which sets of indices count. -/
structure Flt (ι : Type) where
  E : (ι → Prop) → Prop
  all : ∀ {p : ι → Prop}, (∀ i, p i) → E p
  mono : ∀ {p q : ι → Prop}, (∀ i, p i → q i) → E p → E q
  and : ∀ {p q : ι → Prop}, E p → E q → E (fun i => p i ∧ q i)

section
variable {ι : Type} (X : Flt ι) {S : Fns} {Sn : ι → Fns}

def FSim (X : Flt ι) (S : Fns) (Sn : ι → Fns) : Prop := (∀ f args r, S.f f args = some r → X.E fun i => (Sn i).f f args = some r) ∧ ∀ i, (Sn i).pl = S.pl

theorem callv_sim (hS : FSim X S Sn) {x : AV} {as : List AV} {r : AV} (h : A.callv S x as = some r) : X.E fun i => A.callv (Sn i) x as = some r := by
  unfold A.callv at h ⊢
  split at h
  · rename_i f first cap
    split at h
    · rename_i hp
      refine X.mono (fun i hi => ?_) (hS.1 _ _ _ h)
      simp only [hS.2 i, hp, if_true]
      exact hi
    · cases h
  · cases h

theorem callh_sim (hS : FSim X S Sn) {hp x : AV} {as : List AV} {r : AV × AV} (h : A.callh S hp x as = some r) : X.E fun i => A.callh (Sn i) hp x as = some r := by
  unfold A.callh at h ⊢
  split at h
  · rename_i f first cap
    split at h
    · rename_i hp
      simp only [Option.bind_eq_some_iff] at h
      obtain ⟨q, h1, h2⟩ := h
      refine X.mono (fun i hi => ?_) (hS.1 _ _ _ h1)
      simp only [hS.2 i, hp, if_true, hi, Option.bind_some]
      exact h2
    · rename_i hp
      split at h
      · rename_i hp2
        simp only [Option.bind_eq_some_iff] at h
        obtain ⟨q, h1, h2⟩ := h
        refine X.mono (fun i hi => ?_) (hS.1 _ _ _ h1)
        simp only [hS.2 i, hp, if_false, hp2, if_true, hi, Option.bind_some]
        exact h2
      · cases h
  · cases h

theorem px_sim (hS : FSim X S Sn) {e : Env} {p : PX} {a : AV} (h : p.ev S e some = some a) : X.E fun i => p.ev (Sn i) e some = some a := by
  cases p
  case call f b xs =>
    simp only [PX.ev, evCRs_val, Option.bind_eq_some_iff] at h ⊢
    obtain ⟨vs, h1, h⟩ := h
    split at h
    · rename_i hb
      simp only [Option.bind_eq_some_iff] at h
      obtain ⟨q, ⟨q1, h2, h3⟩, h4⟩ := h
      refine X.mono (fun i hi => ⟨vs, h1, ?_⟩) (hS.1 _ _ _ h2)
      rw [if_pos hb, hi, Option.bind_some, h3]
      exact h4
    · rename_i hb
      simp only [Option.bind_eq_some_iff] at h
      obtain ⟨q, h2, h3⟩ := h
      refine X.mono (fun i hi => ⟨vs, h1, ?_⟩) (hS.1 _ _ _ h2)
      rw [if_neg hb, hi]
      exact h3
  case callv x xs =>
    simp only [PX.ev, CR.ev_val, evCRs_val, Option.bind_eq_some_iff] at h ⊢
    obtain ⟨y, hy, vs, h1, q, h2, h3⟩ := h
    exact X.mono (fun i hi => ⟨y, hy, vs, h1, q, hi, h3⟩) (callv_sim X hS h2)
  all_goals exact X.all (fun i => h)

theorem dyn_sim (hS : FSim X S Sn) {e e' : Env} {d : Dyn} (h : d.ev S e some = some e') : X.E fun i => d.ev (Sn i) e some = some e' := by
  cases d
  case set d p =>
    simp only [Dyn.ev] at h ⊢
    rw [PX.ev_val] at h
    simp only [Option.bind_eq_some_iff] at h
    obtain ⟨a, h1, h2⟩ := h
    refine X.mono (fun i hi => ?_) (px_sim X hS h1)
    rw [PX.ev_val, hi]; exact h2
  case csp d p =>
    simp only [Dyn.ev] at h ⊢
    rw [PX.ev_val] at h
    simp only [Option.bind_eq_some_iff] at h
    obtain ⟨a, h1, m, h2, h3⟩ := h
    refine X.mono (fun i hi => ?_) (px_sim X hS h1)
    rw [PX.ev_val, hi, Option.bind_some, h2]; exact h3
  case hcall d f xs =>
    simp only [Dyn.ev, evCRs_val, Option.bind_eq_some_iff] at h ⊢
    obtain ⟨vs, h1, h⟩ := h
    split at h
    · rename_i hh t heq
      simp only [Option.bind_eq_some_iff] at h
      obtain ⟨q, ⟨q1, h2, h3⟩, h4⟩ := h
      refine X.mono (fun i hi => ⟨vs, h1, ?_⟩) (hS.1 _ _ _ h2)
      rw [hi, Option.bind_some, h3]
      exact h4
    · cases h
  case hcallv d x xs =>
    simp only [Dyn.ev, CR.ev_val, evCRs_val, Option.bind_eq_some_iff] at h ⊢
    obtain ⟨y, hy, vs, h1, h⟩ := h
    split at h
    · rename_i hh t heq
      simp only [Option.bind_eq_some_iff] at h
      obtain ⟨q, h2, h4⟩ := h
      refine X.mono (fun i hi => ⟨y, hy, vs, h1, ?_⟩) (callh_sim X hS h2)
      rw [hi]
      exact h4
    · cases h
  all_goals exact X.all (fun i => h)

theorem evDs_sim (hS : FSim X S Sn) : ∀ {ds : List Dyn} {e e' : Env}, evDs S ds e some = some e' → X.E fun i => evDs (Sn i) ds e some = some e'
  | [], e, e', h => X.all (fun i => h)
  | d :: ds, e, e', h => by
    simp only [evDs] at h ⊢
    rw [dyn_bind] at h
    simp only [Option.bind_eq_some_iff] at h
    obtain ⟨e1, h1, h2⟩ := h
    refine X.mono (fun i hi => ?_) (X.and (dyn_sim X hS h1) (evDs_sim hS h2))
    rw [dyn_bind, hi.1]
    exact hi.2

theorem evGs_sim (hS : FSim X S Sn) : ∀ {gs : List DG} {e e' : Env}, evGs S gs e some = some e' → X.E fun i => evGs (Sn i) gs e some = some e'
  | [], e, e', h => X.all (fun i => h)
  | .one d :: gs, e, e', h => by
    simp only [evGs] at h ⊢
    rw [dyn_bind] at h
    simp only [Option.bind_eq_some_iff] at h
    obtain ⟨e1, h1, h2⟩ := h
    refine X.mono (fun i hi => ?_) (X.and (dyn_sim X hS h1) (evGs_sim hS h2))
    rw [dyn_bind, hi.1]
    exact hi.2
  | .grp s b ds outs :: gs, e, e', h => by
    simp only [evGs, CR.ev_val, Option.bind_eq_some_iff] at h ⊢
    obtain ⟨c, hc, t, ht, h⟩ := h
    refine X.mono (p := fun i => _) (fun i hi => ⟨c, hc, t, ht, hi⟩) ?_
    split at h
    · rename_i d
      simp only [Option.bind_eq_some_iff] at h ⊢
      obtain ⟨o, ho, h⟩ := h
      cases t with
      | false =>
        simp only [Bool.false_eq_true, if_false] at ho ⊢
        exact X.mono (fun i hi => ⟨o, ho, hi⟩) (evGs_sim hS h)
      | true =>
        simp only [if_true] at ho ⊢
        rw [evDs_val] at ho
        simp only [Option.bind_eq_some_iff] at ho
        obtain ⟨e1, h1, h2⟩ := ho
        refine X.mono (fun i hi => ⟨o, ?_, hi.2⟩) (X.and (evDs_sim X hS h1) (evGs_sim hS h))
        rw [evDs_val, hi.1]
        exact h2
    · simp only [Option.bind_eq_some_iff] at h ⊢
      obtain ⟨o, ho, h⟩ := h
      cases t with
      | false =>
        simp only [Bool.false_eq_true, if_false] at ho ⊢
        exact X.mono (fun i hi => ⟨o, ho, hi⟩) (evGs_sim hS h)
      | true =>
        simp only [if_true] at ho ⊢
        rw [evDs_val] at ho
        simp only [Option.bind_eq_some_iff] at ho
        obtain ⟨e1, h1, h2⟩ := ho
        refine X.mono (fun i hi => ⟨o, ?_, hi.2⟩) (X.and (evDs_sim X hS h1) (evGs_sim hS h))
        rw [evDs_val, hi.1]
        exact h2

abbrev LBody := (List (List AV) → Option AV) → List (List AV) → Option AV

def Mono (F : LBody) : Prop := ∀ self self' : List (List AV) → Option AV, (∀ vs r, self vs = some r → self' vs = some r) → ∀ vs r, F self vs = some r → F self' vs = some r

def LSim (X : Flt ι) (M : LBody → Prop) (L : LoopOp) (Ln : ι → LoopOp) : Prop :=
  ∀ (F : LBody) (Fn : ι → LBody), (∀ (self : List (List AV) → Option AV) (selfn : ι → List (List AV) → Option AV), (∀ vs r, self vs = some r → X.E fun i => selfn i vs = some r) → ∀ vs r, F self vs = some r → X.E fun i => Fn i (selfn i) vs = some r) →
    (∀ i, M (Fn i)) → ∀ vs r, L F vs = some r → X.E fun i => Ln i (Fn i) vs = some r

def KSim (X : Flt ι) (k : Kont) (kn : ι → Kont) : Prop := ∀ e r, k e = some r → X.E fun i => kn i e = some r

theorem evC_sim (hS : FSim X S Sn) {M : LBody → Prop} {L : LoopOp} {Ln : ι → LoopOp} (hL : LSim X M L Ln) (hM : ∀ i rk a lv xs, M (fun self vs => evC (Sn i) (Ln i) rk a (fun e => self (pack e lv)) xs (unpack lv vs)))
    {rk : Kont} {rkn : ι → Kont} (hrk : KSim X rk rkn) : ∀ (ic : IC) (k : Kont) (kn : ι → Kont) (xs : Nat → Kont) (xsn : ι → Nat → Kont), KSim X k kn → (∀ id, KSim X (xs id) (fun i => xsn i id)) →
      KSim X (evC S L rk ic k xs) (fun i => evC (Sn i) (Ln i) (rkn i) ic (kn i) (xsn i))
  | .skip, k, kn, xs, xsn, hk, hx => hk
  | .reg ops, k, kn, xs, xsn, hk, hx => fun e r h => by
    simp only [evC] at h ⊢
    rw [evGs_val] at h
    simp only [Option.bind_eq_some_iff] at h
    obtain ⟨e1, h1, h2⟩ := h
    refine X.mono (fun i hi => ?_) (X.and (evGs_sim X hS h1) (hk e1 r h2))
    rw [evGs_val, hi.1]
    exact hi.2
  | .seq a b, k, kn, xs, xsn, hk, hx => by
    have hb := evC_sim hS hL hM hrk b k kn xs xsn hk hx
    exact evC_sim hS hL hM hrk a _ _ xs xsn hb hx
  | .cond c a b, k, kn, xs, xsn, hk, hx => fun e r h => by
    simp only [evC, CR.ev_val, Option.bind_eq_some_iff] at h ⊢
    obtain ⟨av, hav, t, ht, h⟩ := h
    cases t with
    | true =>
      simp only [if_true] at h
      refine X.mono (fun i hi => ⟨av, hav, true, ht, ?_⟩) (evC_sim hS hL hM hrk a k kn xs xsn hk hx e r h)
      simp only [if_true]
      exact hi
    | false =>
      simp only [Bool.false_eq_true, if_false] at h
      refine X.mono (fun i hi => ⟨av, hav, false, ht, ?_⟩) (evC_sim hS hL hM hrk b k kn xs xsn hk hx e r h)
      simp only [Bool.false_eq_true, if_false]
      exact hi
  | .block id a, k, kn, xs, xsn, hk, hx => by
    refine evC_sim hS hL hM hrk a k kn (exitK id k xs) (fun i => exitK id (kn i) (xsn i)) hk (fun j => ?_)
    unfold exitK
    by_cases h : j = id
    · simp only [h, if_true]; exact hk
    · simp only [h, if_false]; exact hx j
  | .loop lv a, k, kn, xs, xsn, hk, hx => fun e r h => by
    simp only [evC] at h ⊢
    refine hL _ _ (fun self selfn hself vs r h => ?_) (fun i => hM i (rkn i) a lv (xsn i)) _ _ h
    exact evC_sim hS hL hM hrk a _ (fun i e => selfn i (pack e lv)) xs xsn (fun e r h => hself _ _ h) hx _ _ h
  | .lab lv a, k, kn, xs, xsn, hk, hx => by
    have := evC_sim hS hL hM hrk a (fun e => Lab (fun vs => k (unpack lv vs)) (pack e lv)) (fun i e => Lab (fun vs => kn i (unpack lv vs)) (pack e lv)) xs xsn (fun e r h => hk _ _ h) hx
    exact this
  | .exit id, k, kn, xs, xsn, hk, hx => hx id
  | .ret, k, kn, xs, xsn, hk, hx => hrk

theorem evF_sim (hS : FSim X S Sn) {M : LBody → Prop} {L : LoopOp} {Ln : ι → LoopOp} (hL : LSim X M L Ln) (hM : ∀ i rk a lv xs, M (fun self vs => evC (Sn i) (Ln i) rk a (fun e => self (pack e lv)) xs (unpack lv vs)))
    {f : IF} {args : List AV} {r : AV} (h : evF S L f args = some r) : X.E fun i => evF (Sn i) (Ln i) f args = some r := by
  have key : ∀ b e r, evC S L (retv f.rs b) f.body (retv f.rs b) (fun _ _ => none) e = some r → X.E fun i => evC (Sn i) (Ln i) (retv f.rs b) f.body (retv f.rs b) (fun _ _ => none) e = some r := fun b e r h =>
    evC_sim X hS hL hM (rkn := fun _ => retv f.rs b) (fun e r h => X.all (fun _ => h)) f.body _ (fun _ => retv f.rs b) _ (fun _ _ _ => none) (fun e r h => X.all (fun _ => h)) (fun _ e r h => by cases h) e r h
  unfold evF at h ⊢
  split at h
  · exact key _ _ _ h
  · split at h
    · exact key _ _ _ h
    · cases h
  · split at h
    · rename_i hn
      simp only [Option.bind_eq_some_iff] at h
      obtain ⟨q, h1, h2⟩ := h
      refine X.mono (fun i hi => ?_) (key _ _ _ h1)
      rw [if_pos hn, hi]
      exact h2
    · cases h

end
end Tr

namespace Tr
open Go

/-- All of one index. -/
def Flt.one : Flt Unit := ⟨fun p => p (), fun h => h (), fun h hp => h () hp, fun a b => ⟨a, b⟩⟩

/-- From some index on. -/
def Flt.ev : Flt Nat :=
  ⟨fun p => ∃ N, ∀ n, N ≤ n → p n, fun h => ⟨0, fun n _ => h n⟩, fun h ⟨N, hp⟩ => ⟨N, fun n hn => h n (hp n hn)⟩,
   fun ⟨N, h⟩ ⟨M, k⟩ => ⟨max N M, fun n hn => ⟨h n (by omega), k n (by omega)⟩⟩⟩

def loopN (n : Nat) : LoopOp := fun F vs => iterL F n vs

theorem loopN_ok (n : Nat) : LOk (loopN n) := fun _ _ _ h => ⟨n, h⟩

theorem loopN_sim1 {a b : Nat} (hab : a ≤ b) : LSim Flt.one (fun _ => True) (loopN a) (fun _ => loopN b) := by
  intro F Fn hF _ vs r h
  have key : ∀ a b vs r, a ≤ b → iterL F a vs = some r → iterL (Fn ()) b vs = some r := by
    intro a
    induction a with
    | zero => intro b vs r _ h; cases h
    | succ a ih =>
      intro b vs r hab h
      cases b with
      | zero => omega
      | succ b =>
        simp only [iterL] at h ⊢
        exact hF (iterL F a) (fun _ => iterL (Fn ()) b) (fun vs r h => ih b vs r (by omega) h) vs r h
  exact key a b vs r hab h

theorem fsim_refl {ι : Type} (X : Flt ι) (S : Fns) : FSim X S (fun _ => S) := ⟨fun _ _ _ h => X.all (fun _ => h), fun _ => rfl⟩

theorem mono_loopN (S : Fns) (n : Nat) (rk : Kont) (a : IC) (lv : List (Nat × Bool)) (xs : Nat → Kont) : Mono (fun self vs => evC S (loopN n) rk a (fun e => self (pack e lv)) xs (unpack lv vs)) :=
  fun self self' h vs r hr =>
    evC_sim Flt.one (fsim_refl _ S) (loopN_sim1 (Nat.le_refl n)) (fun _ _ _ _ _ => trivial) (rkn := fun _ => rk) (fun _ _ h => h) a (fun e => self (pack e lv)) (fun _ e => self' (pack e lv)) xs (fun _ => xs) (fun _ _ h' => h _ _ h') (fun _ _ _ h => h) _ _ hr

open Classical in
noncomputable def limO (g : Nat → Option AV) : Option AV := if h : ∃ r N, ∀ n, N ≤ n → g n = some r then some h.choose else none

theorem limO_iff {g : Nat → Option AV} {r : AV} : limO g = some r ↔ ∃ N, ∀ n, N ≤ n → g n = some r := by
  unfold limO
  constructor
  · intro h
    split at h
    · rename_i hh
      cases h
      exact hh.choose_spec
    · cases h
  · rintro ⟨N, h⟩
    have hh : ∃ r N, ∀ n, N ≤ n → g n = some r := ⟨r, N, h⟩
    rw [dif_pos hh]
    obtain ⟨M, hM⟩ := hh.choose_spec
    have h1 := hM (max N M) (by omega)
    have h2 := h (max N M) (by omega)
    rw [h2] at h1
    exact h1.symm

noncomputable def loopLim : LoopOp := fun F vs => limO (fun n => iterL F n vs)

theorem iterL_mono {F : LBody} (hF : Mono F) : ∀ {a b : Nat} {vs : List (List AV)} {r : AV}, a ≤ b → iterL F a vs = some r → iterL F b vs = some r
  | 0, _, _, _, _, h => by cases h
  | _ + 1, 0, _, _, hab, _ => by omega
  | a + 1, b + 1, vs, r, hab, h => by
    simp only [iterL] at h ⊢
    exact hF _ _ (fun vs r h => iterL_mono hF (by omega) h) vs r h

theorem loopLim_sim : LSim Flt.ev Mono loopLim loopN := by
  intro F Fn hF hM vs r h
  obtain ⟨m, hm⟩ := limO_iff.1 h
  have key : ∀ m vs r, iterL F m vs = some r → Flt.ev.E fun n => iterL (Fn n) m vs = some r := by
    intro m
    induction m with
    | zero => intro vs r h; cases h
    | succ m ih =>
      intro vs r h
      simp only [iterL] at h ⊢
      exact hF (iterL F m) (fun n => iterL (Fn n) m) (fun vs r h => ih vs r h) vs r h
  obtain ⟨N, hN⟩ := key m vs r (hm m (Nat.le_refl m))
  exact ⟨max N m, fun n hn => iterL_mono (hM n) (by omega) (hN n (by omega))⟩

/-- A loop comes to what it comes to within enough rounds. -/
theorem loopLim_of {F : LBody} {vs : List (List AV)} {r : AV} (N : Nat) (h : ∀ n, N ≤ n → iterL F n vs = some r) : loopLim F vs = some r := limO_iff.2 ⟨N, h⟩

/-- The functions of a program, turned; those that are told otherwise; which may be called as values; how many arguments these take. -/
structure Pg where
  fs : Nat → Option IF
  prim : Nat → List AV → Option AV
  pl : Nat → Nat
  ar : Nat → Nat

def SN (G : Pg) : Nat → Fns
  | 0 => ⟨fun f args => match G.fs f with | some _ => none | none => G.prim f args, G.pl⟩
  | n + 1 => ⟨fun f args => match G.fs f with
      | some i => if G.pl f = 0 ∨ args.length = G.ar f then evF (SN G n) (loopN n) i args else none
      | none => G.prim f args, G.pl⟩

theorem SN_pl (G : Pg) (n : Nat) : (SN G n).pl = G.pl := by cases n <;> rfl

theorem SN_none {G : Pg} {f : Nat} (hf : G.fs f = none) (n : Nat) (args : List AV) : (SN G n).f f args = G.prim f args := by cases n <;> simp [SN, hf]
theorem SN_zero {G : Pg} {f : Nat} {i : IF} (hf : G.fs f = some i) (args : List AV) : (SN G 0).f f args = none := by simp [SN, hf]
theorem SN_some {G : Pg} {f : Nat} {i : IF} (hf : G.fs f = some i) (n : Nat) (args : List AV) : (SN G (n + 1)).f f args = if G.pl f = 0 ∨ args.length = G.ar f then evF (SN G n) (loopN n) i args else none := by simp [SN, hf]

theorem SN_succ {G : Pg} : ∀ (n : Nat) (f : Nat) (args : List AV) (r : AV), (SN G n).f f args = some r → (SN G (n + 1)).f f args = some r := by
  intro n
  induction n with
  | zero =>
    intro f args r h
    cases hf : G.fs f with
    | none => rw [SN_none hf] at h ⊢; exact h
    | some i => rw [SN_zero hf] at h; cases h
  | succ n ih =>
    intro f args r h
    cases hf : G.fs f with
    | none => rw [SN_none hf] at h ⊢; exact h
    | some i =>
      rw [SN_some hf] at h ⊢
      split at h
      · rename_i hc
        rw [if_pos hc]
        exact evF_sim Flt.one (Sn := fun _ => SN G (n + 1)) ⟨fun f args r h => ih f args r h, fun _ => by rw [SN_pl, SN_pl]⟩ (loopN_sim1 (Nat.le_succ n)) (fun _ _ _ _ _ => trivial) h
      · cases h

theorem SN_le {G : Pg} {f : Nat} {args : List AV} {r : AV} {n m : Nat} (h : (SN G n).f f args = some r) (hm : n ≤ m) : (SN G m).f f args = some r := by
  induction m with
  | zero => have : n = 0 := by omega
            subst this; exact h
  | succ m ih =>
    by_cases hn : n = m + 1
    · subst hn; exact h
    · exact SN_succ m f args r (ih (by omega))

noncomputable def Sl (G : Pg) : Fns := ⟨fun f args => limO (fun n => (SN G n).f f args), G.pl⟩

theorem Sl_of {G : Pg} {f : Nat} {args : List AV} {r : AV} (n : Nat) (h : (SN G n).f f args = some r) : (Sl G).f f args = some r := limO_iff.2 ⟨n, fun _ hm => SN_le h hm⟩

/-- What a function comes to, one text further. -/
theorem Sl_step {G : Pg} {f : Nat} {args : List AV} {r : AV} {i : IF} (hf : G.fs f = some i) (hc : G.pl f = 0 ∨ args.length = G.ar f) (h : evF (Sl G) loopLim i args = some r) : (Sl G).f f args = some r := by
  have hsim : FSim Flt.ev (Sl G) (SN G) := ⟨fun f args r h => limO_iff.1 h, fun n => SN_pl G n⟩
  obtain ⟨N, hN⟩ := evF_sim Flt.ev hsim loopLim_sim (fun n rk a lv xs => mono_loopN (SN G n) n rk a lv xs) h
  refine limO_iff.2 ⟨N + 1, fun n hn => ?_⟩
  cases n with
  | zero => omega
  | succ n =>
    rw [SN_some hf, if_pos hc]
    exact hN n (by omega)

theorem Sl_prim {G : Pg} {f : Nat} {args : List AV} {r : AV} (hf : G.fs f = none) (h : G.prim f args = some r) : (Sl G).f f args = some r := by
  refine Sl_of 0 ?_
  rw [SN_none hf]
  exact h

/-- A program's functions as they are turned. -/
structure PgOk (P : Program) (sig : Nat → Option Sg) (G : Pg) : Prop where
  mixed : P.follows .mixedOrders = true
  fs : ∀ f i, G.fs f = some i → ∃ hn, cF P sig hn f = some i
  ok : ∀ f sg, sig f = some sg → callOk P f = true
  pos : ∀ f sg, sig f = some sg → ∀ m ∈ sg.ps, mdPos m
  prim : ∀ f sg, G.fs f = none → sig f = some sg → (sg.own ≠ 1 → FOk0 P sg f (G.prim f)) ∧ (sg.own = 1 → FOk1 P sg f (G.prim f))
  v1 : ∀ f, G.pl f = 1 → ∃ sg, sig f = some sg ∧ sg.own ≠ 1 ∧ sg.rs = [.v] ∧ sg.ps = List.replicate (G.ar f) .v ∧ (G.fs f = none → ∀ args, G.prim f args = none)
  v2 : ∀ f, G.pl f = 2 → ∃ sg, sig f = some sg ∧ sg.own = 1 ∧ sg.rs = [.v] ∧ (∃ k, G.ar f = k + 1 ∧ sg.ps = List.replicate k .v) ∧ (G.fs f = none → ∀ args, G.prim f args = none)

theorem sN_ok {P : Program} {sig : Nat → Option Sg} {G : Pg} (h : PgOk P sig G) : ∀ n, FnsOk P sig (SN G n)
  | 0 => by
    have v : ∀ f, (G.fs f = none → ∀ args, G.prim f args = none) → ∀ avs r, (SN G 0).f f avs ≠ some r := by
      intro f hf avs r hr
      cases hi : G.fs f with
      | none => rw [SN_none hi, hf hi] at hr; cases hr
      | some i => rw [SN_zero hi] at hr; cases hr
    refine ⟨fun f sg r avs hs _ => h.ok f sg hs, h.pos, fun f sg hs ho => ?_, fun f sg hs ho => ?_, fun f hp => ?_, fun f hp => ?_⟩
    · cases hf : G.fs f with
      | none =>
        have := (h.prim f sg hf hs).1 ho
        have e : (SN G 0).f f = G.prim f := funext (SN_none hf _)
        rw [e]; exact this
      | some i => intro w gh avs vals r _ _ hr; exact absurd hr (v f (fun h => by rw [hf] at h; cases h) avs r)
    · cases hf : G.fs f with
      | none =>
        have := (h.prim f sg hf hs).2 ho
        rw [funext (SN_none hf _)]; exact this
      | some i => intro w gh h0 avs vals r _ _ _ hr; exact absurd hr (v f (fun h => by rw [hf] at h; cases h) _ r)
    · obtain ⟨sg, h1, h2, h3, h4, h5⟩ := h.v1 f hp
      exact ⟨sg, h1, h2, h3, fun avs r hr => absurd hr (v f h5 avs r)⟩
    · obtain ⟨sg, h1, h2, h3, h4, h5⟩ := h.v2 f hp
      exact ⟨sg, h1, h2, h3, fun h0 avs r hr => absurd hr (v f h5 _ r)⟩
  | n + 1 => by
    have ih := sN_ok h n
    have un : ∀ f i, G.fs f = some i → ∀ args r, (SN G (n + 1)).f f args = some r → (G.pl f = 0 ∨ args.length = G.ar f) ∧ evF (SN G n) (loopN n) i args = some r := by
      intro f i hf args r hr
      rw [SN_some hf] at hr
      split at hr
      · exact ⟨by assumption, hr⟩
      · cases hr
    refine ⟨fun f sg r avs hs _ => h.ok f sg hs, h.pos, fun f sg hs ho => ?_, fun f sg hs ho => ?_, fun f hp => ?_, fun f hp => ?_⟩
    · cases hf : G.fs f with
      | none =>
        have := (h.prim f sg hf hs).1 ho
        have e : (SN G (n + 1)).f f = G.prim f := funext (SN_none hf _)
        rw [e]; exact this
      | some i =>
        obtain ⟨hn, hi⟩ := h.fs f i hf
        intro w gh avs vals r hG ha hr
        exact cF_sound0 h.mixed ih (loopN_ok n) hi hs ho w gh avs vals r hG ha (un f i hf _ _ hr).2
    · cases hf : G.fs f with
      | none =>
        have := (h.prim f sg hf hs).2 ho
        rw [funext (SN_none hf _)]; exact this
      | some i =>
        obtain ⟨hn, hi⟩ := h.fs f i hf
        intro w gh h0 avs vals r hG ha hh hr
        exact cF_sound1 h.mixed ih (loopN_ok n) hi hs ho w gh h0 avs vals r hG ha hh (un f i hf _ _ hr).2
    · obtain ⟨sg, h1, h2, h3, h4, h5⟩ := h.v1 f hp
      refine ⟨sg, h1, h2, h3, fun avs r hr => ?_⟩
      cases hi : G.fs f with
      | none => rw [SN_none hi, h5 hi] at hr; cases hr
      | some i =>
      rcases (un f i hi _ _ hr).1 with h0 | h0
      · have hp : G.pl f = 1 := hp
        rw [hp] at h0; cases h0
      · rw [h4, h0]
    · obtain ⟨sg, h1, h2, h3, ⟨k, hk, h4⟩, h5⟩ := h.v2 f hp
      refine ⟨sg, h1, h2, h3, fun h0 avs r hr => ?_⟩
      cases hi : G.fs f with
      | none => rw [SN_none hi, h5 hi] at hr; cases hr
      | some i =>
      rcases (un f i hi _ _ hr).1 with q | q
      · have hp : G.pl f = 2 := hp
        rw [hp] at q; cases q
      · rw [h4]
        rw [hk] at q
        simp at q
        rw [q]

/-- What a function comes to is what a call of it gives. -/
theorem Sl_ok0 {P : Program} {sig : Nat → Option Sg} {G : Pg} (h : PgOk P sig G) {f : Nat} {sg : Sg} (hs : sig f = some sg) (ho : sg.own ≠ 1) : FOk0 P sg f ((Sl G).f f) := by
  intro w gh avs vals r hG ha hr
  obtain ⟨N, hN⟩ := limO_iff.1 hr
  exact (sN_ok h N).f0 f sg hs ho w gh avs vals r hG ha (hN N (Nat.le_refl N))

end Tr

namespace Tr
open Go

def mdPosB : Md → Bool
  | .own _ s => decide (0 < s)
  | _ => true

def isVM : Md → Bool
  | .v => true
  | _ => false

def memN : Nat → List Nat → Bool
  | _, [] => false
  | x, y :: r => if x = y then true else memN x r

/-- The ways of the functions that are listed. -/
def sigL (P : Program) (l : List Nat) (ov : List (Nat × Sg)) (f : Nat) : Option Sg := if memN f l then sigOf P ov f else none

def plOf (sig : Nat → Option Sg) (f : Nat) : Nat :=
  match sig f with
  | some sg => match sg.rs with
    | [.v] => if sg.ps.all isVM then (if sg.own = 1 then 2 else 1) else 0
    | _ => 0
  | none => 0

def arOf (sig : Nat → Option Sg) (f : Nat) : Nat :=
  match sig f with
  | some sg => if sg.own = 1 then sg.ps.length + 1 else sg.ps.length
  | none => 0

def hnOf : List (Nat × Hn) → Nat → Hn
  | [], _ => ⟨[], [], true⟩
  | (g, h) :: r, f => if f = g then h else hnOf r f

structure Tb where
  l : List Nat
  ov : List (Nat × Sg)
  hs : List (Nat × Hn)

def pgOf (P : Program) (t : Tb) : Pg :=
  { fs := fun f => cF P (sigL P t.l t.ov) (hnOf t.hs f) f
    prim := fun _ _ => none
    pl := plOf (sigL P t.l t.ov)
    ar := arOf (sigL P t.l t.ov) }

def chkF (P : Program) (t : Tb) (f : Nat) : Bool :=
  callOk P f && match sigOf P t.ov f with | some sg => sg.ps.all mdPosB | none => true

def pgChk (P : Program) (t : Tb) : Bool := t.l.all (chkF P t)

theorem memN_mem : ∀ {l : List Nat} {x : Nat}, memN x l = true → x ∈ l
  | [], _, h => by simp [memN] at h
  | y :: l, x, h => by
    simp only [memN] at h
    split at h
    · rename_i e; subst e; simp
    · exact List.mem_cons_of_mem _ (memN_mem h)

theorem sigL_some {P : Program} {l : List Nat} {ov : List (Nat × Sg)} {f : Nat} {sg : Sg} (h : sigL P l ov f = some sg) : f ∈ l ∧ sigOf P ov f = some sg := by
  unfold sigL at h
  split at h
  · exact ⟨memN_mem (by assumption), h⟩
  · cases h

theorem all_vM : ∀ {ms : List Md}, ms.all isVM = true → ms = List.replicate ms.length .v
  | [], _ => rfl
  | m :: ms, h => by
    have h' : isVM m = true ∧ ms.all isVM = true := by rw [← Bool.and_eq_true]; exact h
    have hm : m = .v := by have := h'.1; cases m <;> first | rfl | cases this
    rw [List.length_cons, List.replicate_succ, ← all_vM h'.2, hm]

theorem plOf_spec {sig : Nat → Option Sg} {f n : Nat} (h : plOf sig f = n) (hn : n = 1 ∨ n = 2) : ∃ sg, sig f = some sg ∧ sg.rs = [.v] ∧ sg.ps = List.replicate sg.ps.length .v ∧ (n = 1 → sg.own ≠ 1) ∧ (n = 2 → sg.own = 1) := by
  unfold plOf at h
  split at h
  · rename_i sg hs
    split at h
    · rename_i hrs
      split at h
      · rename_i hps
        refine ⟨sg, hs, hrs, all_vM hps, ?_, ?_⟩
        · intro h1; subst h1; split at h
          · omega
          · assumption
        · intro h2; subst h2; split at h
          · assumption
          · omega
      · omega
    · omega
  · omega

theorem pgOk {P : Program} {t : Tb} (hm : P.follows .mixedOrders = true) (h : pgChk P t = true) : PgOk P (sigL P t.l t.ov) (pgOf P t) := by
  have chk : ∀ f sg, sigL P t.l t.ov f = some sg → callOk P f = true ∧ sg.ps.all mdPosB = true := by
    intro f sg hs
    obtain ⟨h1, h2⟩ := sigL_some hs
    have h3 := List.all_eq_true.1 h f h1
    simp only [chkF, h2, Bool.and_eq_true] at h3
    exact h3
  refine ⟨hm, fun f i hf => ⟨_, hf⟩, fun f sg hs => (chk f sg hs).1, fun f sg hs m hm => ?_, fun f sg hf hs => ⟨fun _ => ?_, fun _ => ?_⟩, fun f hp => ?_, fun f hp => ?_⟩
  · have := List.all_eq_true.1 (chk f sg hs).2 m hm
    cases m <;> simp_all [mdPos, mdPosB]
  · intro w gh avs vals r _ _ hr; cases hr
  · intro w gh h0 avs vals r _ _ _ hr; cases hr
  · obtain ⟨sg, h1, h2, h3, h4, _⟩ := plOf_spec hp (.inl rfl)
    refine ⟨sg, h1, h4 rfl, h2, ?_, fun _ _ => rfl⟩
    show sg.ps = List.replicate (arOf _ f) .v
    unfold arOf
    rw [h1]
    simp only [if_neg (h4 rfl)]
    exact h3
  · obtain ⟨sg, h1, h2, h3, _, h4⟩ := plOf_spec hp (.inr rfl)
    refine ⟨sg, h1, h4 rfl, h2, ⟨sg.ps.length, ?_, h3⟩, fun _ _ => rfl⟩
    show arOf _ f = _
    unfold arOf
    rw [h1]
    simp only [if_pos (h4 rfl)]

/-- What a function comes to: by its text, turned. -/
theorem st {P : Program} {t : Tb} {f n : Nat} {args : List AV} {r : AV} (hn : arOf (sigL P t.l t.ov) f = n) (hl : args.length = n)
    (h : ((cF P (sigL P t.l t.ov) (hnOf t.hs f) f).bind fun i => evF (Sl (pgOf P t)) loopLim i args) = some r) : (Sl (pgOf P t)).f f args = some r := by
  simp only [Option.bind_eq_some_iff] at h
  obtain ⟨i, hi, h⟩ := h
  exact Sl_step (i := i) hi (.inr (by show args.length = arOf _ f; rw [hn, hl])) h

/-- Evaluation that is told by other functions, step by step. -/
def ShLe (P : Program) (t : Tb) (sh : Fns → LoopOp → Nat → List AV → Option AV) : Prop :=
  ∀ S L f args r, sh S L f args = some r → args.length = arOf (sigL P t.l t.ov) f ∧ ((cF P (sigL P t.l t.ov) (hnOf t.hs f) f).bind fun i => evF S L i args) = some r

def ShN (sh : Fns → LoopOp → Nat → List AV → Option AV) (pl : Nat → Nat) : Nat → Fns
  | 0 => ⟨fun _ _ => none, pl⟩
  | n + 1 => ⟨fun f args => sh (ShN sh pl n) (loopN n) f args, pl⟩

theorem shN_le {P : Program} {t : Tb} {sh : Fns → LoopOp → Nat → List AV → Option AV} (h : ShLe P t sh) : ∀ (n f : Nat) (args : List AV) (r : AV), (ShN sh (pgOf P t).pl n).f f args = some r → (SN (pgOf P t) n).f f args = some r
  | 0, f, args, r, hr => by cases hr
  | n + 1, f, args, r, hr => by
    have ih := shN_le h n
    obtain ⟨h1, h2⟩ := h _ _ _ _ _ hr
    simp only [Option.bind_eq_some_iff] at h2
    obtain ⟨i, hi, h2⟩ := h2
    have hf : (pgOf P t).fs f = some i := hi
    rw [SN_some hf, if_pos (.inr h1)]
    refine evF_sim Flt.one (Sn := fun _ => SN (pgOf P t) n) ⟨fun f args r h => ih f args r h, fun _ => ?_⟩ (loopN_sim1 (Nat.le_refl n)) (fun _ _ _ _ _ => trivial) h2
    rw [SN_pl]
    cases n <;> rfl

theorem sh_run {P : Program} {t : Tb} {sh : Fns → LoopOp → Nat → List AV → Option AV} (h : ShLe P t sh) (n : Nat) {f : Nat} {args : List AV} {r : AV} (hr : (ShN sh (pgOf P t).pl n).f f args = some r) : (Sl (pgOf P t)).f f args = some r :=
  Sl_of n (shN_le h n f args r hr)

abbrev ShF := Fns → LoopOp → List AV → Option AV

def shl : List (Nat × ShF) → Fns → LoopOp → Nat → List AV → Option AV
  | [], _, _, _, _ => none
  | (g, h) :: r, S, L, f, args => if f = g then h S L args else shl r S L f args

def LeF (P : Program) (t : Tb) (g : Nat) (h : ShF) : Prop :=
  ∀ S L args r, h S L args = some r → args.length = arOf (sigL P t.l t.ov) g ∧ ((cF P (sigL P t.l t.ov) (hnOf t.hs g) g).bind fun i => evF S L i args) = some r

theorem shl_nil {P : Program} {t : Tb} : ShLe P t (shl []) := fun _ _ _ _ _ h => by cases h
theorem shl_cons {P : Program} {t : Tb} {g : Nat} {h : ShF} {r : List (Nat × ShF)} (h1 : LeF P t g h) (h2 : ShLe P t (shl r)) : ShLe P t (shl ((g, h) :: r)) := fun S L f args v hv => by
  simp only [shl] at hv
  split at hv
  · rename_i e; subst e; exact h1 _ _ _ _ hv
  · exact h2 _ _ _ _ _ hv

def ap0 (g : Fns → LoopOp → Option AV) : ShF := fun S L args => match args with | [] => g S L | _ => none
def ap1 (g : Fns → LoopOp → AV → Option AV) : ShF := fun S L args => match args with | [a] => g S L a | _ => none
def ap2 (g : Fns → LoopOp → AV → AV → Option AV) : ShF := fun S L args => match args with | [a, b] => g S L a b | _ => none
def ap3 (g : Fns → LoopOp → AV → AV → AV → Option AV) : ShF := fun S L args => match args with | [a, b, c] => g S L a b c | _ => none
def ap4 (g : Fns → LoopOp → AV → AV → AV → AV → Option AV) : ShF := fun S L args => match args with | [a, b, c, d] => g S L a b c d | _ => none
def ap5 (g : Fns → LoopOp → AV → AV → AV → AV → AV → Option AV) : ShF := fun S L args => match args with | [a, b, c, d, e] => g S L a b c d e | _ => none
def ap6 (g : Fns → LoopOp → AV → AV → AV → AV → AV → AV → Option AV) : ShF := fun S L args => match args with | [a, b, c, d, e, f] => g S L a b c d e f | _ => none

section
variable {P : Program} {t : Tb} {f : Nat}
theorem le0 {g : Fns → LoopOp → Option AV} (h : ∀ S L, ((cF P (sigL P t.l t.ov) (hnOf t.hs f) f).bind fun i => evF S L i []) = g S L) (ha : arOf (sigL P t.l t.ov) f = 0) : LeF P t f (ap0 g) := fun S L args r hr => by
  unfold ap0 at hr; split at hr
  · exact ⟨ha.symm, (h _ _).trans hr⟩
  · cases hr
theorem le1 {g : Fns → LoopOp → AV → Option AV} (h : ∀ S L a, ((cF P (sigL P t.l t.ov) (hnOf t.hs f) f).bind fun i => evF S L i [a]) = g S L a) (ha : arOf (sigL P t.l t.ov) f = 1) : LeF P t f (ap1 g) := fun S L args r hr => by
  unfold ap1 at hr; split at hr
  · exact ⟨ha.symm, (h _ _ _).trans hr⟩
  · cases hr
theorem le2 {g : Fns → LoopOp → AV → AV → Option AV} (h : ∀ S L a b, ((cF P (sigL P t.l t.ov) (hnOf t.hs f) f).bind fun i => evF S L i [a, b]) = g S L a b) (ha : arOf (sigL P t.l t.ov) f = 2) : LeF P t f (ap2 g) := fun S L args r hr => by
  unfold ap2 at hr; split at hr
  · exact ⟨ha.symm, (h _ _ _ _).trans hr⟩
  · cases hr
theorem le3 {g : Fns → LoopOp → AV → AV → AV → Option AV} (h : ∀ S L a b c, ((cF P (sigL P t.l t.ov) (hnOf t.hs f) f).bind fun i => evF S L i [a, b, c]) = g S L a b c) (ha : arOf (sigL P t.l t.ov) f = 3) : LeF P t f (ap3 g) := fun S L args r hr => by
  unfold ap3 at hr; split at hr
  · exact ⟨ha.symm, (h _ _ _ _ _).trans hr⟩
  · cases hr
theorem le4 {g : Fns → LoopOp → AV → AV → AV → AV → Option AV} (h : ∀ S L a b c d, ((cF P (sigL P t.l t.ov) (hnOf t.hs f) f).bind fun i => evF S L i [a, b, c, d]) = g S L a b c d) (ha : arOf (sigL P t.l t.ov) f = 4) : LeF P t f (ap4 g) := fun S L args r hr => by
  unfold ap4 at hr; split at hr
  · exact ⟨ha.symm, (h _ _ _ _ _ _).trans hr⟩
  · cases hr
theorem le5 {g : Fns → LoopOp → AV → AV → AV → AV → AV → Option AV} (h : ∀ S L a b c d e, ((cF P (sigL P t.l t.ov) (hnOf t.hs f) f).bind fun i => evF S L i [a, b, c, d, e]) = g S L a b c d e) (ha : arOf (sigL P t.l t.ov) f = 5) : LeF P t f (ap5 g) := fun S L args r hr => by
  unfold ap5 at hr; split at hr
  · exact ⟨ha.symm, (h _ _ _ _ _ _ _).trans hr⟩
  · cases hr
theorem le6 {g : Fns → LoopOp → AV → AV → AV → AV → AV → AV → Option AV} (h : ∀ S L a b c d e y, ((cF P (sigL P t.l t.ov) (hnOf t.hs f) f).bind fun i => evF S L i [a, b, c, d, e, y]) = g S L a b c d e y) (ha : arOf (sigL P t.l t.ov) f = 6) : LeF P t f (ap6 g) := fun S L args r hr => by
  unfold ap6 at hr; split at hr
  · exact ⟨ha.symm, (h _ _ _ _ _ _ _ _).trans hr⟩
  · cases hr
end

/-- What a function comes to, by what is told of it. -/
theorem st1 {P : Program} {t : Tb} {f : Nat} {h : ShF} {args : List AV} {r : AV} (hf : LeF P t f h) (hr : h (Sl (pgOf P t)) loopLim args = some r) : (Sl (pgOf P t)).f f args = some r :=
  st (n := args.length) (hf _ _ _ _ hr).1.symm rfl (hf _ _ _ _ hr).2

end Tr

namespace Tr
open Go

/-- Whole numbers, as a slice's elements. -/
def ints (k : IntKind) (l : List Int) : List AV := l.map (.int k)

/-- A slice, nil or not, with its elements. -/
def IsSl (x : AV) (xs : List AV) : Prop := (x = .sl xs ∨ (x = .nil ∧ xs = [])) ∧ xs.length ≤ 140737488355328

theorem isSl_sl {xs : List AV} (h : xs.length ≤ 140737488355328) : IsSl (.sl xs) xs := ⟨.inl rfl, h⟩
theorem isSl_nil : IsSl .nil [] := ⟨.inr ⟨rfl, rfl⟩, by simp⟩

theorem IsSl.els {x : AV} {xs : List AV} (h : IsSl x xs) : A.els x = some xs := by
  rcases h.1 with rfl | ⟨rfl, rfl⟩ <;> rfl
theorem IsSl.len {x : AV} {xs : List AV} (h : IsSl x xs) : A.len false x = some (i64 xs.length) := by
  rcases h.1 with rfl | ⟨rfl, rfl⟩ <;> rfl
theorem IsSl.cs {x : AV} {xs : List AV} (h : IsSl x xs) : A.cs false x = some [x] := by
  rcases h.1 with rfl | ⟨rfl, rfl⟩ <;> rfl
theorem IsSl.one {x : AV} {xs : List AV} (h : IsSl x xs) : A.one x = some x := by
  rcases h.1 with rfl | ⟨rfl, rfl⟩ <;> rfl
theorem IsSl.nc {x : AV} {xs : List AV} (h : IsSl x xs) : x.nc = 1 := by
  rcases h.1 with rfl | ⟨rfl, rfl⟩ <;> rfl

theorem IsSl.at {x : AV} {xs : List AV} (h : IsSl x xs) {i : Nat} {k : IntKind} {a : AV} (ha : xs[i]? = some a) : A.at_ xs (.int k (i : Int)) = some a := by
  simp [A.at_, ha]
theorem IsSl.elp {x : AV} {xs : List AV} (h : IsSl x xs) {i sz : Nat} {k : IntKind} {a : AV} (ha : xs[i]? = some a) (hs : a.nc = sz) : A.elp sz x (.int k (i : Int)) = some (.ip a.cells) := by
  unfold A.elp
  rw [h.els, Option.bind_some, h.at ha]
  simp [hs]

theorem elp_int {x : AV} {l : List Int} {k k' : IntKind} (h : IsSl x (ints k l)) {i : Nat} (hi : i < l.length) : A.elp 1 x (.int k' (i : Int)) = some (.ip [.int k l[i]]) :=
  h.elp (a := .int k l[i]) (by simp [ints, hi]) rfl

theorem wrap_i64 {n : Int} (h1 : -9223372036854775808 ≤ n) (h2 : n ≤ 9223372036854775807) : IntKind.i64.wrap n = n := by
  simp only [IntKind.wrap, IntKind.signed, IntKind.bits]
  simp
  omega

theorem add_i64 {a b : Int} (h1 : -9223372036854775808 ≤ a + b) (h2 : a + b ≤ 9223372036854775807) : A.bin .add (.int .i64 a) (.int .i64 b) = some (.int .i64 (a + b)) := by
  simp [A.bin, A.ibin, wrap_i64 h1 h2]
theorem sub_i64 {a b : Int} (h1 : -9223372036854775808 ≤ a - b) (h2 : a - b ≤ 9223372036854775807) : A.bin .sub (.int .i64 a) (.int .i64 b) = some (.int .i64 (a - b)) := by
  simp [A.bin, A.ibin, wrap_i64 h1 h2]

@[simp] theorem bin_lss (k : IntKind) (a b : Int) : A.bin .lss (.int k a) (.int k b) = some (.bool (decide (a < b))) := by simp [A.bin, A.ibin]
@[simp] theorem bin_leq (k : IntKind) (a b : Int) : A.bin .leq (.int k a) (.int k b) = some (.bool (decide (a ≤ b))) := by simp [A.bin, A.ibin]
@[simp] theorem bin_gtr (k : IntKind) (a b : Int) : A.bin .gtr (.int k a) (.int k b) = some (.bool (decide (b < a))) := by simp [A.bin, A.ibin]
@[simp] theorem bin_geq (k : IntKind) (a b : Int) : A.bin .geq (.int k a) (.int k b) = some (.bool (decide (b ≤ a))) := by simp [A.bin, A.ibin]
@[simp] theorem bin_eql (k : IntKind) (a b : Int) : A.bin .eql (.int k a) (.int k b) = some (.bool (a == b)) := by simp [A.bin, A.ibin]
@[simp] theorem bin_neq (k : IntKind) (a b : Int) : A.bin .neq (.int k a) (.int k b) = some (.bool (a != b)) := by simp [A.bin, A.ibin]
@[simp] theorem str_eql (a b : List UInt8) : A.bin .eql (.str a) (.str b) = some (.bool (a == b)) := rfl
@[simp] theorem str_neq (a b : List UInt8) : A.bin .neq (.str a) (.str b) = some (.bool (a != b)) := rfl
@[simp] theorem asB_bool (b : Bool) : A.asB (.bool b) = some b := rfl
@[simp] theorem isB_bool (w c : Bool) : A.isB w (.bool c) = some (c == w) := rfl
@[simp] theorem isB_undef (w : Bool) : A.isB w .undef = some false := rfl
@[simp] theorem pick_bool (c : Bool) (a b : AV) : A.pick (.bool c) a b = some (if c then a else b) := rfl
@[simp] theorem un_not (b : Bool) : A.un .not (.bool b) = some (.bool (!b)) := rfl
@[simp] theorem ld_one (h a : AV) (r : List AV) : A.ld h false 1 (.ip (a :: r)) = some a := rfl
@[simp] theorem eq_bool (ne : Bool) (ks : List Nat) (a b : Bool) : A.eq ne 1 ks (.bool a) (.bool b) = some (.bool (if ne then !(a == b) else a == b)) := rfl
@[simp] theorem csn_agg {n : Nat} {c : List AV} (h : c.length = n) : A.csn true n (.agg c) = some c := by simp [A.csn, A.cs, h]
@[simp] theorem cs_agg (c : List AV) : A.cs true (.agg c) = some c := rfl
@[simp] theorem ext_tup (i : Nat) (vs : List AV) : A.ext i (.tup vs) = vs[i]? := rfl
@[simp] theorem one_int (k : IntKind) (n : Int) : A.one (.int k n) = some (.int k n) := rfl
@[simp] theorem one_bool (b : Bool) : A.one (.bool b) = some (.bool b) := rfl
@[simp] theorem one_str (s : List UInt8) : A.one (.str s) = some (.str s) := rfl

/-- A loop's body, one round further. -/
theorem iterL_succ (F : (List (List AV) → Option AV) → List (List AV) → Option AV) (n : Nat) (vs : List (List AV)) : iterL F (n + 1) vs = F (iterL F n) vs := rfl

theorem cond_isB (c : Bool) (k : Bool → Option AV) : (A.isB true (.bool c)).bind k = k c := by cases c <;> rfl

theorem elp_get {x : AV} {l : List Int} {k k' : IntKind} (h : IsSl x (ints k l)) {i : Nat} (hi : i < l.length) : A.elp 1 x (.int k' (i : Int)) = some (.ip [.int k (l.getD i 0)]) := by
  rw [elp_int h hi]
  simp [hi]

theorem len_ints {k : IntKind} {l : List Int} : (ints k l).length = l.length := by simp [ints]

theorem sub_one {k : Nat} (h : 0 < k) (hb : k ≤ 140737488355328) : A.bin .sub (.int .i64 (k : Int)) (.int .i64 1) = some (.int .i64 ((k - 1 : Nat) : Int)) := by
  rw [sub_i64 (by omega) (by omega)]
  congr 2
  omega
theorem add_one {k : Nat} (hb : k ≤ 140737488355328) : A.bin .add (.int .i64 (k : Int)) (.int .i64 1) = some (.int .i64 ((k + 1 : Nat) : Int)) := by
  rw [add_i64 (by omega) (by omega)]
  congr 2

end Tr

namespace Tr
open Go

theorem calls_law {P : Program} {t : Tb} {f : Nat} {sg : Sg} (h : PgOk P (sigL P t.l t.ov) (pgOf P t)) (hs : sigL P t.l t.ov f = some sg) (ho : sg.own ≠ 1) (hps : sg.ps = List.replicate sg.ps.length .v) (hrs : sg.rs = [.v])
    {W : World} {avs : List AV} {vals : List Value} (hr : RepL W (fun b => b < W.heap.size) [] avs vals) (hl : avs.length = sg.ps.length) (hf : (Sl (pgOf P t)).f f avs = some (.bool true)) :
    Calls P f vals.toArray W fun e W' => e = .returned (.bool true) ∧ Go.RowKit.Below W.heap.size W W' := by
  let gh : Gh := ⟨fun _ => none, fun b => b < W.heap.size, []⟩
  have hG : GhOk W gh := ⟨fun b k h => (by cases h), fun b h => ⟨rfl, h⟩⟩
  have ha : ArgsOk W gh 0 sg.ps avs vals := by
    rw [hps, ← hl]
    exact argsOk_v 0 hr
  refine Calls.mono (Sl_ok0 h hs ho W gh avs vals _ hG ha hf) (fun en W' ⟨v, gh', q1, q2, _, q4⟩ => ?_)
  rw [hrs] at q4
  have q4 : Rep W' gh'.im gh'.et (.bool true) v := q4
  cases q4
  exact ⟨q1, q2.st.1, q2.st.2.1, q2.st.2.2, q2.size, fun k hk => q2.keep k hk (fun ⟨i, j, h⟩ => by cases h)⟩

end Tr

namespace Tr
open Go

/-- Fields that lie one behind the other. -/
def tiles (P : Program) (L : List TypeId) : Nat → List Field → Option Nat
  | n, [] => some n
  | n, f :: r => if f.offset = n ∧ L.contains f.type then tiles P L (n + P.cellsOf f.type) r else none

/-- A type that is made of truths, numbers, texts, slices and structs. -/
def okTy (P : Program) (L : List TypeId) (t : TypeId) : Bool :=
  match P.underlying t with
  | some .bool => P.cellsOf t == 1
  | some (.int _) => P.cellsOf t == 1
  | some .string => P.cellsOf t == 1
  | some (.slice e) => P.cellsOf t == 1 && P.cellsOf e != 0 && L.contains e
  | some (.struct fs) => tiles P L 0 fs.toList == some (P.cellsOf t)
  | _ => false

def okTys (P : Program) (L : List TypeId) : Bool := L.all (okTy P L)

def isSt (P : Program) (t : TypeId) : Bool := match P.underlying t with | some (.struct _) => true | _ => false

/-- A whole value, of its cells. -/
def whole (st : Bool) (c : List AV) : AV := if st then .agg c else c.headD .junk

/-- The cells that a type's values have. -/
def Ty (P : Program) : Nat → TypeId → List AV → Prop
  | 0, _, _ => False
  | n + 1, t, c =>
    match P.underlying t with
    | some .bool => ∃ b, c = [.bool b]
    | some (.int k) => ∃ i, c = [.int k i] ∧ (Lit.int k i).wf = true
    | some .string => ∃ s, c = [.str s] ∧ s.length ≤ maxLen
    | some (.slice e) => ∃ x es, c = [x] ∧ ((x = .sl (es.map (whole (isSt P e))) ∧ es.length ≤ maxLen) ∨ (x = .nil ∧ es = [])) ∧ ∀ y ∈ es, Ty P n e y
    | some (.struct fs) => c.length = P.cellsOf t ∧ ∀ f ∈ fs.toList, Ty P n f.type ((c.drop f.offset).take (P.cellsOf f.type))
    | _ => False

theorem Ty.mono {P : Program} : ∀ {n m : Nat} {t : TypeId} {c : List AV}, n ≤ m → Ty P n t c → Ty P m t c
  | 0, _, _, _, _, h => h.elim
  | n + 1, 0, _, _, hm, _ => by omega
  | n + 1, m + 1, t, c, hm, h => by
    unfold Ty at h ⊢
    split
    · rename_i hu; rw [hu] at h; exact h
    · rename_i hu; rw [hu] at h; exact h
    · rename_i hu; rw [hu] at h; exact h
    · rename_i e hu
      rw [hu] at h
      obtain ⟨x, es, h1, h2, h3⟩ := h
      exact ⟨x, es, h1, h2, fun y hy => Ty.mono (by omega) (h3 y hy)⟩
    · rename_i fs hu
      rw [hu] at h
      exact ⟨h.1, fun f hf => Ty.mono (by omega) (h.2 f hf)⟩
    · rename_i h1 h2 h3 h4 h5
      split at h
      · rename_i hu; exact absurd hu h1
      · rename_i hu; exact absurd hu (h2 _)
      · rename_i hu; exact absurd hu h3
      · rename_i hu; exact absurd hu (h4 _)
      · rename_i hu; exact absurd hu (h5 _)
      · exact h

/-- A lone cell is no struct. -/
theorem Ty.single {P : Program} {n : Nat} {t : TypeId} {c : List AV} (h : Ty P n t c) (hs : isSt P t = false) : ∃ x, c = [x] ∧ x.cells = [x] := by
  cases n with
  | zero => exact h.elim
  | succ n =>
    unfold Ty at h
    unfold isSt at hs
    split at h
    · obtain ⟨b, rfl⟩ := h; exact ⟨_, rfl, rfl⟩
    · obtain ⟨i, rfl, _⟩ := h; exact ⟨_, rfl, rfl⟩
    · obtain ⟨s, rfl, _⟩ := h; exact ⟨_, rfl, rfl⟩
    · obtain ⟨x, es, rfl, h2, _⟩ := h
      rcases h2 with ⟨rfl, _⟩ | ⟨rfl, _⟩ <;> exact ⟨_, rfl, rfl⟩
    · rename_i hu; rw [hu] at hs; cases hs
    · exact h.elim

theorem whole_cells {P : Program} {n : Nat} {t : TypeId} {c : List AV} (h : Ty P n t c) : (whole (isSt P t) c).cells = c := by
  cases hs : isSt P t with
  | true => rfl
  | false =>
    obtain ⟨x, rfl, hx⟩ := h.single hs
    exact hx

theorem repL_split {w : World} {im : Nat → Prop} {et : List Nat} : ∀ {xs : List AV} {us vs : List Value}, RepL w im et xs (us ++ vs) → ∃ a b, xs = a ++ b ∧ RepL w im et a us ∧ RepL w im et b vs
  | xs, [], vs, h => ⟨[], xs, rfl, .nil, h⟩
  | _, u :: us, vs, h => by
    cases h with
    | cons x xs _ _ h hs =>
      obtain ⟨a, b, rfl, h1, h2⟩ := repL_split hs
      exact ⟨x :: a, b, rfl, .cons _ _ _ _ h h1, h2⟩

section
variable {H : Type} {enc : TypeId × Value → H} {P : Program} {W : World} {L : List TypeId}

theorem okTys_at (h : okTys P L = true) {t : TypeId} (ht : L.contains t = true) : okTy P L t = true := by
  unfold okTys at h
  rw [List.all_eq_true] at h
  exact h t (by simpa using ht)

/-- Fields, one behind the other. -/
theorem fields_rep {n : Nat} (ih : ∀ (t : TypeId) (cs : List Value) (x : DataW H × List MemPlace), L.contains t = true → DataW.trod enc P W 0 (fun _ => true) true n t cs = some x →
      ∃ avs, RepL W (fun b => b < W.heap.size) [] avs cs ∧ (∀ u ∈ cs, u.oneCell' = true) ∧ cs.length = P.cellsOf t ∧ Ty P n t avs) (cs : List Value) :
    ∀ (fs : List Field) (k m : Nat) (avs : List AV), tiles P L k fs = some m → cs.length = m → k ≤ m →
      (∀ f ∈ fs, ∃ y, DataW.trod enc P W 0 (fun _ => true) true n f.type ((cs.drop f.offset).take (P.cellsOf f.type)) = some y) →
      RepL W (fun b => b < W.heap.size) [] avs (cs.take k) →
      ∃ bvs, RepL W (fun b => b < W.heap.size) [] (avs ++ bvs) cs ∧ (∀ u ∈ cs.drop k, u.oneCell' = true) ∧ ∀ f ∈ fs, Ty P n f.type (((avs ++ bvs).drop f.offset).take (P.cellsOf f.type)) ∧ k ≤ f.offset
  | [], k, m, avs, ht, hl, hk, hx, ha => by
    simp only [tiles, Option.some.injEq] at ht
    subst ht
    have : cs.take k = cs := List.take_of_length_le (by omega)
    rw [this] at ha
    refine ⟨[], by simpa using ha, fun u hu => ?_, by simp⟩
    rw [List.drop_of_length_le (by omega)] at hu
    cases hu
  | f :: fs, k, m, avs, ht, hl, hk, hx, ha => by
    simp only [tiles, Option.ite_none_right_eq_some] at ht
    obtain ⟨⟨ho, hc⟩, ht⟩ := ht
    obtain ⟨y, hy⟩ := hx f (by simp)
    obtain ⟨fv, f1, f2, f3, f4⟩ := ih f.type _ y hc hy
    have hkm : k + P.cellsOf f.type ≤ cs.length := by
      simp only [List.length_take, List.length_drop, ho] at f3
      by_cases h0 : P.cellsOf f.type = 0
      · omega
      · omega
    have hak : avs.length = k := by
      rw [← ha.len]
      simp
      omega
    have happ : RepL W (fun b => b < W.heap.size) [] (avs ++ fv) (cs.take (k + P.cellsOf f.type)) := by
      rw [List.take_add]
      rw [ho] at f1
      exact ha.app f1
    obtain ⟨bvs, b1, b2, b3⟩ := fields_rep ih cs fs (k + P.cellsOf f.type) m (avs ++ fv) ht hl (by omega) (fun g hg => hx g (by simp [hg])) happ
    have hfl : fv.length = P.cellsOf f.type := by rw [← f1.len, f3]
    refine ⟨fv ++ bvs, by simpa [List.append_assoc] using b1, fun u hu => ?_, fun g hg => ?_⟩
    · rw [← List.take_append_drop (P.cellsOf f.type) (cs.drop k), List.drop_drop] at hu
      rcases List.mem_append.1 hu with hu | hu
      · exact f2 u (by rw [ho]; exact hu)
      · exact b2 u hu
    · rcases List.mem_cons.1 hg with rfl | hg
      · refine ⟨?_, by omega⟩
        have e1 : ((avs ++ (fv ++ bvs)).drop g.offset).take (P.cellsOf g.type) = fv := by
          rw [ho, ← hak, List.drop_left, ← hfl, List.take_left]
        rw [e1]
        exact f4
      · obtain ⟨c1, c2⟩ := b3 g hg
        exact ⟨by simpa [List.append_assoc] using c1, by omega⟩

theorem mapM_get {α β : Type} {f : α → Option β} : ∀ {l : List α} {r : List β}, l.mapM f = some r → r.length = l.length ∧ ∀ (i : Nat) (x : α), l[i]? = some x → f x = r[i]?
  | [], r, h => by simp at h; subst h; simp
  | x :: l, r, h => by
    rw [List.mapM_cons] at h
    simp only [Option.bind_eq_bind, Option.pure_def, Option.bind_eq_some_iff, Option.some.injEq] at h
    obtain ⟨y, hy, ys, hys, rfl⟩ := h
    obtain ⟨h1, h2⟩ := mapM_get hys
    refine ⟨by simp [h1], fun i z hz => ?_⟩
    cases i with
    | zero => simp at hz; subst hz; simpa using hy
    | succ i => simpa using h2 i z (by simpa using hz)

theorem cells_get {a : Addr} {n : Nat} {us : List Value} (h : W.cells? 0 a n = some us) : us.length = n ∧ ∀ (j : Nat) (u : Value), us[j]? = some u → W.cell? (a.add j) = some u := by
  unfold World.cells? at h
  rw [if_pos (Nat.zero_le _)] at h
  obtain ⟨h1, h2⟩ := mapM_get h
  refine ⟨by simpa using h1, fun j u hu => ?_⟩
  have hj : j < n := by have := (List.getElem?_eq_some_iff.1 hu).1; simp at h1; omega
  rw [h2 j j (by simp [hj]), hu]

theorem cell_block {a : Addr} {u : Value} (h : W.cell? a = some u) : a.block < W.heap.size := by
  unfold World.cell? at h
  cases hb : W.heap[a.block]? with
  | none => rw [hb] at h; simp at h
  | some o => exact (Array.getElem?_eq_some_iff.1 hb).1

theorem trod_rep (hL : okTys P L = true) : ∀ (n : Nat) (t : TypeId) (cs : List Value) (x : DataW H × List MemPlace), L.contains t = true → DataW.trod enc P W 0 (fun _ => true) true n t cs = some x →
    ∃ avs, RepL W (fun b => b < W.heap.size) [] avs cs ∧ (∀ u ∈ cs, u.oneCell' = true) ∧ cs.length = P.cellsOf t ∧ Ty P n t avs
  | 0, t, cs, x, _, h => by cases h
  | n + 1, t, cs, x, ht, h => by
    have hok := okTys_at hL ht
    have ih := trod_rep hL n
    unfold okTy at hok
    split at hok
    · rename_i hu
      have hc : P.cellsOf t = 1 := by simpa using hok
      obtain ⟨b, rfl, _⟩ := DataW.trod_bool hu h
      refine ⟨[.bool b], .cons _ _ _ _ (.bool b) .nil, by simp [Value.oneCell'], by simp [hc], ?_⟩
      unfold Ty; rw [hu]; exact ⟨b, rfl⟩
    · rename_i k hu
      have hc : P.cellsOf t = 1 := by simpa using hok
      obtain ⟨i, rfl, _, hw⟩ := DataW.trod_int hu h
      refine ⟨[.int k i], .cons _ _ _ _ (.int k i) .nil, by simp [Value.oneCell'], by simp [hc], ?_⟩
      unfold Ty; rw [hu]; exact ⟨i, rfl, hw⟩
    · rename_i hu
      have hc : P.cellsOf t = 1 := by simpa using hok
      obtain ⟨s, rfl, _, hw⟩ := DataW.trod_string hu h
      refine ⟨[.str s.data.toList], .cons _ _ _ _ ?_ .nil, by simp [Value.oneCell'], by simp [hc], ?_⟩
      · have : s = ⟨s.data.toList.toArray⟩ := by simp
        conv => rhs; rw [this]
        exact .str _
      · unfold Ty; rw [hu]; exact ⟨_, rfl, by simpa using hw⟩
    · rename_i e hu
      simp only [Bool.and_eq_true, beq_iff_eq, bne_iff_ne, ne_eq] at hok
      obtain ⟨⟨hc, hz⟩, hce⟩ := hok
      rcases DataW.trod_slice hu h with ⟨rfl, _⟩ | ⟨a, len, cap, elems, rest, m, hm, rfl, _, _, hlc, hcm, hel, hget, _, _⟩
      · refine ⟨[.nil], .cons _ _ _ _ .nil .nil, by simp [Value.oneCell'], by simp [hc], ?_⟩
        unfold Ty; rw [hu]
        exact ⟨.nil, [], rfl, .inr ⟨rfl, rfl⟩, by simp⟩
      · have hnm : n = m := by omega
        subst hnm
        have build : ∀ q, q ≤ len → ∃ (es : List (List AV)) (vs : List Value), es.length = q ∧ RepE W (fun b => b < W.heap.size) [] (P.cellsOf e) (es.map (whole (isSt P e))) vs ∧ vs.length = q * P.cellsOf e ∧
            (∀ j u, vs[j]? = some u → W.cell? (a.add j) = some u) ∧ ∀ y ∈ es, Ty P n e y := by
          intro q
          induction q with
          | zero => intro _; exact ⟨[], [], rfl, .nil _, by simp, by simp, by simp⟩
          | succ q ihq =>
            intro hq
            obtain ⟨es, vs, e1, e2, e3, e4, e5⟩ := ihq (by omega)
            have hg := hget q (by omega)
            have hsome : ∃ y, elems[q]? = some y := ⟨_, List.getElem?_eq_getElem (by omega)⟩
            obtain ⟨y, hy⟩ := hsome
            rw [hy] at hg
            simp only [Option.bind_eq_some_iff] at hg
            obtain ⟨us, hus, htr⟩ := hg
            obtain ⟨u1, u2⟩ := cells_get hus
            obtain ⟨av, a1, a2, a3, a4⟩ := ih e us y hce htr
            refine ⟨es ++ [av], vs ++ us, by simp [e1], ?_, by simp [e3, u1, Nat.add_mul], fun j u hju => ?_, fun z hz' => ?_⟩
            · rw [List.map_append]
              refine e2.app ?_
              have := RepE.cons (w := W) (im := fun b => b < W.heap.size) (et := []) (P.cellsOf e) (whole (isSt P e) av) [] us [] (by rw [whole_cells a4]; exact a1) u1 a2 (.nil _)
              simpa using this
            · by_cases hj : j < vs.length
              · rw [List.getElem?_append_left hj] at hju
                exact e4 j u hju
              · rw [List.getElem?_append_right (by omega)] at hju
                have := u2 _ u hju
                rw [add_add] at this
                rw [← this]
                congr 2
                omega
            · rcases List.mem_append.1 hz' with hz' | hz'
              · exact e5 z hz'
              · simp at hz'; subst hz'; exact a4
        obtain ⟨es, vs, e1, e2, e3, e4, e5⟩ := build len (Nat.le_refl _)
        refine ⟨[.sl (es.map (whole (isSt P e)))], .cons _ _ _ _ ?_ .nil, by simp [Value.oneCell'], by simp [hc], ?_⟩
        · have hl2 : (es.map (whole (isSt P e))).length = len := by simp [e1]
          have := Rep.sl (w := W) (im := fun b => b < W.heap.size) (et := []) (es.map (whole (isSt P e))) a cap (P.cellsOf e) vs e2 (by omega) (fun hne => ?_) e4
          · rw [hl2] at this; exact this
          · have hlen : 0 < len := by
              rcases Nat.eq_zero_or_pos len with h0 | h0
              · exfalso; apply hne; apply List.eq_nil_of_length_eq_zero; omega
              · exact h0
            have hv : 0 < vs.length := by rw [e3]; exact Nat.mul_pos hlen (by omega)
            have := cell_block (e4 0 vs[0] (by simp))
            rw [Addr.add_block] at this
            exact this
        · unfold Ty; rw [hu]
          exact ⟨_, es, rfl, .inl ⟨rfl, by omega⟩, e5⟩
    · rename_i fs hu
      have htl : tiles P L 0 fs.toList = some (P.cellsOf t) := by simpa using hok
      obtain ⟨xs, m, hm, _, hl, hxl, hf⟩ := DataW.trod_struct hu h
      have hnm : n = m := by omega
      subst hnm
      obtain ⟨bvs, b1, b2, b3⟩ := fields_rep ih cs fs.toList 0 (P.cellsOf t) [] htl hl (Nat.zero_le _) (fun f hfm => by
        obtain ⟨i, hi⟩ := List.mem_iff_getElem?.1 hfm
        have hi' : fs[i]? = some f := by simpa using hi
        have hlt := (Array.getElem?_eq_some_iff.1 hi').1
        exact ⟨xs[i]'(by omega), by rw [hf i f hi']; simp⟩) (by simpa using RepL.nil)
      simp only [List.nil_append] at b1 b3
      refine ⟨bvs, b1, by simpa using b2, hl, ?_⟩
      unfold Ty; rw [hu]
      exact ⟨by rw [← b1.len, hl], fun f hfm => (b3 f hfm).1⟩
    · cases hok

end
end Tr

namespace Tr
open Go Go.ChangeShapes Go.WideShapes Go.ChangeAt Go.RowKit

/-- A value of a type. -/
def TyV (P : Program) (n : Nat) (t : TypeId) (x : AV) : Prop := ∃ c, Ty P n t c ∧ x = whole (isSt P t) c

theorem Ty.bool {P : Program} {n : Nat} {t : TypeId} {c : List AV} (hu : P.underlying t = some .bool) (h : Ty P n t c) : ∃ b, c = [.bool b] := by
  cases n with
  | zero => exact h.elim
  | succ n => unfold Ty at h; rw [hu] at h; exact h
theorem Ty.int {P : Program} {n : Nat} {t : TypeId} {k : IntKind} {c : List AV} (hu : P.underlying t = some (.int k)) (h : Ty P n t c) : ∃ i, c = [.int k i] ∧ (Lit.int k i).wf = true := by
  cases n with
  | zero => exact h.elim
  | succ n => unfold Ty at h; rw [hu] at h; exact h
theorem Ty.str {P : Program} {n : Nat} {t : TypeId} {c : List AV} (hu : P.underlying t = some .string) (h : Ty P n t c) : ∃ s, c = [.str s] ∧ s.length ≤ maxLen := by
  cases n with
  | zero => exact h.elim
  | succ n => unfold Ty at h; rw [hu] at h; exact h
theorem Ty.slice {P : Program} {n : Nat} {t e : TypeId} {c : List AV} (hu : P.underlying t = some (.slice e)) (h : Ty P n t c) :
    ∃ x es, c = [x] ∧ ((x = .sl (es.map (whole (isSt P e))) ∧ es.length ≤ maxLen) ∨ (x = .nil ∧ es = [])) ∧ ∀ y ∈ es, Ty P (n - 1) e y := by
  cases n with
  | zero => exact h.elim
  | succ n => unfold Ty at h; rw [hu] at h; exact h
theorem Ty.struct {P : Program} {n : Nat} {t : TypeId} {fs : Array Field} {c : List AV} (hu : P.underlying t = some (.struct fs)) (h : Ty P n t c) :
    c.length = P.cellsOf t ∧ ∀ f ∈ fs.toList, Ty P (n - 1) f.type ((c.drop f.offset).take (P.cellsOf f.type)) := by
  cases n with
  | zero => exact h.elim
  | succ n => unfold Ty at h; rw [hu] at h; exact h

theorem isSt_of {P : Program} {t : TypeId} {d : TypeDesc} (hu : P.underlying t = some d) : isSt P t = (match d with | .struct _ => true | _ => false) := by
  cases d <;> simp [isSt, hu]

section
variable {H : Type} {enc : TypeId × Value → H} {P : Program} {W W' : World} {L : List TypeId}

theorem arg_rep (hL : okTys P L = true) {t : TypeId} (ht : L.contains t = true) {r : Reach} {base : Nat} {v : Value} {d : DataW H} {ps : List MemPlace} (hv : Value.okWide P W r base t v)
    (h : DataW.Trod enc P W 0 (fun _ => true) true t v d ps) : ∃ n x, Rep W (fun b => b < W.heap.size) [] x v ∧ TyV P n t x := by
  obtain ⟨n, hn⟩ := h
  obtain ⟨avs, r1, r2, r3, r4⟩ := trod_rep hL n t _ _ ht hn
  refine ⟨n, whole (isSt P t) avs, ?_, avs, r4, rfl⟩
  have hok := okTys_at hL ht
  unfold okTy at hok
  have lone : v.cells = #[v] → isSt P t = false → Rep W (fun b => b < W.heap.size) [] (whole (isSt P t) avs) v := by
    intro hc hs
    rw [hc] at r1
    rw [hs]
    cases r1 with
    | cons x xs _ _ h hs' => cases hs'; exact h
  split at hok
  · rename_i hu
    obtain ⟨b, rfl⟩ := okWide_bool hu hv
    exact lone rfl (by unfold isSt; rw [hu])
  · rename_i k hu
    obtain ⟨b, rfl⟩ := okWide_int hu hv
    exact lone rfl (by unfold isSt; rw [hu])
  · rename_i hu
    obtain ⟨b, rfl⟩ := okWide_string hu hv
    exact lone rfl (by unfold isSt; rw [hu])
  · rename_i e hu
    obtain ⟨a, l, c, rfl⟩ := okWide_slice hu hv
    exact lone rfl (by unfold isSt; rw [hu])
  · rename_i fs hu
    unfold Value.okWide at hv
    rw [hu] at hv
    obtain ⟨cs, rfl, _⟩ := hv
    have hs : isSt P t = true := by unfold isSt; rw [hu]
    rw [hs]
    have := Rep.agg (w := W) (im := fun b => b < W.heap.size) (et := []) avs cs.toList (by simpa [Value.cells] using r1) (by simpa [Value.cells] using r2)
    simpa [whole] using this
  · cases hok

theorem trodAll_below (hl : laidOutB P = true) (hb : Below W.heap.size W W') : ∀ (ts : List TypeId) (vs : List Value) (ds : List (DataW H)) (ps : List MemPlace), (∀ t ∈ ts, P.readableRec t = true ∧ t < P.types.size) →
    DataW.TrodAll enc P W 0 (fun _ => true) true ts vs ds ps → DataW.TrodAll enc P W' 0 (fun b => decide (b < W.heap.size)) true ts vs ds ps
  | [], [], [], ps, _, h => h
  | t :: ts, v :: vs, d :: ds, ps, ht, h => by
    obtain ⟨p, q, h1, h2, h3⟩ := h
    refine ⟨p, q, Below.trod hl (ht t (by simp)).1 (ht t (by simp)).2 h1 hb (fun x hx => ?_), trodAll_below hl hb ts vs ds q (fun u hu => ht u (by simp [hu])) h2, h3⟩
    obtain ⟨m, hm⟩ := h1
    exact DataW.trod_lt m _ _ _ hm x hx
  | [], [], _ :: _, _, _, h => h.elim
  | [], _ :: _, _, _, _, h => h.elim
  | _ :: _, [], _, _, _, h => h.elim
  | _ :: _, _ :: _, [], _, _, h => h.elim

end
end Tr

