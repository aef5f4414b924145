/- For every id and every list of masters, tailracelaw24.ClientNew returns true and leaves its arguments as they were; the package variables that its card lists are as the program's text lays them. -/
import Derived.Test.YtjfnncdafiiffaaGreatDoorG1
import Derived.Test.YtjfnncdafiiffaaGreatDoorK3
import Derived.Test.YtjfnncdafiiffaaGreatDoorCards
import Derived.Test.YtjfnncdafiiffaaGreatDoorTie
import Derived.Deep.DeepHandedRow
import Derived.Deep.DeepLaidRun
import Derived.Lib.LaidTab

namespace Go.Proofs.YtjfnncdafiiffaaGreatDoor
open Go Tr


theorem ref16_Ints.loop {x y : AV} {xs ys : List Int} (hx : IsSl x (ints .i64 xs)) (hy : IsSl y (ints .i64 ys)) (hl : xs.length = ys.length) : ∀ (n k : Nat), k ≤ xs.length → xs.length - k < n →
    iterL (ref16_Ints.l1 SX loopLim) n [[.int .i64 (k : Int)], [y], [x]] = some (.bool (xs.drop k == ys.drop k)) := by
  intro n
  induction n with
  | zero => intro k _ h; omega
  | succ n ih =>
    intro k hk hn
    have hb := hx.2
    rw [len_ints] at hb
    rw [iterL_succ]
    simp only [ref16_Ints.l1, ref16_Ints.l1b, List.headD_cons, List.tail_cons, hx.len, Option.bind_some, i64, bin_lss, asB_bool, len_ints]
    by_cases h : k < xs.length
    · have h2 : k < ys.length := by omega
      rw [if_pos (by simpa using h), elp_int hx h, elp_int hy h2]
      simp only [Option.bind_some, ld_one, bin_neq, asB_bool]
      rw [List.drop_eq_getElem_cons h, List.drop_eq_getElem_cons h2, List.cons_beq_cons]
      by_cases he : xs[k] = ys[k]
      · rw [if_neg (by simp [he]), add_i64 (by omega) (by omega)]
        simp only [Option.bind_some]
        rw [show (k : Int) + 1 = ((k + 1 : Nat) : Int) by omega, ih (k + 1) (by omega) (by omega)]
        simp [he]
      · rw [if_pos (by simpa using he)]
        simp [he]
    · rw [if_neg (by simpa using h)]
      rw [List.drop_of_length_le (by omega), List.drop_of_length_le (by omega)]
      rfl

theorem ints_spec {x y : AV} {xs ys : List Int} (hx : IsSl x (ints .i64 xs)) (hy : IsSl y (ints .i64 ys)) : SX.f F.ref16_Ints [x, y] = some (.bool (xs == ys)) := by
  refine ref16_Ints.st ?_
  simp only [ref16_Ints, hx.len, hy.len, Option.bind_some, i64, bin_neq, asB_bool, len_ints]
  by_cases h : xs.length = ys.length
  · rw [if_neg (by simp [h])]
    exact loopLim_of (xs.length + 1) (fun n hn => by
      have := ref16_Ints.loop hx hy h n 0 (by omega) (by omega)
      simpa using this)
  · rw [if_pos (by simpa using fun e => h (by omega))]
    have : xs ≠ ys := fun e => h (by rw [e])
    simp [this]

end Go.Proofs.YtjfnncdafiiffaaGreatDoor

namespace Go.Proofs.YtjfnncdafiiffaaGreatDoor
open Go Tr

def idxOf (a : Int) : List Int → Nat → Int
  | [], _ => -1
  | x :: r, k => if a = x then k else idxOf a r (k + 1)

theorem idxOf_ge (a : Int) : ∀ (l : List Int) (k : Nat), (0 ≤ idxOf a l k) ↔ a ∈ l
  | [], k => by simp [idxOf]
  | x :: r, k => by
    simp only [idxOf]
    by_cases h : a = x
    · simp [h]
    · simp [h, idxOf_ge a r (k + 1)]

theorem slices_Index_int.loop {x : AV} {xs : List Int} {a : Int} (hx : IsSl x (ints .i64 xs)) : ∀ (n k : Nat), k ≤ xs.length → xs.length - k < n →
    iterL (slices_Index_int.l1 SX loopLim) n [[.int .i64 (k : Int)], [.int .i64 (xs.length : Int)], [x], [.int .i64 a]] = some (.int .i64 (idxOf a (xs.drop k) k)) := by
  intro n
  induction n with
  | zero => intro k _ h; omega
  | succ n ih =>
    intro k hk hn
    have hb := hx.2
    rw [len_ints] at hb
    rw [iterL_succ]
    simp only [slices_Index_int.l1, slices_Index_int.l1b, List.headD_cons, List.tail_cons, Option.bind_some, bin_lss, asB_bool]
    by_cases h : k < xs.length
    · rw [if_pos (by simpa using h), elp_int hx h]
      simp only [Option.bind_some, ld_one, bin_eql, asB_bool]
      rw [List.drop_eq_getElem_cons h]
      by_cases he : a = xs[k]
      · rw [if_pos (by simpa using he)]
        simp [idxOf, he]
      · rw [if_neg (by simpa using he), add_i64 (by omega) (by omega)]
        simp only [Option.bind_some]
        rw [show (k : Int) + 1 = ((k + 1 : Nat) : Int) by omega, ih (k + 1) (by omega) (by omega)]
        simp only [idxOf, if_neg he]
    · rw [if_neg (by simpa using h)]
      rw [List.drop_of_length_le (by omega)]
      rfl

theorem contains_spec {x : AV} {xs : List Int} {a : Int} (hx : IsSl x (ints .i64 xs)) : SX.f F.slices_Contains_int [x, .int .i64 a] = some (.bool (decide (a ∈ xs))) := by
  have hi : SX.f F.slices_Index_int [x, .int .i64 a] = some (.int .i64 (idxOf a xs 0)) := by
    refine slices_Index_int.st ?_
    simp only [slices_Index_int, hx.len, Option.bind_some, i64, len_ints]
    exact loopLim_of (xs.length + 1) (fun n hn => by
      have := slices_Index_int.loop (a := a) hx n 0 (by omega) (by omega)
      simpa using this)
  refine slices_Contains_int.st ?_
  simp only [slices_Contains_int, hi, Option.bind_some, bin_geq, idxOf_ge]


/-- A place where numbers rise, from 1 to 999. -/
def okM (xs : List Int) (k : Nat) : Bool := decide (1 ≤ xs.getD k 0) && decide (xs.getD k 0 ≤ 999) && (k == 0 || decide (xs.getD (k - 1) 0 < xs.getD k 0))
def okMs (xs : List Int) : Nat → Nat → Bool
  | 0, _ => true
  | n + 1, k => okM xs k && okMs xs n (k + 1)

theorem ballot_peers.loop {x : AV} {xs : List Int} {a : Int} (hx : IsSl x (ints .i64 xs)) : ∀ (m n k : Nat), k + m = xs.length → m < n →
    iterL (ballot_peers.l1 SX loopLim) n [[.int .i64 (k : Int)], [.int .i64 (xs.length : Int)], [x], [x], [.int .i64 a]] =
      some (.bool (okMs xs m k && decide (xs.length ≤ 5) && decide (a ∈ xs))) := by
  have hb := hx.2
  rw [len_ints] at hb
  intro m
  induction m with
  | zero =>
    intro n k hk hn
    cases n with
    | zero => omega
    | succ n =>
      rw [iterL_succ]
      have : ¬ ((k : Int) < xs.length) := by omega
      simp only [ballot_peers.l1, ballot_peers.l1b, List.headD_cons, List.tail_cons, Option.bind_some, bin_lss, asB_bool, this, decide_false, Bool.false_eq_true, if_false, hx.len, len_ints, i64, bin_leq, cond_isB]
      rw [contains_spec hx]
      by_cases h5 : xs.length ≤ 5
      · have : (xs.length : Int) ≤ 5 := by omega
        simp [h5, this, okMs]
      · have : ¬ (xs.length : Int) ≤ 5 := by omega
        simp [h5, this, okMs]
  | succ m ih =>
    intro n k hk hn
    cases n with
    | zero => omega
    | succ n =>
      rw [iterL_succ]
      have hlt : (k : Int) < xs.length := by omega
      simp only [ballot_peers.l1, ballot_peers.l1b, List.headD_cons, List.tail_cons, Option.bind_some, bin_lss, asB_bool, hlt, decide_true, if_true, elp_get hx (show k < xs.length by omega), ld_one]
      have hrec := ih n (k + 1) (by omega) (by omega)
      have hp : 0 < k → (A.bin .sub (.int .i64 (k : Int)) (.int .i64 1)).bind (fun x15 => (A.elp 1 x x15).bind fun x16 => (A.ld .junk false 1 x16).bind fun x17 => A.bin .leq (.int .i64 (xs.getD k 0)) x17) = some (.bool (decide (xs.getD k 0 ≤ xs.getD (k - 1) 0))) := fun h => by
        rw [sub_one h (by omega), Option.bind_some, elp_get hx (show k - 1 < xs.length by omega)]
        simp only [Option.bind_some, ld_one, bin_leq]
      rw [okMs, okM]
      revert hp
      generalize xs.getD k 0 = v
      generalize xs.getD (k - 1) 0 = u
      intro hp
      by_cases h1 : v < 1
      · have h1' : ¬ (1 ≤ v) := by omega
        simp [h1, h1']
      · have h1' : 1 ≤ v := by omega
        by_cases h2 : 999 < v
        · have h2' : ¬ (v ≤ 999) := by omega
          simp [h1, h1', h2, h2']
        · have h2' : v ≤ 999 := by omega
          by_cases h0 : k = 0
          · subst h0
            have := add_one (k := 0) (by omega)
            simp only [Int.ofNat_zero] at *
            simp [h1, h1', h2, h2', this]
            simpa using hrec
          · have h0' : 0 < k := by omega
            have hp := hp h0'
            by_cases h3 : v ≤ u
            · have h3' : ¬ (u < v) := by omega
              have h0b : (k == 0) = false := by simpa using h0
              simp [h1, h1', h2, h2', h0', h0b, hp, h3, h3']
            · have h3' : u < v := by omega
              simp [h1, h1', h2, h2', h0', hp, h3, h3', add_one (k := k) (by omega)]
              simpa using hrec

theorem peers_spec {x : AV} {xs : List Int} {a : Int} (hx : IsSl x (ints .i64 xs)) : SX.f F.ballot_peers [.int .i64 a, x] = some (.bool (okMs xs xs.length 0 && decide (xs.length ≤ 5) && decide (a ∈ xs))) := by
  refine ballot_peers.st ?_
  simp only [ballot_peers, hx.len, Option.bind_some, i64, len_ints]
  exact loopLim_of (xs.length + 1) (fun n hn => ballot_peers.loop (a := a) hx xs.length n 0 (by omega) (by omega))

theorem ref18_Masters.loop {x : AV} {xs : List Int} {a : Int} (hx : IsSl x (ints .i64 xs)) : ∀ (m n k : Nat) (b : Bool), k + m = xs.length → m < n →
    iterL (ref18_Masters.l1 SX loopLim) n [[.int .i64 (k : Int)], [.bool b], [.int .i64 a], [x]] =
      some (.bool (okMs xs m k && ((b || decide (a ∈ xs.drop k)) && decide (xs.length ≤ 5)))) := by
  have hb := hx.2
  rw [len_ints] at hb
  intro m
  induction m with
  | zero =>
    intro n k b hk hn
    cases n with
    | zero => omega
    | succ n =>
      rw [iterL_succ]
      have : ¬ ((k : Int) < xs.length) := by omega
      have hd : xs.drop k = [] := List.drop_of_length_le (by omega)
      simp only [ref18_Masters.l1, ref18_Masters.l1b, List.headD_cons, List.tail_cons, Option.bind_some, bin_lss, asB_bool, this, decide_false, Bool.false_eq_true, if_false, hx.len, len_ints, i64, bin_leq, cond_isB, hd]
      by_cases h5 : xs.length ≤ 5
      · have : (xs.length : Int) ≤ 5 := by omega
        cases b <;> simp [h5, this, okMs]
      · have : ¬ (xs.length : Int) ≤ 5 := by omega
        cases b <;> simp [h5, this, okMs]
  | succ m ih =>
    intro n k b hk hn
    cases n with
    | zero => omega
    | succ n =>
      rw [iterL_succ]
      have hlt : (k : Int) < xs.length := by omega
      have hkl : k < xs.length := by omega
      have hdr : decide (a ∈ xs.drop k) = (decide (a = xs.getD k 0) || decide (a ∈ xs.drop (k + 1))) := by
        have hg : xs.getD k 0 = xs[k] := by simp [hkl]
        rw [List.drop_eq_getElem_cons hkl, hg]
        simp only [List.mem_cons, Bool.decide_or]
      rw [hdr]
      simp only [ref18_Masters.l1, ref18_Masters.l1b, List.headD_cons, List.tail_cons, Option.bind_some, bin_lss, asB_bool, hx.len, len_ints, i64, hlt, decide_true, if_true, elp_get hx hkl, ld_one]
      have hrec := fun b => ih n (k + 1) b (by omega) (by omega)
      have hp : 0 < k → (A.bin .sub (.int .i64 (k : Int)) (.int .i64 1)).bind (fun x17 => (A.elp 1 x x17).bind fun x18 => (A.ld .junk false 1 x18).bind fun x19 => A.bin .geq x19 (.int .i64 (xs.getD k 0))) = some (.bool (decide (xs.getD k 0 ≤ xs.getD (k - 1) 0))) := fun h => by
        rw [sub_one h (by omega), Option.bind_some, elp_get hx (show k - 1 < xs.length by omega)]
        simp only [Option.bind_some, ld_one, bin_geq]
      rw [okMs, okM]
      revert hp
      generalize xs.getD k 0 = v
      generalize xs.getD (k - 1) 0 = u
      intro hp
      by_cases h1 : v < 1
      · have h1' : ¬ (1 ≤ v) := by omega
        simp [h1, h1']
      · have h1' : 1 ≤ v := by omega
        have hva : (v == a) = decide (a = v) := by
          by_cases h : a = v
          · simp [h]
          · have h' : ¬ v = a := fun e => h e.symm
            simp [h, h']
        by_cases h2 : 999 < v
        · have h2' : ¬ (v ≤ 999) := by omega
          simp [h1, h1', h2, h2']
        · have h2' : v ≤ 999 := by omega
          by_cases h0 : k = 0
          · subst h0
            have := add_one (k := 0) (by omega)
            simp only [Int.ofNat_zero] at *
            cases b
            · simp [h1, h1', h2, h2', this]
              simpa [hva] using hrec (decide (a = v))
            · simp [h1, h1', h2, h2', this]
              have h := hrec true
              rw [Bool.true_or, Bool.true_and] at h
              simpa using h
          · have h0' : 0 < k := by omega
            have hp := hp h0'
            have h0b : (k == 0) = false := by simpa using h0
            by_cases h3 : v ≤ u
            · have h3' : ¬ (u < v) := by omega
              simp [h1, h1', h2, h2', h0', h0b, hp, h3, h3']
            · have h3' : u < v := by omega
              cases b
              · simp [h1, h1', h2, h2', h0', hp, h3, h3', add_one (k := k) (by omega)]
                simpa [hva] using hrec (decide (a = v))
              · simp [h1, h1', h2, h2', h0', hp, h3, h3', add_one (k := k) (by omega)]
                have h := hrec true
                rw [Bool.true_or, Bool.true_and] at h
                simpa using h

theorem masters_spec {x : AV} {xs : List Int} {a : Int} (hx : IsSl x (ints .i64 xs)) : SX.f F.ref18_Masters [.int .i64 a, x] = some (.bool (okMs xs xs.length 0 && decide (xs.length ≤ 5) && decide (a ∈ xs))) := by
  refine ref18_Masters.st ?_
  simp only [ref18_Masters]
  have := loopLim_of (xs.length + 1) (fun n hn => ref18_Masters.loop (a := a) hx xs.length n 0 false (by omega) (by omega))
  refine Eq.trans this ?_
  rw [Bool.false_or, List.drop_zero, Bool.and_assoc, Bool.and_comm (decide (a ∈ xs))]

theorem clone_spec {x : AV} {l : List Int} (hx : IsSl x (ints .i64 l)) (hl : l.length ≤ 1000) : SX.f F.slices_Clone_int [x] = some x := by
  refine slices_Clone_int.st ?_
  rcases hx.1 with rfl | ⟨rfl, h0⟩
  · have h1 : A.app 1 8 (.sl []) (.sl (ints .i64 l)) = some (.sl (ints .i64 l)) := by
      have : A.hdSz 1 (ints .i64 l) = true := by cases l <;> simp [ints, A.hdSz, AV.nc, AV.cells]
      have hb : (0 + (ints .i64 l).length) * 8 ≤ 140737488355328 := by rw [len_ints]; omega
      simp only [A.app, A.els, Option.bind_some, List.length_nil, this, true_and, if_pos hb, A.appW, List.nil_append]
    simp [slices_Clone_int, A.eq, A.eqk, A.mksl, A.allSz, h1]
  · simp [slices_Clone_int, A.eq, A.eqk]

theorem records_nil : SX.f F.ballot_records [.nil] = some .nil := run 10 (by kernel_rfl)

theorem new_spec {x : AV} {xs : List Int} {a : Int} (hx : IsSl x (ints .i64 xs)) : ∃ b e, SX.f F.ballot_New [.int .i64 a, x] = some (.tup [.agg b, .int .i64 e]) ∧ b.length = 12 ∧
    e = if okMs xs xs.length 0 && decide (xs.length ≤ 5) && decide (a ∈ xs) then 0 else 1 := by
  have hr : ∃ b e, SX.f F.ballot_Restore [.int .i64 a, x, .int .i64 0, .int .i64 0, .nil] = some (.tup [.agg b, .int .i64 e]) ∧ b.length = 12 ∧
      e = if okMs xs xs.length 0 && decide (xs.length ≤ 5) && decide (a ∈ xs) then 0 else 1 := by
    have h1 := peers_spec (a := a) hx
    revert h1
    generalize hq : (okMs xs xs.length 0 && decide (xs.length ≤ 5) && decide (a ∈ xs)) = q
    intro h1
    cases q with
    | false =>
      refine ⟨[.int .i64 0, .nil, .int .i64 0, .int .i64 0, .nil, .int .i64 0, .int .i64 0, .int .i64 0, .nil, .int .i64 0, .nil, .nil], 1, ballot_Restore.st ?_, rfl, rfl⟩
      simp only [ballot_Restore, h1, Option.bind_some, un_not, isB_bool]
      simp [A.len]
      refine loopLim_of 1 (fun n hn => ?_)
      obtain ⟨n, rfl⟩ : ∃ m, n = m + 1 := ⟨n - 1, by omega⟩
      rw [iterL_succ]
      simp [ballot_Restore.l1, ballot_Restore.l1b, i64, A.bld]
    | true =>
      have h5 : xs.length ≤ 5 := by simp at hq; exact hq.1.2
      have hc := clone_spec hx (by omega)
      refine ⟨[.int .i64 a, x, .int .i64 0, .int .i64 0, .nil, .int .i64 0, .int .i64 1, .int .i64 0, .nil, .int .i64 0, .nil, .nil], 0, ballot_Restore.st ?_, rfl, rfl⟩
      simp only [ballot_Restore, h1, Option.bind_some, un_not, isB_bool]
      simp [A.len]
      refine loopLim_of 1 (fun n hn => ?_)
      obtain ⟨n, rfl⟩ : ∃ m, n = m + 1 := ⟨n - 1, by omega⟩
      rw [iterL_succ]
      simp [ballot_Restore.l1, ballot_Restore.l1b, i64, hc, records_nil]
      rcases hx.1 with rfl | ⟨rfl, _⟩ <;> simp [A.bld, A.splice, A.cs]
  obtain ⟨b, e, h1, h2, h3⟩ := hr
  refine ⟨b, e, ballot_New.st ?_, h2, h3⟩
  simp [ballot_New, h1, csn_agg h2]

theorem may.loop {x : AV} {xs : List Int} {a : Int} (hx : IsSl x (ints .i64 xs)) (h0 : 0 < xs.length) : ∀ (m n k : Nat), k + m = xs.length → m < n →
    iterL (ref24_May.l1 SX loopLim) n [[.int .i64 (k : Int)], [.int .i64 a], [x]] =
      some (.bool (!decide (a ∈ xs.drop k) && (okMs xs xs.length 0 && decide (xs.length ≤ 5) && decide (xs.getD 0 0 ∈ xs)))) := by
  have hb := hx.2
  rw [len_ints] at hb
  intro m
  induction m with
  | zero =>
    intro n k hk hn
    cases n with
    | zero => omega
    | succ n =>
      rw [iterL_succ]
      have : ¬ ((k : Int) < xs.length) := by omega
      have hd : xs.drop k = [] := List.drop_of_length_le (by omega)
      have he := elp_get (k' := .i64) hx h0
      simp only [Int.ofNat_zero] at he
      have hms := masters_spec (a := xs.getD 0 0) hx
      revert hms
      simp only [ref24_May.l1, ref24_May.l1b, List.headD_cons, List.tail_cons, Option.bind_some, bin_lss, asB_bool, this, decide_false, Bool.false_eq_true, if_false, hx.len, len_ints, i64, hd]
      rw [show A.elp 1 x (.int .i64 0) = _ from he]
      generalize xs.getD 0 0 = v
      intro hms
      simp [hms]
  | succ m ih =>
    intro n k hk hn
    cases n with
    | zero => omega
    | succ n =>
      rw [iterL_succ]
      have hlt : (k : Int) < xs.length := by omega
      have hkl : k < xs.length := by omega
      have hdr : decide (a ∈ xs.drop k) = (decide (a = xs.getD k 0) || decide (a ∈ xs.drop (k + 1))) := by
        have hg : xs.getD k 0 = xs[k] := by simp [hkl]
        rw [List.drop_eq_getElem_cons hkl, hg]
        simp only [List.mem_cons, Bool.decide_or]
      rw [hdr]
      simp only [ref24_May.l1, ref24_May.l1b, List.headD_cons, List.tail_cons, Option.bind_some, bin_lss, asB_bool, hx.len, len_ints, i64, hlt, decide_true, if_true, elp_get hx hkl, ld_one, bin_eql]
      have hrec := ih n (k + 1) (by omega) (by omega)
      generalize xs.getD k 0 = v
      by_cases h : a = v
      · have : (v == a) = true := by simp [h]
        simp [h]
      · have : (v == a) = false := by simpa using fun e => h e.symm
        simp only [this, Bool.false_eq_true, if_false, add_one (k := k) (by omega), Option.bind_some, hrec, h, decide_false, Bool.false_or]

theorem may_spec {x : AV} {xs : List Int} {a : Int} (hx : IsSl x (ints .i64 xs)) : SX.f F.ref24_May [.int .i64 a, x] =
    some (.bool (decide (0 < xs.length) && decide (201 ≤ a) && decide (a ≤ 999) && (!decide (a ∈ xs) && (okMs xs xs.length 0 && decide (xs.length ≤ 5) && decide (xs.getD 0 0 ∈ xs))))) := by
  refine ref24_May.st ?_
  have hl : ∀ (h0 : 0 < xs.length), loopLim (ref24_May.l1 SX loopLim) [[.int .i64 0], [.int .i64 a], [x]] = _ := fun h0 => loopLim_of (xs.length + 1) (fun n hn => may.loop (a := a) hx h0 xs.length n 0 (by omega) (by omega))
  rw [List.drop_zero] at hl
  revert hl
  simp only [ref24_May, hx.len, Option.bind_some, i64, len_ints, bin_eql, isB_bool]
  generalize (!decide (a ∈ xs) && (okMs xs xs.length 0 && decide (xs.length ≤ 5) && decide (xs.getD 0 0 ∈ xs))) = q
  intro hl
  by_cases h0 : xs.length = 0
  · simp [h0]
  · have h0' : 0 < xs.length := by omega
    have h0i : ((xs.length : Int) == 0) = false := by simp; intro h; simp [h] at h0
    rw [h0i]
    by_cases h1 : a < 201
    · have : ¬ (201 ≤ a) := by omega
      simp [h1, this]
    · have h1' : 201 ≤ a := by omega
      by_cases h2 : 999 < a
      · have : ¬ (a ≤ 999) := by omega
        simp [h1, h2, this]
      · have h2' : a ≤ 999 := by omega
        simp [h1, h2, h1', h2', h0', hl h0']

end Go.Proofs.YtjfnncdafiiffaaGreatDoor

namespace Go.Proofs.YtjfnncdafiiffaaGreatDoor
open Go Tr

def zOp : List AV := [.int .i64 0, .str [], .str [], .nil, .nil, .bool false, .int .i64 0, .int .i64 0, .nil, .nil, .nil]
def zAns : List AV := [.int .i64 0, .bool false, .nil, .nil, .nil, .int .i64 0, .int .i64 0, .nil]
/-- A client's cells. -/
def cl (id : Int) (x : AV) : List AV := [.int .i64 id, x, .int .i64 0, .int .i64 0, .nil, .int .i64 0, .bool false, .int .i64 0, .int .i64 0, .str [], .str [], .nil, .nil, .bool false, .int .i64 0, .int .i64 0, .nil, .nil, .nil, .int .i64 0, .int .i64 0, .bool false,
  .int .i64 0, .bool false, .nil, .nil, .nil, .int .i64 0, .int .i64 0, .nil]

theorem sameOp_z : SX.f F.ref16_sameOp [.agg zOp, .agg zOp] = some (.bool true) := run 10 (by kernel_rfl)
theorem sameConf_z : SX.f F.ref19_Same [.agg [.int .i64 0, .int .i64 0, .nil], .agg [.int .i64 0, .int .i64 0, .nil]] = some (.bool true) := run 10 (by kernel_rfl)
theorem sameAns_z : SX.f F.ref12_Same [.agg zAns, .agg zAns] = some (.bool true) := run 10 (by kernel_rfl)
theorem awake_run : SX.f F.law24_awake [] = some (.bool true) := run 100 (by kernel_rfl)
theorem sameReq (id : Int) : SX.f F.ref16_SameRequest [.agg (.int .i64 id :: .int .i64 0 :: zOp), .agg (.int .i64 id :: .int .i64 0 :: zOp)] = some (.bool true) := by
  refine ref16_SameRequest.st ?_
  have := sameOp_z
  unfold zOp at *
  simp [ref16_SameRequest, A.csn, A.cs, this]

theorem same_spec {x : AV} {xs : List Int} {id : Int} (hx : IsSl x (ints .i64 xs)) : SX.f F.ref24_Same [.agg (cl id x), .agg (cl id x)] = some (.bool true) := by
  refine ref24_Same.st ?_
  have h1 := sameReq id
  have h2 := sameConf_z
  have h3 := sameAns_z
  have h4 := ints_spec hx hx
  unfold zOp at h1
  unfold zAns at h3
  unfold cl
  simp [ref24_Same, A.csn, A.cs, A.bld, A.splice, h1, h2, h3, h4]

theorem clientNew_spec {x : AV} {xs : List Int} {id : Int} (hx : IsSl x (ints .i64 xs)) (hl : xs.length ≤ 20) : SX.f F.client_New [.int .i64 id, x] =
    some (if decide (0 < xs.length) && decide (201 ≤ id) && decide (id ≤ 999) && (!decide (id ∈ xs) && (okMs xs xs.length 0 && decide (xs.length ≤ 5) && decide (xs.getD 0 0 ∈ xs)))
      then .tup [.agg (cl id x), .int .i64 0] else .tup [.agg (cl 0 .nil), .int .i64 1]) := by
  refine client_New.st ?_
  have hc := contains_spec (a := id) hx
  have hcl := clone_spec hx (by omega)
  unfold client_New
  simp only [bin_lss, Option.bind_some, isB_bool, bin_gtr, pick_bool]
  by_cases h1 : id < 201
  · have : ¬ (201 ≤ id) := by omega
    simp [h1, this, A.bld, cl]
  · have h1' : 201 ≤ id := by omega
    by_cases h2 : 999 < id
    · have : ¬ (id ≤ 999) := by omega
      simp [h1, h2, this, A.bld, cl]
    · have h2' : id ≤ 999 := by omega
      by_cases h0 : xs.length = 0
      · simp [h1, h2, h0, hx.len, len_ints, i64, A.bld, cl]
      · have h0' : 0 < xs.length := by omega
        by_cases hm : id ∈ xs
        · simp [h1, h2, h0, h0', hm, hx.len, len_ints, i64, hc, A.bld, cl]
        · have he := elp_get (k' := .i64) hx h0'
          obtain ⟨b, e, hn, hbl, hee⟩ := new_spec (a := xs.getD 0 0) hx
          simp only [Int.ofNat_zero] at he
          have he' : A.elp 1 x (.int .i64 0) = some (.ip [.int .i64 (xs.getD 0 0)]) := he
          clear he
          revert he' hn hee
          generalize xs.getD 0 0 = v
          generalize (okMs xs xs.length 0 && decide (xs.length ≤ 5) && decide (v ∈ xs)) = q
          intro hn hee he
          cases q with
          | false =>
            have hee : e = 1 := hee
            subst hee
            simp [h1, h2, h1', h2', h0, h0', hm, hx.len, len_ints, i64, hc, he, hn, csn_agg hbl]
            simp [A.bld, cl]
          | true =>
            have hee : e = 0 := hee
            subst hee
            simp [h1, h2, h1', h2', h0, h0', hm, hx.len, len_ints, i64, hc, he, hn, csn_agg hbl, hcl]
            rcases hx.1 with rfl | ⟨rfl, _⟩ <;> simp [A.bld, A.splice, A.cs, cl]

end Go.Proofs.YtjfnncdafiiffaaGreatDoor

namespace Go.Proofs.YtjfnncdafiiffaaGreatDoor
open Go Tr

theorem law_spec {x : AV} {xs : List Int} {id : Int} (hx : x = .sl (ints .i64 xs) ∨ (x = .nil ∧ xs = [])) : SX.f F.law24_ClientNew [.int .i64 id, x] = some (.bool true) := by
  refine law24_ClientNew.st ?_
  have hlen : A.len false x = some (i64 xs.length) := by
    rcases hx with rfl | ⟨rfl, rfl⟩
    · simp [A.len, len_ints]
    · rfl
  simp only [law24_ClientNew, hlen, Option.bind_some, i64, bin_gtr, asB_bool]
  by_cases h20 : 20 < xs.length
  · have : (20 : Int) < xs.length := by omega
    simp [this, awake_run]
  · have h20' : ¬ (20 : Int) < xs.length := by omega
    have hsl : IsSl x (ints .i64 xs) := by
      refine ⟨?_, by rw [len_ints]; omega⟩
      rcases hx with h | ⟨h, h'⟩
      · exact .inl h
      · exact .inr ⟨h, by rw [h']; rfl⟩
    rw [if_neg (by simpa using h20')]
    rw [clientNew_spec hsl (by omega), may_spec hsl]
    generalize (decide (0 < xs.length) && decide (201 ≤ id) && decide (id ≤ 999) && (!decide (id ∈ xs) && (okMs xs xs.length 0 && decide (xs.length ≤ 5) && decide (xs.getD 0 0 ∈ xs)))) = q
    have hc : ∀ i y, (cl i y).length = 30 := fun _ _ => rfl
    have hs1 := same_spec (id := id) hsl
    have hs0 := same_spec (id := 0) isSl_nil (xs := [])
    cases q with
    | false =>
      simp only [Bool.false_eq_true, if_false, Option.bind_some, ext_tup, List.getElem?_cons_zero, List.getElem?_cons_succ, csn_agg (hc _ _), un_not, asB_bool, Bool.not_false, if_true]
      have hb : A.bld (cl 0 .nil) [] = some (.agg (cl 0 .nil)) := rfl
      unfold cl at *
      simp [hb, hs0, awake_run]
    | true =>
      simp only [if_true, Option.bind_some, ext_tup, List.getElem?_cons_zero, List.getElem?_cons_succ, csn_agg (hc _ _), un_not, asB_bool, Bool.not_true, Bool.false_eq_true, if_false]
      have hb : A.bld (cl 0 .nil) [(0, false, 1, .int .i64 id), (1, false, 1, x)] = some (.agg (cl id x)) := by
        rcases hsl.1 with rfl | ⟨rfl, _⟩ <;> rfl
      unfold cl at *
      simp [hb, hs1, awake_run]

end Go.Proofs.YtjfnncdafiiffaaGreatDoor

namespace Go.Proofs.YtjfnncdafiiffaaGreatDoor
open Go Tr Go.ChangeShapes Go.WideShapes Go.ChangeAt Go.RowKit

theorem own : ownKnob Tryz.prog.godebug = none := by kernel_rfl
theorem laidOut : laidOutB Tryz.prog = true := by kernel_rfl
theorem tysOk : okTys Tryz.prog [3, 22] = true := by kernel_rfl

theorem ty_int {n : Nat} {x : AV} (h : TyV Tryz.prog n 3 x) : ∃ i, x = .int .i64 i := by
  obtain ⟨c, h, hx⟩ := h
  rw [isSt_of Tryz.underlying3] at hx
  obtain ⟨i, hc, _⟩ := h.int Tryz.underlying3
  exact ⟨i, by rw [hx, hc]; rfl⟩

theorem ty_elems {n : Nat} : ∀ (es : List (List AV)), (∀ y ∈ es, Ty Tryz.prog n 3 y) → ∃ xs, es.map (whole (isSt Tryz.prog 3)) = ints .i64 xs
  | [], _ => ⟨[], rfl⟩
  | e :: es, h => by
    obtain ⟨xs, hxs⟩ := ty_elems es (fun y hy => h y (by simp [hy]))
    obtain ⟨i, hi⟩ := ty_int ⟨e, h e (by simp), rfl⟩
    refine ⟨i :: xs, ?_⟩
    rw [List.map_cons, hi, hxs]
    rfl

theorem ty_ints {n : Nat} {x : AV} (h : TyV Tryz.prog n 22 x) : ∃ xs, x = .sl (ints .i64 xs) ∨ (x = .nil ∧ xs = []) := by
  obtain ⟨c, h, hx⟩ := h
  rw [isSt_of Tryz.underlying22] at hx
  obtain ⟨y, es, hc, h1, h2⟩ := h.slice Tryz.underlying22
  have hx : x = y := by rw [hx, hc]; rfl
  subst hx
  rcases h1 with ⟨h1, _⟩ | ⟨h1, h1'⟩
  · obtain ⟨xs, hxs⟩ := ty_elems es h2
    exact ⟨xs, .inl (by rw [h1, hxs])⟩
  · exact ⟨[], .inr ⟨h1, rfl⟩⟩

theorem walk {W : World} {a b : AV} {v0 v1 : Value} (h0 : Rep W (fun b => b < W.heap.size) [] a v0) (h1 : Rep W (fun b => b < W.heap.size) [] b v1) {n m : Nat} (t0 : TyV Tryz.prog n 3 a) (t1 : TyV Tryz.prog m 22 b) :
    Calls Tryz.prog 3 #[v0, v1] W fun e W' => e = .returned (.bool true) ∧ Below W.heap.size W W' := by
  obtain ⟨i, rfl⟩ := ty_int t0
  obtain ⟨xs, hx⟩ := ty_ints t1
  exact calls_law (t := tb) (f := 3) (sg := ⟨0, [.v, .v], [.v]⟩) pg (by kernel_rfl) (by decide) rfl rfl (.cons _ _ _ _ h0 (.cons _ _ _ _ h1 .nil)) rfl (law_spec hx)

set_option maxRecDepth 100000 in
theorem contract (H : Type) (enc : TypeId × Value → H) (W : World) (base : Nat) (args : Array Value) (ds gs : List (DataW H)) (before : List MemPlace)
    (hval : ∀ (j : Nat) t v, Tryz.f3.params[j]? = some t → args[j]? = some v → Value.okWide Tryz.prog W .any base t v)
    (hW : DataW.Whole enc Tryz.prog Tryz.f3.params.toList Rows.clientNewSpec.vars false W args.toList ds gs before) :
    Calls Tryz.prog 3 args W fun e W' => ∃ v, e = .returned v ∧ Rows.clientNewSpec.post enc Tryz.prog Tryz.f3 false true false false W args v W' := by
  have hW' := hW
  obtain ⟨p, q, hA0, hV, rfl, hfz, hnd⟩ := hW
  have hA : DataW.TrodAll enc Tryz.prog W 0 (fun _ => true) true Tryz.f3.params.toList args.toList ds p := hA0
  rw [Tryz.params3] at hA hval
  have hA2 := hA
  obtain ⟨v0, vs0, d0, ds0, p0, q0, hargs, rfl, rfl, h0, r0⟩ := trodAll_cons hA
  obtain ⟨v1, vs1, d1, ds1, p1, q1, rfl, rfl, rfl, h1, r1⟩ := trodAll_cons r0
  obtain ⟨rfl, rfl, rfl⟩ := trodAll_nil r1
  obtain rfl : args = #[v0, v1] := by cases args; simp_all
  obtain ⟨rfl, rfl⟩ := trodVars_none hV
  obtain ⟨n0, x0, a0, b0⟩ := arg_rep tysOk (by decide) (hval 0 3 v0 rfl rfl) h0
  obtain ⟨n1, x1, a1, b1⟩ := arg_rep tysOk (by decide) (hval 1 22 v1 rfl rfl) h1
  refine (walk a0 a1 b0 b1).mono fun e W' ⟨he, bel⟩ => ?_
  subst he
  have back := trodAll_below laidOut bel _ _ _ _ (fun t ht => by
    have : t = 3 ∨ t = 22 := by simpa using ht
    rcases this with rfl | rfl <;> exact ⟨by kernel_rfl, of_decide_eq_true (by kernel_rfl)⟩) hA2
  exact ⟨_, rfl, _, _, _, [], _, [], hW', trodAll_mk1 (shut_bool Tryz.underlying4 _), by rw [Tryz.params3]; exact back, rfl, bel.frame _, fun h => by cases h⟩

/-- The cells that a table of numbers holds. -/
def litCells : DataW Unit → List Value
  | .lit (.int k n) => [.int k n]
  | .agg ps => go ps
  | _ => []
where go : List (DataW Unit) → List Value
  | [] => []
  | d :: r => litCells d ++ go r

def layCells (l : List Value) : Obj → Obj
  | .cells _ t frozen => .cells l.toArray t frozen
  | o => o

noncomputable def laidWorld (os : Os) : World :=
  { World.holding Tryz.prog os ⟨#[], #[], []⟩ with heap := ((World.holding Tryz.prog os ⟨#[], #[], []⟩).heap.modify 1 (layCells (litCells Rows.laid_unicode_utf8_first))).modify 2 (layCells (litCells Rows.laid_unicode_utf8_acceptRanges)) }

theorem laid_met (os : Os) : laidMet Tryz.prog Rows.clientNewRow.laid ((laidWorld os).forCall (fun _ _ => 0) ⟨#[], #[.int .i64 0, .slice none 0 0], []⟩).memory :=
  laidMet_of_run3 8 (by kernel_rfl) (by kernel_rfl) (by kernel_rfl)
theorem reads (os : Os) {H : Type} (enc : TypeId × Value → H) : ∃ places, DataW.whole enc Tryz.prog ((laidWorld os).forCall (fun _ _ => 0) ⟨#[], #[.int .i64 0, .slice none 0 0], []⟩).memory Tryz.f3.params.toList Rows.clientNewSpec.vars false #[Value.int .i64 0, .slice none 0 0].toList 8 = some ([.lit (.int .i64 0), .nil], [], places) :=
  ⟨[], by kernel_rfl⟩

set_option maxRecDepth 100000 in
theorem lifted (os : Os) (started : os.Started) (H : Type) (enc : TypeId × Value → H) (F : Stop.Interp) :
    ReturnsInHanded {} Tryz.checked os 3 .any ((OpenSpec.ofChange Rows.clientNewSpec).preRow enc Tryz.prog Tryz.f3 Rows.clientNewRow.domain false Rows.clientNewRow.laid) (((OpenSpec.ofChange Rows.clientNewSpec).at F).post enc Tryz.prog Tryz.f3 false true false false) := by
  obtain ⟨places, hx⟩ := reads os enc
  refine returnsInHanded_of_row (C := Tryz.checked) (s := OpenSpec.ofChange Rows.clientNewSpec) own started (by kernel_rfl) Tryz.func3
    (witness_row_at (enc := enc) (C := Tryz.checked) false (laidWorld os) #[.int .i64 0, .slice none 0 0] rfl (by kernel_rfl) (by kernel_rfl) (by kernel_rfl)
      (OpenSpec.preRow_of_cond 8 hx (by kernel_rfl) (fun k hk => by cases hk) (by kernel_rfl) (laid_met os))) ?_
  intro W base args ds gs before hval hW _ _ _ _ _ _
  exact contract H enc W base args ds gs before hval hW

theorem said : Rows.ClientNewSaid :=
  OpenClaim.holds_of_cond 3 Tryz.f3 rfl rfl rfl rfl rfl rfl rfl ⟨rfl, rfl, rfl, rfl, rfl⟩ rfl rfl rfl rfl rfl (by kernel_rfl) Tryz.func3 (by kernel_rfl)
    (of_decide_eq_true (by kernel_rfl)) (by unfold Func.isWrapper; first | (rw [if_pos (by decide +kernel)]; kernel_rfl) | (rw [if_neg (by decide +kernel)]; exact ⟨rfl, rfl⟩))
    (fun os started H enc _ F => by rw [OpenClaim.pre_eq_preRow]; exact lifted os started H enc F)

theorem plain (f : FuncId) (fn : Func) (hf : Tryz.pinned.checked.prog.funcNamed "tailrace/tailracelaw24.ClientNew" = some f) (hfn : Tryz.pinned.checked.prog.funcs[f]? = some fn) :
    false = Tryz.pinned.checked.prog.looks [] ∧ ∀ (j : Nat) t, fn.params[j]? = some t → Tryz.pinned.checked.prog.wantsStandIn t = false := by
  obtain rfl : f = 3 := Option.some.inj ((show Tryz.prog.funcNamed "tailrace/tailracelaw24.ClientNew" = some 3 by kernel_rfl).symm.trans hf) |>.symm
  obtain rfl : fn = Tryz.f3 := (Option.some.inj (Tryz.func3.symm.trans hfn)).symm
  refine ⟨by kernel_rfl, fun j t ht => ?_⟩
  rw [Tryz.params3] at ht
  have : t = 3 ∨ t = 22 := by simpa using Array.mem_of_getElem? ht
  rcases this with rfl | rfl
  · exact (show Tryz.prog.wantsStandIn 3 = false by kernel_rfl)
  · exact (show Tryz.prog.wantsStandIn 22 = false by kernel_rfl)

theorem clientNew_holds : Rows.ClientNewCardSaid :=
  Claim7.holds_tied_plain_at .later [] _ _ _ _ said (fun _ h => by cases h) (by kernel_rfl) (fun _ h => by cases h) clientNew_row_tie rfl ⟨rfl, rfl⟩ (by kernel_rfl) rfl plain (by kernel_rfl)
#print axioms clientNew_holds
end Go.Proofs.YtjfnncdafiiffaaGreatDoor

