/- Operations that do not meet may change places. -/
import Derived.Test.YtjfnncdafiiffaaGreatDoorK1
import Derived.Orders

namespace Tr
open Go

section
variable {P : Program} {F : Fm} {gh gh' : Gh} {T T' : Tags} {e e' : Env} {a : Act} {w w' : World} {o : Oper} {hn : Hn} {gd : Option (Nat × Nat × Bool)} {S : Fns} {d : Nat}

theorem boxOf_spec (R : Rel F gh T e a w) (hg : gdOn T e gd) {t b off : Nat} {ks : List CK} (h : boxOf T gd t = some (b, off, ks)) :
    (T b).tag = .box ks ∧ ∃ B vs el, gh.ow B = some (.box b) ∧ tmp a b = .pointer (some ⟨B, 0, none⟩) ∧ tmp a t = .pointer (some ⟨B, off, none⟩) ∧ w.heap[B]? = some (.cells vs.toArray el (0, 0)) ∧ CellsOk w gh (.own b 0) (ks.map CK.k) (e b) vs := by
  unfold boxOf at h
  split at h
  · rename_i ks' htag
    cases h
    obtain ⟨h1, h2⟩ := tagAt_slot R hg (t := t) (by rw [htag]; simp)
    rw [htag] at h1
    rw [← h1] at h2
    obtain ⟨B, vs, el, q1, q2, q3, q4⟩ := h2
    exact ⟨h1.symm, B, vs, el, q1, q2, q2, q3, q4⟩
  · rename_i t' off' g htag
    obtain ⟨h1, h2⟩ := tagAt_slot R hg (t := t) (by rw [htag]; simp)
    rw [htag] at h1
    rw [← h1] at h2
    split at h
    · rename_i hgg
      split at h
      · rename_i ks' hb
        cases h
        obtain ⟨B, p1, p2, p3⟩ := h2 hgg
        have hs := R.slot b (by rw [R.tok.ck b (by rw [hb]; rfl)]; trivial)
        rw [hb] at hs
        obtain ⟨B', vs, el, q1, q2, q3, q4⟩ := hs
        rw [p2] at q2
        cases q2
        exact ⟨hb, B, vs, el, q1, p2, p3, q3, q4⟩
      · cases h
    · cases h
  · cases h

theorem run_load1 {ty : TypeId} (ht : okT P ty = true) (hag : isAg P ty = false) {B off : Nat} {vs : List Value} {el : TypeId} {fr : Nat × Nat} (hb : w.heap[B]? = some (.cells vs.toArray el fr)) {v : Value} (hv : vs[off]? = some v) :
    (Instr.loadAt ty (.pointer (some ⟨B, off, none⟩))).run P w = .ok v w := by
  obtain ⟨⟨desc, hd⟩, _⟩ := okT_spec ht
  have hc : w.cell? ⟨B, off, none⟩ = some v := by rw [cell_of_row w B off _ el fr hb]; simpa using hv
  simp [Instr.loadAt, Instr.sureAddr, loadVar, run_isAgg hd, hag, hc]

theorem run_loadN {ty : TypeId} (ht : okT P ty = true) (hag : isAg P ty = true) {B off : Nat} {vs : List Value} {el : TypeId} {fr : Nat × Nat} (hb : w.heap[B]? = some (.cells vs.toArray el fr)) (hl : ((vs.drop off).take (P.cellsOf ty)).length = P.cellsOf ty) :
    (Instr.loadAt ty (.pointer (some ⟨B, off, none⟩))).run P w = .ok (.agg ((vs.drop off).take (P.cellsOf ty)).toArray) w := by
  obtain ⟨⟨desc, hd⟩, _⟩ := okT_spec ht
  have hld := run_loadCells_list (P := P) w ⟨B, off, none⟩ ((vs.drop off).take (P.cellsOf ty)) (fun j v hj => by
    rw [Addr.add_lit, cell_of_row w B _ _ el fr hb]
    rw [List.getElem?_take] at hj
    split at hj
    · rw [List.getElem?_drop] at hj; simpa using hj
    · cases hj)
  rw [hl] at hld
  simp only [Instr.loadAt, Instr.sureAddr, loadVar, Sem.run_bind, Sem.run_pure, Result.andThen, run_isAgg hd, hag, if_true, run_sizeOf hd, hld]

theorem setRange_get (f : CK → CK) : ∀ (ks : List CK) (off n k : Nat), (setRange f ks off n)[k]? = if off ≤ k ∧ k < off + n then (ks[k]?).map f else ks[k]?
  | [], off, n, k => by simp [setRange]
  | c :: r, 0, 0, k => by simp [setRange]
  | c :: r, 0, n + 1, k => by
    cases k with
    | zero => simp [setRange]
    | succ k => simp only [setRange, List.getElem?_cons_succ]; rw [setRange_get f r 0 n k]; simp only [Nat.zero_le, true_and, Nat.zero_add]; by_cases h : k < n <;> simp [h]
  | c :: r, off + 1, n, k => by
    cases k with
    | zero => simp [setRange]
    | succ k => simp only [setRange, List.getElem?_cons_succ]; rw [setRange_get f r off n k]; congr 1; simp; omega

theorem setRange_len (f : CK → CK) : ∀ (ks : List CK) (off n : Nat), (setRange f ks off n).length = ks.length
  | [], _, _ => rfl
  | _ :: _, 0, 0 => rfl
  | _ :: r, 0, n + 1 => by simp [setRange, setRange_len f r 0 n]
  | _ :: r, off + 1, n => by simp [setRange, setRange_len f r off n]

theorem cellsOk_sub {kf : Nat → Key} {ks : List CKd} {cs : List AV} {vs : List Value} (h : CellsOk w gh kf ks cs vs) (off n : Nat) : CellsOk w gh (fun k => kf (off + k)) ((ks.drop off).take n) ((cs.drop off).take n) ((vs.drop off).take n) := by
  refine ⟨by simp [h.1], by simp [h.2.1], fun v hv => h.2.2.1 v (List.mem_of_mem_drop (List.mem_of_mem_take hv)), fun k c x v a1 a2 a3 => ?_⟩
  rw [List.getElem?_take] at a1 a2 a3
  split at a1
  · rename_i hk
    rw [if_pos hk] at a2 a3
    rw [List.getElem?_drop] at a1 a2 a3
    exact h.2.2.2 (off + k) c x v a1 a2 a3
  · cases a1

theorem ld_sound (R : Rel F gh T e a w) (hg : gdOn T e gd) {ty : TypeId} {x : Operand} {pol : Nat} (ho : o.op = .load ty x) (ht : okT P ty = true) (hdst : o.dst = some d) (hd : d < F.n) {plan : Plan} (he : plan.dyn.ev S e some = some e')
    (hgk : gdOk gd plan = true) (h : planLd P T gd d pol ty x = some plan) : Good P F o a w (T.ups plan.ups) e' := by
  have hex : execOp a.eval o = (do pure (Next.value (← Instr.loadAt ty (a.eval x)))) := by simp only [execOp, ho]
  have nop : plan.dyn = .nop → e' = e := fun hn => by rw [hn] at he; cases he; rfl
  unfold planLd at h
  simp only at h
  split at h
  · rename_i t
    rw [eval_tmp] at hex
    split at h
    · -- a box
      rename_i b off ks hbox
      obtain ⟨htag, B, vs, el, q1, q2, q3, q4, q5⟩ := boxOf_spec R hg hbox
      rw [q3] at hex
      have hkl : vs.length = ks.length := by have := q5.2.1; simpa using this
      have hel : (e b).length = ks.length := by have := q5.1; simpa using this
      split at h
      · -- a struct
        rename_i hag
        have cval : (if off = 0 ∧ szOf P ty = ks.length then CR.a b else .ap b off (szOf P ty)).val e = some (.agg (((e b).drop off).take (szOf P ty))) := by
          split
          · rename_i hc
            obtain ⟨rfl, hc⟩ := hc
            simp only [CR.val, List.drop_zero]
            rw [List.take_of_length_le (by omega)]
          · rfl
        split at h
        · cases h
        · rename_i hsub
          have hsl : ((ks.drop off).take (szOf P ty)).length = szOf P ty := by simpa using hsub
          have hvl : ((vs.drop off).take (P.cellsOf ty)).length = P.cellsOf ty := by
            have := hsl
            unfold szOf at this
            simp only [List.length_take, List.length_drop] at this ⊢
            omega
          have hrun := run_loadN (w := w) ht hag q4 hvl
          have hcs := cellsOk_sub q5 off (szOf P ty)
          have hrepAgg : ∀ {im et}, RepL w im et (((e b).drop off).take (szOf P ty)) ((vs.drop off).take (szOf P ty)) → Rep w im et (.agg (((e b).drop off).take (szOf P ty))) (.agg ((vs.drop off).take (P.cellsOf ty)).toArray) :=
            fun hr => .agg _ _ hr hcs.2.2.1
          have fin : ∀ {ups : List (Nat × Tg)} {tr : List Nat}, set1 T gd d (.mv (if off = 0 ∧ szOf P ty = ks.length then CR.a b else .ap b off (szOf P ty))) vT ups tr = some plan → (∃ gh', Rel F gh' (T.ups ups) e a w ∧ RepL w gh'.im gh'.et (((e b).drop off).take (szOf P ty)) ((vs.drop off).take (szOf P ty))) → Good P F o a w (T.ups plan.ups) e' :=
            fun hs ⟨gh', r1, r2⟩ => good_rep R hs hdst hd he hex fun av hav => by
              simp only [PX.ev, CR.ev_val, cval, Option.bind_some, Option.some.injEq] at hav
              subst hav
              exact ⟨_, gh', hrun, r1, hrepAgg r2⟩
          split at h
          · rename_i hall
            refine fin h ⟨gh, R, hcs.v ?_⟩
            rw [← List.map_drop, ← List.map_take, List.all_map]
            simpa [allV, CK.isV] using hall
          · split at h
            · rename_i hlive
              split at h
              · split at h
                · rename_i hc
                  obtain ⟨rfl, hcl, hgn⟩ := hc
                  cases h
                  cases gd with
                  | some q => simp at hgn
                  | none =>
                    have := he
                    simp only [Dyn.ev, Option.some.injEq] at this
                    subst this
                    let ρ : Key → Option Key := fun key => match key with | .own s i k => if s = b ∧ i = 0 then some (.arg 0 k) else some (.own s i k) | key => some key
                    have hρ : ∀ key, ¬ about b key → ρ key = some key := fun key hk => by
                      cases key with
                      | own s i k => simp only [about] at hk; simp [ρ, hk]
                      | _ => rfl
                    have hle : TagLe ρ b (T b).tag (.box (ks.map ddK)) := by
                      rw [htag]
                      refine .box _ _ (by simp) (fun k c' hc => ?_)
                      simp only [List.getElem?_map, Option.map_eq_some_iff] at hc
                      obtain ⟨c, q1, rfl⟩ := hc
                      refine ⟨c, q1, (ddK_u c).symm, ?_⟩
                      cases hk : c.k with
                      | dead => simp [ddK, hk]; exact .dead _
                      | v => simp [ddK, hk]; exact .v
                      | own _ _ => simp [ddK, hk]; exact .dead _
                    have R1 := R.retag b _ ρ (R.lt (by rw [htag]; simp)) hρ rfl hle (.inl (R.tok.ck b (by rw [htag]; rfl)))
                    have hco : CellsOk w (gh.ren ρ) (.arg 0) (ks.map CK.k) (e b) vs := q5.rename (fun k => by simp [ρ])
                    have e1 : dstT T none d (.agg ks) = dstT (T.up b ⟨(T b).g, .box (ks.map ddK), (T b).gd⟩) none d (.agg ks) := by
                      unfold dstT
                      by_cases e' : d = b
                      · subst e'; rw [up_same]
                      · rw [up_other _ _ _ _ e']
                    obtain ⟨gh', hR⟩ := R1.putAgg hd hco
                    rw [← e1] at hR
                    have hfull : ((vs.drop 0).take (P.cellsOf ty)) = vs := by rw [List.drop_zero, List.take_of_length_le (by unfold szOf at hcl; omega)]
                    rw [hfull] at hrun
                    exact good_value (by rw [hex]; exact run_v hrun) (by rw [hdst]; exact hR)
                · cases h
              · -- shared from now on
                let Pk : Key → Prop := fun key => match key with | .own s i k => s = b ∧ i = 0 ∧ off ≤ k ∧ k < off + szOf P ty | _ => False
                have hab : ∀ key, Pk key → about b key := fun key h => by cases key <;> simp_all [Pk, about]
                have hkle : ∀ (k : Nat) (c : CK), KLe (rn Pk none) (.own b 0 k) c.k (if off ≤ k ∧ k < off + szOf P ty then frK c else c).k := fun k c => by
                  split
                  · rename_i hk
                    cases hq : c.k with
                    | dead => simp [frK, hq]; exact .dead _
                    | v => simp [frK, hq]; exact .v
                    | own e s => simp [frK, hq]; exact .fr e s (rn_in (by simp [Pk, hk]))
                  · rename_i hk
                    cases hq : c.k with
                    | dead => exact .dead _
                    | v => exact .v
                    | own e s => exact .keep e s (rn_out (by simp only [Pk]; omega))
                have hg' : ∀ (k : Nat) (c' : CK), (setRange frK ks off (szOf P ty))[k]? = some c' → ∃ c, ks[k]? = some c ∧ c' = if off ≤ k ∧ k < off + szOf P ty then frK c else c := fun k c' hc => by
                  rw [setRange_get] at hc
                  split at hc
                  · rename_i hk
                    simp only [Option.map_eq_some_iff] at hc
                    obtain ⟨c, h1, rfl⟩ := hc
                    exact ⟨c, h1, by rw [if_pos hk]⟩
                  · rename_i hk
                    exact ⟨c', hc, by rw [if_neg hk]⟩
                have hle : TagLe (rn Pk none) b (T b).tag (.box (setRange frK ks off (szOf P ty))) := by
                  rw [htag]
                  refine .box _ _ (setRange_len _ _ _ _) (fun k c' hc => ?_)
                  obtain ⟨c, h1, rfl⟩ := hg' k c' hc
                  refine ⟨c, h1, ?_, hkle k c⟩
                  split
                  · exact (frK_u c).symm
                  · rfl
                have R1 := R.retag b _ (rn Pk none) (R.lt (by rw [htag]; simp)) (rn_about hab) (rn_out (by simp [Pk])) hle (.inl (R.tok.ck b (by rw [htag]; rfl)))
                refine fin h ⟨_, R1, ?_⟩
                have hco : CellsOk w (gh.ren (rn Pk none)) (.own b 0) ((setRange frK ks off (szOf P ty)).map CK.k) (e b) vs := q5.ren (by simp [setRange_len]) (fun k c' hk => by
                  obtain ⟨c0, p1, p2⟩ := map_k hk
                  obtain ⟨c, h1, rfl⟩ := hg' k c0 p1
                  exact ⟨c.k, by simp [List.getElem?_map, h1], p2 ▸ hkle k c⟩)
                refine (cellsOk_sub hco off (szOf P ty)).v ?_
                rw [List.all_eq_true]
                intro c hc
                obtain ⟨k, hk⟩ := List.getElem?_of_mem hc
                rw [List.getElem?_take] at hk
                split at hk
                · rename_i hkn
                  rw [List.getElem?_drop] at hk
                  obtain ⟨c0, p1, p2⟩ := map_k hk
                  obtain ⟨c1, h1, rfl⟩ := hg' _ c0 p1
                  rw [if_pos ⟨by omega, by omega⟩] at p2
                  subst p2
                  have hl1 : c1.k.live = true := by
                    refine List.all_eq_true.1 hlive c1 (List.mem_of_getElem? (i := k) ?_)
                    rw [List.getElem?_take, if_pos hkn, List.getElem?_drop]
                    exact h1
                  rw [frK_v hl1]; rfl
                · cases hk
            · cases h
      · -- a lone cell
        rename_i hag
        have hag : isAg P ty = false := by simpa using hag
        split at h
        · rename_i c hc
          have hk : off < ks.length := (List.getElem?_eq_some_iff.1 hc).1
          have hev : (e b)[off]? = some (e b)[off] := List.getElem?_eq_getElem (by omega)
          have hvv : vs[off]? = some vs[off] := List.getElem?_eq_getElem (by omega)
          have hrun := run_load1 (w := w) ht hag q4 hvv
          have hcell := q5.2.2.2 off c.k _ _ (by simp [List.getElem?_map, hc]) hev hvv
          split at h
          · rename_i hck
            rw [hck] at hcell
            exact good_rep R h hdst hd he hex fun av hav => by
              simp only [PX.ev, CR.ev_val, CR.val, hev, Option.bind_some, Option.some.injEq] at hav
              subst hav
              exact ⟨_, gh, hrun, R, hcell⟩
          · rename_i ee ss hck
            rw [hck] at hcell
            have hckt : (T b).tag.ck off = some ⟨c.u, .own ee ss⟩ := by rw [htag, ← hck]; exact hc
            have hhdr : hdr w a (T b).tag b off = some vs[off] := by
              rw [htag]
              simp only [hdr, q2, Addr.add_lit, Nat.zero_add]
              rw [cell_of_row w B off _ el (0, 0) q4]
              simp
            split at h
            · cases h
              have := nop rfl
              subst this
              have := R.putAl (d := d) (v := vs[off]) hg hd (refOk_own R hckt) (fun y hy => hhdr)
              rw [set_id] at this
              exact good_value (by rw [hex]; exact run_v hrun) (by rw [hdst]; exact this)
            · obtain ⟨av, h1, rfl, h3⟩ := set1_g h he
              simp only [PX.ev, CR.ev_val, CR.val, hev, Option.bind_some, Option.some.injEq] at h1
              subst h1
              obtain ⟨g1, g2⟩ := R.set1 .dead (some (.arg 0 0)) hckt (.inr rfl)
              have e1 : setCk (T b).tag off ⟨c.u, .dead⟩ = .box (ks.set off (ddK c)) := by rw [htag]; simp only [setCk, ddK, hck]
              rw [e1] at g2
              obtain ⟨gh', hR⟩ := Rel.putOwn (gd := gd) g2 hd (i := 0) (OwnOk.rename (key' := .arg 0 0) hcell (rn_in (by simp [isOwn])))
              rw [h3]
              exact good_value (by rw [hex]; exact run_v hrun) (by rw [hdst]; exact hR)
            · refine good_rep R h hdst hd he hex fun av hav => ?_
              simp only [PX.ev, CR.ev_val, CR.val, hev, Option.bind_some, Option.some.injEq] at hav
              subst hav
              obtain ⟨g1, g2⟩ := R.set1 .v none hckt (.inl ⟨rfl, rfl⟩)
              have e1 : setCk (T b).tag off ⟨c.u, .v⟩ = .box (ks.set off (frK c)) := by rw [htag]; simp only [setCk, frK, hck]
              rw [e1] at g2
              exact ⟨_, _, hrun, g2, OwnOk.toRep hcell (rn_in (by simp [isOwn]))⟩
          · cases h
        · cases h
    · -- no box
      split at h
      · rename_i t' k off g u htag
        obtain ⟨h1, h2⟩ := tagAt_slot R hg (t := t) (by rw [htag]; simp)
        rw [htag] at h1
        rw [← h1] at h2
        simp only [Option.bind_eq_some_iff] at h
        obtain ⟨y, hy, h⟩ := h
        obtain ⟨kd, i, B, len, cap, c1, c2, c3, c4, c5⟩ := h2 y hy
        obtain ⟨hx, hv, p1, p2, p3⟩ := alOk_own R hy
        refine good_rep R h hdst hd he hex fun av hav => ?_
        simp only [PX.ev, CR.ev_val, p1, Option.bind_some] at hav
        simp only [CR.val, c1, List.getElem?_cons_zero, Option.bind_some, Option.bind_eq_some_iff] at hav
        obtain ⟨r, hr, hav⟩ := hav
        cases hav
        obtain ⟨k', n', B', len', cap', z1, z2, z3, v, z4, z5⟩ := run_eld ht p3 hr
        cases z1
        rw [c2] at p2
        cases p2
        cases z3
        rw [c5]
        exact ⟨v, gh, z4, R, z5⟩
      · rename_i c htag
        split at h
        · rename_i hv
          have hrv : rdV (⟨[], [], false⟩ : Hn) T gd (.tmp t) = some (.c t, [t]) := by simp only [rdV, htag, hv, if_true]
          by_cases hp3 : pol = 3
          · rw [if_pos hp3] at h
            refine good_rep R h hdst hd he hex fun av hav => ?_
            simp only [PX.ev, CR.ev_val, Option.bind_eq_some_iff] at hav
            obtain ⟨ax, x1, r, hr, hav⟩ := hav
            cases hav
            have k := rdV_sound R hg hrv x1
            obtain ⟨v, z1, z2⟩ := run_ld (e := e) (h := .junk) (fun id o hx => by subst hx; simp [A.ld, A.block] at hr) ht k hr
            exact ⟨v, gh, z1, R, z2⟩
          rw [if_neg hp3] at h
          refine good_rep R h hdst hd he hex fun av hav => ?_
          simp only [PX.ev, CR.ev_val, Option.bind_eq_some_iff] at hav
          obtain ⟨ax, x1, hav⟩ := hav
          have k := rdV_sound R hg hrv x1
          cases hhp : F.hp with
          | true =>
            have hh := R.hp hhp
            obtain ⟨bs, hbs, hrest⟩ := hh
            rw [hbs] at hav
            simp only [Option.bind_eq_some_iff] at hav
            obtain ⟨r, hr, hav⟩ := hav
            cases hav
            obtain ⟨v, z1, z2⟩ := run_ld (h := .hp bs) (fun _ _ _ => ⟨R.hp hhp, hbs⟩) ht k hr
            exact ⟨v, gh, z1, R, z2⟩
          | false =>
            rw [R.nh hhp] at hav
            simp only [Option.bind_eq_some_iff] at hav
            obtain ⟨r, hr, hav⟩ := hav
            cases hav
            obtain ⟨v, z1, z2⟩ := run_ld (e := e) (h := .junk) (fun id o hx => by subst hx; simp [A.ld, A.block] at hr) ht k hr
            exact ⟨v, gh, z1, R, z2⟩
        · cases h
      · cases h
  · cases h

end
end Tr

namespace Tr
open Go

section
variable {P : Program} {F : Fm} {gh gh' : Gh} {T T' : Tags} {e e' : Env} {a : Act} {w w' : World} {o : Oper} {hn : Hn} {gd : Option (Nat × Nat × Bool)} {S : Fns} {d : Nat}

theorem tagV (R : Rel F gh T e a w) (hg : gdOn T e gd) {t : Nat} {c : CK} (htag : tagAt T gd t = .one c) (hv : c.isV = true) {av : AV} (h : (CR.c t).val e = some av) : Rep w gh.im gh.et av (tmp a t) := by
  have hrv : rdV (⟨[], [], false⟩ : Hn) T gd (.tmp t) = some (.c t, [t]) := by simp only [rdV, htag, hv, if_true]
  exact rdV_sound R hg hrv h

theorem fa_sound (R : Rel F gh T e a w) (hg : gdOn T e gd) {s : TypeId} {x : Operand} {f : Nat} (ho : o.op = .fieldAddr s x f) (hdst : o.dst = some d) (hd : d < F.n) {plan : Plan} (he : plan.dyn.ev S e some = some e')
    (h : planFa P T gd d s x f = some plan) : Good P F o a w (T.ups plan.ups) e' := by
  have hex : execOp a.eval o = (do pure (Next.value (← Instr.fieldAt s (a.eval x) f))) := by simp only [execOp, ho]
  have nop : plan.dyn = .nop → e' = e := fun hn => by rw [hn] at he; cases he; rfl
  unfold planFa at h
  simp only [Option.bind_eq_some_iff] at h
  obtain ⟨fl, hf, h⟩ := h
  split at h
  · cases h
  · rename_i hz
    split at h
    · rename_i t
      rw [eval_tmp] at hex
      split at h
      · rename_i ks htag
        obtain ⟨h1, h2⟩ := tagAt_slot R hg (t := t) (by rw [htag]; simp)
        rw [htag] at h1
        rw [← h1] at h2
        obtain ⟨B, vs, el, q1, q2, q3, q4⟩ := h2
        cases h
        have := nop rfl
        subst this
        rw [q2] at hex
        have := R.putBp (d := d) (t := t) (off := fl.offset) (g := (T t).g) (v := .pointer (some ⟨B, fl.offset, none⟩)) hg hd (Nat.le_refl _) (fun _ => ⟨B, q1, q2, rfl⟩)
        rw [set_id] at this
        refine good_value (by rw [hex]; exact run_v (run_fieldAt hf hz ⟨B, 0, none⟩)) (by rw [hdst, Addr.add_lit, Nat.zero_add]; exact this)
      · rename_i t' off g htag
        obtain ⟨h1, h2⟩ := tagAt_slot R hg (t := t) (by rw [htag]; simp)
        rw [htag] at h1
        rw [← h1] at h2
        split at h
        · rename_i hgg
          cases h
          have := nop rfl
          subst this
          obtain ⟨B, b1, b2, b3⟩ := h2 hgg
          rw [b3] at hex
          have := R.putBp (d := d) (t := t') (off := off + fl.offset) (g := g) (v := .pointer (some ⟨B, off + fl.offset, none⟩)) hg hd (Nat.le_of_eq hgg.symm) (fun _ => ⟨B, b1, b2, rfl⟩)
          rw [set_id] at this
          refine good_value (by rw [hex]; exact run_v (run_fieldAt hf hz ⟨B, off, none⟩)) (by rw [hdst, Addr.add_lit]; exact this)
        · cases h
      · rename_i t' k off g u htag
        obtain ⟨h1, h2⟩ := tagAt_slot R hg (t := t) (by rw [htag]; simp)
        rw [htag] at h1
        rw [← h1] at h2
        simp only [Option.bind_eq_some_iff] at h
        obtain ⟨y, hy, h⟩ := h
        cases h
        have := he
        simp only [Dyn.ev, Option.some.injEq] at this
        subst this
        obtain ⟨kd, i, B, len, cap, c1, c2, c3, c4, c5⟩ := h2 y hy
        rw [c5] at hex
        have hro := R.tok.ref t
        rw [← h1] at hro
        have := R.putEp (d := d) (t := t') (k := k) (off := off + fl.offset) (g := g) (u := u) (c := e t) (v := .pointer (some ⟨B, i.toNat * y.2 + (off + fl.offset), none⟩)) hg hd hro (fun y' hy' => by
          rw [hy] at hy'; cases hy'; exact ⟨kd, i, B, len, cap, c1, c2, c3, c4, rfl⟩)
        refine good_value (by rw [hex]; exact run_v (run_fieldAt hf hz ⟨B, i.toNat * y.2 + off, none⟩)) (by rw [hdst, Addr.add_lit, Nat.add_assoc]; exact this)
      · rename_i c htag
        split at h
        · rename_i hv
          refine good_rep R h hdst hd he hex fun av hav => ?_
          simp only [PX.ev, CR.ev_val, Option.bind_eq_some_iff] at hav
          obtain ⟨ax, x1, r, hr, hav⟩ := hav
          cases hav
          obtain ⟨v, z1, z2⟩ := run_fa hf hz (tagV R hg htag hv x1) hr
          exact ⟨v, gh, z1, R, z2⟩
        · cases h
      · cases h
    · cases h

theorem nilCheck_sound (R : Rel F gh T e a w) (hg : gdOn T e gd) {x : Operand} (ho : o.op = .nilCheck x) (hdst : o.dst = some d) (hd : d < F.n) {plan : Plan} (he : plan.dyn.ev S e some = some e')
    (h : (match (generalizing := false) x with
    | .tmp t => match tagAt T gd t with
      | .box _ => some { dyn := .nop, ups := [dstT T gd d (.bp t 0 (T t).g)], tr := [d, t] }
      | .bp t' off g => if (T t').g = g then some { dyn := .nop, ups := [dstT T gd d (.bp t' off g)], tr := [d, t, t'] } else none
      | .one c => if c.isV then set1 T gd d (.nilc (.c t)) vT [] [t] else none
      | _ => none
    | _ => none) = some plan) : Good P F o a w (T.ups plan.ups) e' := by
  have nop : plan.dyn = .nop → e' = e := fun hn => by rw [hn] at he; cases he; rfl
  have ptr : ∀ {ad : Addr}, a.eval x = .pointer (some ad) → (execOp a.eval o).run P w = .ok (.value (.pointer (some ad))) w := fun h => by
    simp [execOp, ho, h]
  have hx : ∃ t, x = .tmp t := by cases x <;> first | exact ⟨_, rfl⟩ | cases h
  obtain ⟨t, rfl⟩ := hx
  simp only at h
  · rw [eval_tmp] at ptr
    split at h
    · rename_i ks htag
      obtain ⟨h1, h2⟩ := tagAt_slot R hg (t := t) (by rw [htag]; simp)
      rw [htag] at h1
      rw [← h1] at h2
      obtain ⟨B, vs, el, q1, q2, q3, q4⟩ := h2
      cases h
      have := nop rfl
      subst this
      have := R.putBp (d := d) (t := t) (off := 0) (g := (T t).g) (v := .pointer (some ⟨B, 0, none⟩)) hg hd (Nat.le_refl _) (fun _ => ⟨B, q1, q2, rfl⟩)
      rw [set_id] at this
      exact good_value (ptr q2) (by rw [hdst]; exact this)
    · rename_i t' off g htag
      obtain ⟨h1, h2⟩ := tagAt_slot R hg (t := t) (by rw [htag]; simp)
      rw [htag] at h1
      rw [← h1] at h2
      split at h
      · rename_i hgg
        cases h
        have := nop rfl
        subst this
        obtain ⟨B, b1, b2, b3⟩ := h2 hgg
        have := R.putBp (d := d) (t := t') (off := off) (g := g) (v := .pointer (some ⟨B, off, none⟩)) hg hd (Nat.le_of_eq hgg.symm) (fun _ => ⟨B, b1, b2, rfl⟩)
        rw [set_id] at this
        exact good_value (ptr b3) (by rw [hdst]; exact this)
      · cases h
    · rename_i c htag
      split at h
      · rename_i hv
        refine good_v h hdst hd he fun av hav => ?_
        simp only [PX.ev, CR.ev_val, Option.bind_eq_some_iff] at hav
        obtain ⟨ax, x1, r, hr, hav⟩ := hav
        cases hav
        have k := tagV R hg htag hv x1
        obtain ⟨rfl, ad, hk⟩ := run_nilc hr k
        exact ⟨_, gh, ptr hk, R, by rw [← hk]; exact k⟩
      · cases h
    · cases h

theorem indexAddr_sound (R : Rel F gh T e a w) (hg : gdOn T e gd) {t : TypeId} {x i : Operand} (ho : o.op = .indexAddr t x i) (hdst : o.dst = some d) (hd : d < F.n) {plan : Plan} (he : plan.dyn.ev S e some = some e')
    (h : ((elemT P t).bind fun e => (rdO hn T gd i).bind fun i => if szOf P e = 0 then none else
    match x with
    | .tmp s => match tagAt T gd s with
      | .one c => match c.k with
        | .v => set1 T gd d (.elp (szOf P e) (.c s) i.1) vT [] (s :: i.2)
        | .own e' z => if z = szOf P e then set1 T gd d (.inb (.c s) i.1) (.ep s 0 0 (T s).g c.u) [] (s :: i.2) else none
        | .dead => none
      | .al t' k g u => (alOk T t' k g u).bind fun y => if y.2 = szOf P e then set1 T gd d (.inb (crAt T t' k) i.1) (.ep t' k 0 g u) [] ([s, t'] ++ i.2) else none
      | _ => none
    | _ => none) = some plan) : Good P F o a w (T.ups plan.ups) e' := by
  have hex : execOp a.eval o = (do pure (Next.value (← Instr.indexAt t (a.eval x) (a.eval i)))) := by simp only [execOp, ho]
  simp only [Option.bind_eq_some_iff] at h
  obtain ⟨el, hel, ri, hi, h⟩ := h
  have hel := elemT_spec hel
  split at h
  · cases h
  · rename_i hz
    -- a place in an own slice
    have own : ∀ {cr : CR} {t' k g u : Nat} {y : Nat × Nat} {tr : List Nat}, alOk T t' k g u = some y → y.2 = szOf P el → RefOk T (.al t' k g u) → cr = crAt T t' k → (∀ hv, hdr w a (T t').tag t' k = some hv → a.eval x = hv) →
        set1 T gd d (.inb cr ri.1) (.ep t' k 0 g u) [] tr = some plan → Good P F o a w (T.ups plan.ups) e' := by
      intro cr t' k g u y tr hy hyz hro hcr hxe hs
      obtain ⟨av, h1, rfl, h3⟩ := set1_g hs he
      obtain ⟨hx, hv, p1, p2, p3⟩ := alOk_own R hy
      subst hcr
      simp only [PX.ev, CR.ev_val, p1, Option.bind_some, Option.bind_eq_some_iff] at h1
      obtain ⟨ai, i1, r, hr, hav⟩ := h1
      cases hav
      have ki := rdO_sound R hg hi i1
      unfold A.inb at hr
      simp only [Option.bind_eq_some_iff] at hr
      obtain ⟨xs, hxs, ae, hae, hr⟩ := hr
      cases hr
      obtain ⟨kd, n, rfl, h0, hlt, hget⟩ := at_spec hae
      have hxx : hx = .sl xs := by
        obtain ⟨xs', _, hx', _⟩ := p3
        rcases hx' with ⟨rfl, _⟩ | ⟨rfl, rfl, _⟩
        · simp [A.els] at hxs
          rw [hxs]
        · simp [A.els] at hxs
          subst hxs
          simp at hlt
      subst hxx
      obtain ⟨B, len, cap, us, c1, c2, c3, _⟩ := own_elem p3 hget
      have hix := run_indexAt (P := P) (w := w) hel hz (a := ⟨B, 0, none⟩) (len := len) (cap := cap) (k := kd) (n := n) h0 (by omega)
      have hie : a.eval i = .int kd n := by
        revert ki
        generalize a.eval i = vi
        intro ki
        cases ki
        rfl
      rw [hxe hv p2, c1, hie] at hex
      have := R.putEp (d := d) (t := t') (k := k) (off := 0) (g := g) (u := u) (c := [.int kd n]) (v := .pointer (some ⟨B, n.toNat * y.2 + 0, none⟩)) hg hd hro (fun y' hy' => by
          rw [hy] at hy'; cases hy'; exact ⟨kd, n, B, len, cap, rfl, by rw [p2, c1], h0, by omega, rfl⟩)
      rw [h3]
      refine good_value (by rw [hex]; exact run_v hix) (by
        rw [hdst, Addr.add_lit, Nat.zero_add]
        have e0 : n.toNat * y.2 + 0 = n.toNat * P.cellsOf el := by rw [hyz]; rfl
        rw [e0] at this
        exact this)
    split at h
    · rename_i s
      split at h
      · rename_i c htag
        obtain ⟨h1, h2⟩ := tagAt_slot R hg (t := s) (by rw [htag]; simp)
        rw [htag] at h1
        rw [← h1] at h2
        split at h
        · rename_i hk
          refine good_rep R h hdst hd he hex fun av hav => ?_
          simp only [PX.ev, CR.ev_val, Option.bind_eq_some_iff] at hav
          obtain ⟨ax, x1, ai, i1, r, hr, hav⟩ := hav
          cases hav
          obtain ⟨v, z1, z2⟩ := run_elp hel hz (tagV R hg htag (by simp [CK.isV, hk, CKd.isV]) x1) (rdO_sound R hg hi i1) hr
          exact ⟨v, gh, z1, R, z2⟩
        · rename_i ee zz hk
          split at h
          · rename_i hzz
            have hck : (T s).tag.ck 0 = some ⟨c.u, .own ee zz⟩ := by rw [← h1, ← hk]; rfl
            exact own (y := (ee, zz)) (alOk_mk rfl hck) hzz (refOk_own R hck) (by unfold crAt; rw [← h1]) (fun hv hh => by rw [← h1] at hh; simp only [hdr, if_true, Option.some.injEq] at hh; rw [eval_tmp]; exact hh) h
          · cases h
        · cases h
      · rename_i t' k g u htag
        obtain ⟨h1, h2⟩ := tagAt_slot R hg (t := s) (by rw [htag]; simp)
        rw [htag] at h1
        rw [← h1] at h2
        simp only [Option.bind_eq_some_iff] at h
        obtain ⟨y, hy, h⟩ := h
        split at h
        · rename_i hzz
          have hro := R.tok.ref s
          rw [← h1] at hro
          refine own (y := y) hy hzz hro rfl (fun hv hh => ?_) h
          have := h2 y hy
          rw [this] at hh
          cases hh
          rfl
        · cases h
      · cases h
    · cases h

theorem index_sound (R : Rel F gh T e a w) (hg : gdOn T e gd) {t : TypeId} {x i : Operand} (ho : o.op = .index t x i) (hdst : o.dst = some d) (hd : d < F.n) {plan : Plan} (he : plan.dyn.ev S e some = some e')
    (h : (if isStr P t then (rdO hn T gd x).bind fun x => (rdO hn T gd i).bind fun i => set1 T gd d (.idx x.1 i.1) vT [] (x.2 ++ i.2) else none) = some plan) : Good P F o a w (T.ups plan.ups) e' := by
  split at h
  · rename_i hs
    simp only [Option.bind_eq_some_iff] at h
    obtain ⟨rx, hx, ri, hi, h⟩ := h
    refine good_sc R h hdst hd he (s := Instr.index t (a.eval x) (a.eval i)) (by simp only [execOp, ho]) fun av hav => ?_
    simp only [PX.ev, CR.ev_val, Option.bind_eq_some_iff] at hav
    obtain ⟨ax, x1, ai, i1, r, hr, hav⟩ := hav
    cases hav
    exact run_idx hs (rdO_sound R hg hx x1) (rdO_sound R hg hi i1) hr
  · cases h

theorem lowHigh_sound (R : Rel F gh T e a w) (hg : gdOn T e gd) {x : Option Operand} {r : Option CR × List Nat} (h : lowHigh hn T gd x = some r) {av : Option AV} (hv : valOpt e r.1 = some av) : RdOpt w gh av (x.map a.eval) := by
  cases x with
  | none => cases h; cases hv; exact .none
  | some x =>
    simp only [lowHigh, Option.bind_eq_some_iff] at h
    obtain ⟨q, hq, h⟩ := h
    cases h
    simp only [valOpt, Option.bind_eq_some_iff] at hv
    obtain ⟨z, hz, hv⟩ := hv
    cases hv
    exact .some z _ (rdO_sound R hg hq hz)

theorem RdOpt.gs (G : GS gh gh') {x : Option AV} {v : Option Value} (h : RdOpt w gh x v) : RdOpt w gh' x v := by
  cases h with
  | none => exact .none
  | some x v h => exact .some x v (by unfold Rd at h ⊢; rw [G.et]; exact h)

theorem slice_sound (R : Rel F gh T e a w) (hg : gdOn T e gd) {t : TypeId} {x : Operand} {lo hi mx : Option Operand} (ho : o.op = .slice t x lo hi mx) (hdst : o.dst = some d) (hd : d < F.n) {plan : Plan} (he : plan.dyn.ev S e some = some e')
    (h : (if mx.isSome then none else
    (useO hn T gd x).bind fun r => (lowHigh hn T gd lo).bind fun l => (lowHigh hn T gd hi).bind fun h =>
    match P.underlying t with
    | some .string => set1 T gd d (.sub true 1 r.1 l.1 h.1) vT r.2.1 (r.2.2 ++ l.2 ++ h.2)
    | some (.slice e) => if szOf P e = 0 then none else set1 T gd d (.sub false (szOf P e) r.1 l.1 h.1) vT r.2.1 (r.2.2 ++ l.2 ++ h.2)
    | _ => none) = some plan) : Good P F o a w (T.ups plan.ups) e' := by
  split at h
  · cases h
  · rename_i hmx
    have hmx : mx = none := by simpa using hmx
    subst hmx
    have hex : execOp a.eval o = (do pure (Next.value (← Instr.sliceAt t (a.eval x) (lo.map a.eval) (hi.map a.eval) none))) := by simp only [execOp, ho, Option.map_none]
    simp only [Option.bind_eq_some_iff] at h
    obtain ⟨rx, hx, rl, hl, rh, hh, h⟩ := h
    split at h
    · rename_i hs
      refine good_rep R h hdst hd he hex fun av hav => ?_
      simp only [PX.ev, CR.ev_val, evOpt_val, Option.bind_eq_some_iff] at hav
      obtain ⟨ax, x1, al, l1, ah, h1, r, hr, hav⟩ := hav
      cases hav
      obtain ⟨gh', g1, g2, g3⟩ := useO_sound R hg hx x1
      obtain ⟨v, z1, z2⟩ := run_sub_str hs g3 (lowHigh_sound R hg hl l1) (lowHigh_sound R hg hh h1) hr
      exact ⟨v, gh', z1, g2, z2 _ _ _⟩
    · rename_i el hs
      split at h
      · cases h
      · rename_i hz
        refine good_rep R h hdst hd he hex fun av hav => ?_
        simp only [PX.ev, CR.ev_val, evOpt_val, Option.bind_eq_some_iff] at hav
        obtain ⟨ax, x1, al, l1, ah, h1, r, hr, hav⟩ := hav
        cases hav
        obtain ⟨gh', g1, g2, g3⟩ := useO_sound R hg hx x1
        obtain ⟨v, z1, z2⟩ := run_sub_sl hs hz g3 (lowHigh_sound R hg hl l1) (lowHigh_sound R hg hh h1) hr
        exact ⟨v, gh', z1, g2, z2⟩
    · cases h

theorem field_sound (R : Rel F gh T e a w) (hg : gdOn T e gd) {s : TypeId} {x : Operand} {f : Nat} (ho : o.op = .field s x f) (hdst : o.dst = some d) (hd : d < F.n) {plan : Plan} (he : plan.dyn.ev S e some = some e')
    (h : ((fieldOf P s f).bind fun fl => (rdV hn T gd x).bind fun r => if !okT P fl.type ∨ szOf P fl.type = 0 then none else
    set1 T gd d (.fld (isAg P fl.type) fl.offset (szOf P fl.type) r.1) vT [] r.2) = some plan) : Good P F o a w (T.ups plan.ups) e' := by
  simp only [Option.bind_eq_some_iff] at h
  obtain ⟨fl, hf, rx, hx, h⟩ := h
  split at h
  · cases h
  · rename_i hc
    simp only [not_or, Bool.not_eq_true', Bool.not_eq_false] at hc
    refine good_rep R h hdst hd he (s := Instr.field s (a.eval x) f) (by simp only [execOp, ho]) fun av hav => ?_
    simp only [PX.ev, CR.ev_val, Option.bind_eq_some_iff] at hav
    obtain ⟨ax, x1, r, hr, hav⟩ := hav
    cases hav
    obtain ⟨v, z1, z2⟩ := run_field hf hc.1 hc.2 (rdV_sound R hg hx x1) hr
    exact ⟨v, gh, z1, R, z2⟩

end
end Tr

namespace Tr
open Go

section
variable {P : Program} {F : Fm} {gh gh' : Gh} {T T' : Tags} {e e' : Env} {a : Act} {w w' : World} {o : Oper} {hn : Hn} {gd : Option (Nat × Nat × Bool)} {S : Fns} {d : Nat}

theorem Base.row {B : Nat} {key : Key} (h : Base F gh w) (ho : gh.ow B = some key) (cs : Array Value) : Base F gh (w.setRow B cs) := by
  refine ⟨by simpa using h.sz, fun b hb hO => ?_, fun b k hk => by simpa using h.owned b k hk, fun b hb => by simpa using h.imm b hb, h.im0, h.et, h.et2, h.st⟩
  rw [← h.keep b hb hO]
  refine setRow_other w B b cs (fun e => ?_)
  subst e
  rcases (h.owned b key ho).1 with h1 | h1
  · exact hO h1
  · omega

theorem Pers.row {B : Nat} {key : Key} (h : Base F gh w) (ho : gh.ow B = some key) (cs : Array Value) : Pers gh gh w (w.setRow B cs) (fun k => k ≠ key) := by
  refine ⟨⟨fun _ h => h, fun b hb => setRow_other w B b cs (fun e => ?_), fun _ _ h => h⟩, fun b k hk hne => ⟨hk, setRow_other w B b cs (fun e => ?_)⟩⟩
  · subst e; have := (h.imm b hb).1; rw [ho] at this; cases this
  · subst e; rw [ho] at hk; cases hk; exact hne rfl

/-- Cells stored into a box. -/
theorem Rel.storeBox (R : Rel F gh T e a w) {b off : Nat} {ks ks2 : List CK} (htag : (T b).tag = .box ks) {B : Nat} {vs : List Value} {el : TypeId} (q1 : gh.ow B = some (.box b)) (q2 : tmp a b = .pointer (some ⟨B, 0, none⟩))
    (q3 : w.heap[B]? = some (.cells vs.toArray el (0, 0))) (q4 : CellsOk w gh (.own b 0) (ks.map CK.k) (e b) vs) {ns : List CKd} {m : List AV} {us : List Value} (hp : CellsOk w gh (.arg 0) ns m us) (hle : off + ns.length ≤ ks.length)
    (hk2 : ks2.map CK.k = (ks.map CK.k).take off ++ ns ++ (ks.map CK.k).drop (off + ns.length))
    (hu2 : ∀ (k : Nat) (c' : CK), ks2[k]? = some c' → ∃ c, ks[k]? = some c ∧ c.u ≤ c'.u ∧ ((k < off ∨ off + ns.length ≤ k) ∨ c.u < c'.u ∨ c'.k = .v)) :
    ∃ gh', Rel F gh' (T.up b ⟨(T b).g, .box ks2, (T b).gd⟩) (e.set b (A.splice (e b) off m)) a (w.setRow B (vs.take off ++ us ++ vs.drop (off + us.length)).toArray) := by
  let ρ : Key → Option Key := fun key => match key with | .arg i j => if i = 0 then some (.own b 0 (off + j)) else some (.arg i j) | key => some key
  have hρ : ∀ key, (∀ i j, key ≠ .arg i j) → ρ key = some key := fun key hk => by cases key <;> first | rfl | exact absurd rfl (hk _ _)
  have R1 : Rel F (gh.ren ρ) T e a w := R.world (R.base.ren ρ) (Pers.ren gh w ρ (fun key => ∀ i j, key ≠ .arg i j) hρ) rfl (fun _ _ _ h => by cases h) (fun _ _ _ _ _ h => by cases h) (fun _ _ _ _ h => by cases h)
  have o1 : (gh.ren ρ).ow B = some (.box b) := by simp [Gh.ren, q1, ρ]
  have c1 : CellsOk w (gh.ren ρ) (.own b 0) (ks.map CK.k) (e b) vs := q4.rename (fun k => rfl)
  have c2 : CellsOk w (gh.ren ρ) (fun j => .own b 0 (off + j)) ns m us := hp.rename (fun k => by simp [ρ])
  have c3 := c1.splice (off := off) c2 (by simpa using hle)
  rw [← hk2] at c3
  have hus : us.length = ns.length := hp.2.1
  have hvl : vs.length = ks.length := by have := q4.2.1; simpa using this
  have Pr := Pers.row R1.base o1 (vs.take off ++ us ++ vs.drop (off + us.length)).toArray
  have hbn : b < F.n := R.lt (by rw [htag]; simp)
  have hgd := R.tok.ck b (by rw [htag]; rfl)
  have hl2 : ks2.length = ks.length := by have := congrArg List.length hk2; simp at this; omega
  refine ⟨_, R1.step b ⟨(T b).g, .box ks2, (T b).gd⟩ _ hbn R.n R.df (fun _ _ => rfl) (R1.base.row o1 _) Pr (fun s hs h => hs (by cases h; rfl)) (fun s i k hs h => by cases h)
    (.inr ⟨rfl, fun k c' hc => ?_⟩) trivial (fun s g b' h => by rw [hgd] at h; cases h) (fun _ => hgd) (fun _ h => by cases h) (fun k u y _ hub hy => ?_) (fun _ => ⟨rfl, fun B' hB => hB⟩) (fun _ => ?_) (fun hh => ?_)⟩
  · obtain ⟨c, h1, h2, _⟩ := hu2 k c' hc
    exact ⟨c, by rw [htag]; exact h1, h2⟩
  · obtain ⟨_, hck⟩ := alOk_g hy
    rw [up_same] at hck
    have hck2 : ks2[k]? = some ⟨u, .own y.1 y.2⟩ := hck
    obtain ⟨c, h1, h2, h3⟩ := hu2 k _ hck2
    have hcu := hub c (by rw [htag]; exact h1)
    have hout : k < off ∨ off + ns.length ≤ k := by
      rcases h3 with h3 | h3 | h3
      · exact h3
      · simp only at h3; omega
      · cases h3
    have hkk : (ks2.map CK.k)[k]? = (ks.map CK.k)[k]? := by
      rw [hk2]
      rcases hout with ho | ho
      · rw [List.append_assoc, List.getElem?_append_left (by simp; omega), List.getElem?_take, if_pos ho]
      · rw [List.getElem?_append_right (by simp; omega), List.getElem?_drop]
        congr 1; simp; omega
    have hcc : c = ⟨u, .own y.1 y.2⟩ := by
      simp only [List.getElem?_map, hck2, h1, Option.map_some, Option.some.injEq] at hkk
      cases c
      simp only at hkk h2 hcu
      simp only [CK.mk.injEq]
      exact ⟨by omega, hkk.symm⟩
    refine ⟨alOk_mk rfl (by rw [htag, ← hcc]; exact h1), ?_⟩
    rw [htag]
    simp only [hdr, q2, Addr.add_lit, Nat.zero_add]
    rw [cell_of_row w B k _ el (0, 0) q3, cell_of_row _ B k _ el (0, 0) (setRow_heap w B _ _ el _ q3)]
    simp only [List.getElem?_toArray]
    rcases hout with ho | ho
    · rw [List.append_assoc, List.getElem?_append_left (by simp; omega), List.getElem?_take, if_pos ho]
    · rw [List.getElem?_append_right (by simp; omega), List.getElem?_drop]
      congr 1; simp; omega
  · refine ⟨B, _, el, o1, q2, setRow_heap w B _ _ el _ q3, ?_⟩
    rw [set_same]
    exact c3.mono Pr (fun k h => by cases h)
  · exact (R1.hp hh).monoK Pr (fun i h => by cases h) (set_other _ _ _ _ (by have := R.le; omega)) rfl

theorem putKs_get : ∀ (ks : List CK) (off : Nat) (ns : List CKd) (k : Nat) (c' : CK), off + ns.length ≤ ks.length → (putKs ks off ns)[k]? = some c' →
    ∃ c, ks[k]? = some c ∧ c.u ≤ c'.u ∧ ((k < off ∨ off + ns.length ≤ k) ∨ c.u < c'.u ∨ c'.k = .v) := by
  have key : ∀ (l : List CK) (ns : List CKd) (k : Nat) (c' : CK), ns.length ≤ l.length → (newKs l ns)[k]? = some c' → ∃ c, l[k]? = some c ∧ c.u ≤ c'.u ∧ (ns.length ≤ k ∨ c.u < c'.u) := by
    intro l
    induction l with
    | nil => intro ns k c' h1 h2; have : ns = [] := List.eq_nil_of_length_eq_zero (by simpa using h1); subst this; simp [newKs] at h2
    | cons c l ih =>
      intro ns k c' h1 h2
      cases ns with
      | nil => simp [newKs] at h2; exact ⟨c', h2, Nat.le_refl _, .inl (Nat.zero_le _)⟩
      | cons n ns =>
        cases k with
        | zero => simp [newKs] at h2; subst h2; exact ⟨c, rfl, by simp, .inr (by simp)⟩
        | succ k =>
          simp [newKs] at h2
          obtain ⟨c0, p1, p2, p3⟩ := ih ns k c' (by simpa using h1) h2
          exact ⟨c0, by simpa using p1, p2, by rcases p3 with p3 | p3; exact .inl (by simpa using p3); exact .inr p3⟩
  intro ks off ns k c' h1 h2
  unfold putKs at h2
  by_cases hk : k < off
  · rw [List.getElem?_append_left (by simp; omega), List.getElem?_take, if_pos hk] at h2
    exact ⟨c', h2, Nat.le_refl _, .inl (.inl hk)⟩
  · rw [List.getElem?_append_right (by simp; omega)] at h2
    have e1 : (ks.take off).length = off := by simp; omega
    rw [e1] at h2
    obtain ⟨c, p1, p2, p3⟩ := key _ _ _ _ (by simp; omega) h2
    rw [List.getElem?_drop] at p1
    have e2 : off + (k - off) = k := by omega
    rw [e2] at p1
    refine ⟨c, p1, p2, ?_⟩
    rcases p3 with p3 | p3
    · exact .inl (.inr (by omega))
    · exact .inr (.inl p3)

theorem Rel.storePut (R : Rel F gh T e a w) {b off : Nat} {ks : List CK} (htag : (T b).tag = .box ks) {B : Nat} {vs : List Value} {el : TypeId} (q1 : gh.ow B = some (.box b)) (q2 : tmp a b = .pointer (some ⟨B, 0, none⟩))
    (q3 : w.heap[B]? = some (.cells vs.toArray el (0, 0))) (q4 : CellsOk w gh (.own b 0) (ks.map CK.k) (e b) vs) {ns : List CKd} {m : List AV} {us : List Value} (hp : CellsOk w gh (.arg 0) ns m us) (hle : off + ns.length ≤ ks.length) :
    ∃ gh', Rel F gh' (T.up b ⟨(T b).g, .box (putKs ks off ns), (T b).gd⟩) (e.set b (A.splice (e b) off m)) a (w.setRow B (vs.take off ++ us ++ vs.drop (off + us.length)).toArray) :=
  R.storeBox htag q1 q2 q3 q4 hp hle (putKs_k ks off ns hle) (fun k c' hc => putKs_get ks off ns k c' hle hc)

theorem up_id {b : Nat} {ks : List CK} (htag : (T b).tag = .box ks) : T.up b ⟨(T b).g, .box ks, (T b).gd⟩ = T := by
  funext s
  by_cases h : s = b
  · subst h; rw [up_same, ← htag]
  · rw [up_other _ _ _ _ h]

/-- What nobody owns, stored where nobody owns. -/
theorem Rel.storeV (R : Rel F gh T e a w) {b off : Nat} {ks : List CK} (htag : (T b).tag = .box ks) {B : Nat} {vs : List Value} {el : TypeId} (q1 : gh.ow B = some (.box b)) (q2 : tmp a b = .pointer (some ⟨B, 0, none⟩))
    (q3 : w.heap[B]? = some (.cells vs.toArray el (0, 0))) (q4 : CellsOk w gh (.own b 0) (ks.map CK.k) (e b) vs) {n : Nat} {m : List AV} {us : List Value} (hm : RepL w gh.im gh.et m us) (h1 : ∀ u ∈ us, u.oneCell' = true) (hmn : m.length = n) (hle : off + n ≤ ks.length) :
    ∃ gh', Rel F gh' (T.ups (if allV ((ks.drop off).take n) then [] else [(b, ⟨(T b).g, .box (putKs ks off (List.replicate n .v)), (T b).gd⟩)])) (e.set b (A.splice (e b) off m)) a (w.setRow B (vs.take off ++ us ++ vs.drop (off + us.length)).toArray) := by
  subst hmn
  split
  · rename_i hall
    have := R.storeBox (ks2 := ks) htag q1 q2 q3 q4 (cells_v hm h1) (by simpa using hle) (by
      have e1 : ((ks.map CK.k).drop off).take m.length = List.replicate m.length .v := by
        apply List.ext_getElem?
        intro i
        rw [List.getElem?_replicate]
        split
        · rename_i hi
          rw [List.getElem?_take, if_pos hi, List.getElem?_drop, List.getElem?_map]
          have hlt : off + i < ks.length := by omega
          rw [List.getElem?_eq_getElem hlt]
          have := List.all_eq_true.1 hall ks[off + i] (List.mem_of_getElem? (i := i) (by rw [List.getElem?_take, if_pos hi, List.getElem?_drop, List.getElem?_eq_getElem hlt]))
          simp only [CK.isV] at this
          cases hq : ks[off + i].k <;> rw [hq] at this <;> first | (simp [hq]; done) | cases this
        · rename_i hi
          rw [List.getElem?_take, if_neg hi]
      rw [← e1, List.length_take, List.length_drop, List.length_map]
      have e2 : min m.length (ks.length - off) = m.length := by omega
      rw [e2, List.append_assoc, ← List.drop_drop, List.take_append_drop, List.take_append_drop]) (fun k c' hc => by
        refine ⟨c', hc, Nat.le_refl _, ?_⟩
        by_cases ho : k < off ∨ off + (List.replicate m.length CKd.v).length ≤ k
        · exact .inl ho
        · simp only [List.length_replicate, not_or, Nat.not_lt, Nat.not_le] at ho
          have := List.all_eq_true.1 hall c' (List.mem_of_getElem? (i := k - off) (by rw [List.getElem?_take, if_pos (by omega), List.getElem?_drop]; rw [show off + (k - off) = k by omega]; exact hc))
          simp only [CK.isV] at this
          cases hq : c'.k <;> rw [hq] at this <;> first | exact .inr (.inr rfl) | cases this)
    rw [up_id htag] at this
    exact this
  · exact R.storePut htag q1 q2 q3 q4 (cells_v hm h1) (by simpa using hle)

theorem act_put_none (a : Act) (v : Value) : a.put none v = a := rfl

theorem useO_tag {x : Operand} {cr : CR} {ups : List (Nat × Tg)} {tr : List Nat} (h : useO hn T gd x = some (cr, ups, tr)) (b : Nat) {ks : List CK} (hb : (T b).tag = .box ks) :
    ∃ ks', ((T.ups ups) b).tag = .box ks' ∧ ks'.length = ks.length := by
  have keep : ∀ (t : Nat) (y : Tg), (y.tag = .box ks → True) → (t = b → ∃ ks', y.tag = .box ks' ∧ ks'.length = ks.length) → ∃ ks', ((T.up t y) b).tag = .box ks' ∧ ks'.length = ks.length := fun t y _ h => by
    by_cases e : b = t
    · subst e; rw [up_same]; exact h rfl
    · rw [up_other _ _ _ _ e]; exact ⟨ks, hb, rfl⟩
  unfold useO at h
  repeat' split at h
  all_goals first
    | (cases h; exact ⟨ks, hb, rfl⟩)
    | (cases h; refine keep _ _ (fun _ => trivial) (fun e => ?_); subst e; rename_i htag _ _ _ _; rw [tagAt_tag htag (by simp)] at hb; cases hb)
    | (cases h; refine keep _ _ (fun _ => trivial) (fun e => ?_); subst e; rename_i htag _; rw [tagAt_tag htag (by simp)] at hb; cases hb)
    | (simp only [Option.bind_eq_some_iff] at h; obtain ⟨_, _, h⟩ := h; cases h; refine keep _ _ (fun _ => trivial) (fun e => ?_); subst e; rw [hb]; exact ⟨_, rfl, by simp⟩)
    | (simp only [Option.bind_eq_some_iff] at h; obtain ⟨_, _, h⟩ := h; cases h; exact ⟨ks, hb, rfl⟩)
    | (cases h)

theorem takeO_tag {ee ss : Nat} {x : Operand} {cr : CR} {ups : List (Nat × Tg)} {tr : List Nat} (h : takeO T gd ee ss x = some (cr, ups, tr)) (b : Nat) {ks : List CK} (hb : (T b).tag = .box ks) :
    ∃ ks', ((T.ups ups) b).tag = .box ks' ∧ ks'.length = ks.length := by
  have keep : ∀ (t : Nat) (y : Tg), (t = b → ∃ ks', y.tag = .box ks' ∧ ks'.length = ks.length) → ∃ ks', ((T.up t y) b).tag = .box ks' ∧ ks'.length = ks.length := fun t y h => by
    by_cases e : b = t
    · subst e; rw [up_same]; exact h rfl
    · rw [up_other _ _ _ _ e]; exact ⟨ks, hb, rfl⟩
  unfold takeO at h
  repeat' split at h
  all_goals first
    | (cases h; exact ⟨ks, hb, rfl⟩)
    | (cases h; refine keep _ _ (fun e => ?_); subst e; rename_i htag _ _ _ _ _; rw [tagAt_tag htag (by simp)] at hb; cases hb)
    | (simp only [Option.bind_eq_some_iff] at h; obtain ⟨_, _, h⟩ := h; split at h <;> first | (cases h; refine keep _ _ (fun e => ?_); subst e; rw [hb]; exact ⟨_, rfl, by simp⟩) | cases h)
    | (cases h)

end
end Tr

namespace Tr
open Go

section
variable {P : Program} {F : Fm} {gh gh' : Gh} {T T' : Tags} {e e' : Env} {a : Act} {w w' : World} {o : Oper} {hn : Hn} {gd : Option (Nat × Nat × Bool)} {S : Fns} {d : Nat}

theorem one_spec {x av : AV} (h : A.one x = some av) : av = x ∧ A.cs false x = some [x] := by
  cases x <;> simp [A.one] at h <;> first | exact ⟨h.symm, rfl⟩

theorem splice_one (c : List AV) (off : Nat) (x : AV) (h : off < c.length) : A.splice c off [x] = c.set off x := by
  unfold A.splice
  rw [List.set_eq_take_append_cons_drop, if_pos h]
  simp

theorem splice_all (c m : List AV) (h : m.length = c.length) : A.splice c 0 m = m := by
  unfold A.splice
  simp [h]

theorem box_slot (R : Rel F gh T e a w) {b : Nat} {ks : List CK} (htag : (T b).tag = .box ks) : ∃ B vs el, gh.ow B = some (.box b) ∧ tmp a b = .pointer (some ⟨B, 0, none⟩) ∧ w.heap[B]? = some (.cells vs.toArray el (0, 0)) ∧ CellsOk w gh (.own b 0) (ks.map CK.k) (e b) vs := by
  have hs := R.slot b (by rw [R.tok.ck b (by rw [htag]; rfl)]; trivial)
  rw [htag] at hs
  exact hs

/-- The own memory's blocks change. -/
theorem Rel.heapStep (R : Rel F gh T e a w) {K : Key → Prop} {c : List AV} (hhp : F.hp = true) (hb : Base F gh' w') (Pr : Pers gh gh' w w' K) (k1 : ∀ t, K (.box t)) (k2 : ∀ t i k, K (.own t i k)) (hh : HeapOk w' gh' (e.set HS c)) :
    Rel F gh' T (e.set HS c) a w' := by
  have big : ∀ s, HS ≤ s → (T s).tag = .dead := fun s hs => R.tok.big s (Nat.le_trans R.le hs)
  refine ⟨hb, R.tok, R.n, R.le, R.df, fun s hgs => ?_, fun _ => hh, fun h => by rw [hhp] at h; cases h⟩
  by_cases hs : s = HS
  · subst hs; rw [big _ (Nat.le_refl _)]; trivial
  · have hgs' : gdOn T e (T s).gd := by
      cases hq : (T s).gd with
      | none => trivial
      | some q =>
        obtain ⟨s', g, b⟩ := q
        rw [hq] at hgs
        obtain ⟨h1, h2, h3⟩ := hgs
        refine ⟨h1, ?_, h3⟩
        by_cases e' : s' = HS
        · subst e'; rw [big _ (Nat.le_refl _)] at h3; cases h3
        · rw [set_other _ _ _ _ e'] at h2; exact h2
    refine SlotOk.mono Pr (k1 s) (k2 s) (set_other _ _ _ _ hs) rfl ?_ ?_ (R.slot s hgs')
    · intro t' k g u y _ hy; exact ⟨hy, R.hdr_keep Pr hy (k1 t') rfl⟩
    · intro t' off g _ hg; exact ⟨hg, rfl, fun B hB => (Pr.keep B _ hB (k1 t')).1⟩

/-- A header is the same, whatever is settled. -/
theorem hdr_same (R : Rel F gh T e a w) (R' : Rel F gh' T' e a w) {t k g u g' u' : Nat} {y y' : Nat × Nat} (hy : alOk T t k g u = some y) (hy' : alOk T' t k g' u' = some y') :
    hdr w a (T' t).tag t k = hdr w a (T t).tag t k ∧ crAt T' t k = crAt T t k ∧ isBx (T' t).tag = isBx (T t).tag := by
  have shape : ∀ {gh : Gh} {T : Tags}, Rel F gh T e a w → ∀ {g u : Nat} {y : Nat × Nat}, alOk T t k g u = some y →
      ((∃ c, (T t).tag = .one c) ∧ ∃ b l c, tmp a t = .slice b l c) ∨ ((∃ ks, (T t).tag = .agg ks) ∧ ∃ vs, tmp a t = .agg vs) ∨ ((∃ ks, (T t).tag = .box ks) ∧ ∃ ad, tmp a t = .pointer ad) := by
    intro gh T R g u y hy
    obtain ⟨_, hc⟩ := alOk_g hy
    have hs := R.slot t (by rw [R.tok.ck t (Tag.holds_ck hc)]; trivial)
    cases htag : (T t).tag with
    | one c =>
      rw [htag] at hs hc
      obtain ⟨x, _, ho⟩ := hs
      refine .inl ⟨⟨c, rfl⟩, ?_⟩
      cases k with
      | zero =>
        simp only [Tag.ck, Option.some.injEq] at hc
        subst hc
        obtain ⟨xs, vs, _, ho, _⟩ := ho
        rcases ho.2 with ⟨h, _⟩ | ⟨g, cap, cur, h, _⟩ <;> exact ⟨_, _, _, h⟩
      | succ k => simp [Tag.ck] at hc
    | agg ks => rw [htag] at hs; obtain ⟨vs, hv, _⟩ := hs; exact .inr (.inl ⟨⟨ks, rfl⟩, _, hv⟩)
    | box ks => rw [htag] at hs; obtain ⟨B, vs, el, _, hv, _⟩ := hs; exact .inr (.inr ⟨⟨ks, rfl⟩, _, hv⟩)
    | _ => rw [htag] at hc; simp [Tag.ck] at hc
  rcases shape R hy with ⟨⟨c, h1⟩, b, l, cp, v1⟩ | ⟨⟨c, h1⟩, vs, v1⟩ | ⟨⟨c, h1⟩, ad, v1⟩ <;> rcases shape R' hy' with ⟨⟨c', h2⟩, b', l', cp', v2⟩ | ⟨⟨c', h2⟩, vs', v2⟩ | ⟨⟨c', h2⟩, ad', v2⟩ <;>
    first | (unfold crAt; rw [h1, h2]; exact ⟨rfl, rfl, rfl⟩) | (rw [v1] at v2; cases v2)

/-- An own slice's element is stored into. -/
theorem Rel.storeElem (R : Rel F gh T e a w) {t k g u : Nat} {y : Nat × Nat} (hy : alOk T t k g u = some y) {B : Nat} {cur : Array Value} {av : AV} {xs : List AV} (hav : av = .sl xs) {hv : Value} (hh : hdr w a (T t).tag t k = some hv)
    (ho : gh.ow B = some (.own t 0 k)) (hn : OwnOk (w.setRow B cur) gh y.1 y.2 (.own t 0 k) av hv) :
    Rel F gh T (e.set t (if isBx (T t).tag then (e t).set k av else [av])) a (w.setRow B cur) := by
  obtain ⟨_, hck⟩ := alOk_g hy
  have hgd := R.tok.ck t (Tag.holds_ck hck)
  have Pr := Pers.row R.base ho cur
  have hs := R.slot t (by rw [hgd]; trivial)
  have htn : t < F.n := R.lt (by intro hd; rw [hd] at hck; simp [Tag.ck] at hck)
  have hid : T.up t (T t) = T := by
    funext s
    by_cases h : s = t
    · subst h; rw [up_same]
    · rw [up_other _ _ _ _ h]
  have cells : ∀ (ks : List CK) (vs : List Value), ks[k]? = some ⟨u, .own y.1 y.2⟩ → vs[k]? = some hv → CellsOk w gh (.own t 0) (ks.map CK.k) (e t) vs → CellsOk (w.setRow B cur) gh (.own t 0) (ks.map CK.k) ((e t).set k av) vs := by
    intro ks vs hks hvs hc
    refine ⟨by simpa using hc.1, hc.2.1, hc.2.2.1, fun i c x v a1 a2 a3 => ?_⟩
    by_cases hi : i = k
    · subst hi
      obtain ⟨c0, p1, p2⟩ := map_k a1
      rw [hks] at p1; cases p1
      subst p2
      rw [hvs] at a3; cases a3
      have hlt : i < (e t).length := by have := hc.1; have := (List.getElem?_eq_some_iff.1 hks).1; simp at *; omega
      rw [List.getElem?_set_self hlt] at a2
      cases a2
      exact hn
    · rw [List.getElem?_set_ne (Ne.symm hi)] at a2
      exact (hc.2.2.2 i c x v a1 a2 a3).mono Pr (fun h => by cases h; exact hi rfl)
  have key := R.step (gh' := gh) (a' := a) (w' := w.setRow B cur) t (T t) (if isBx (T t).tag then (e t).set k av else [av]) htn R.n R.df (fun _ _ => rfl) (R.base.row ho cur) Pr (fun s _ h => by cases h) (fun s i k' hs h => by cases h; exact hs rfl)
    (.inr ⟨rfl, fun k c hc => ⟨c, hc, Nat.le_refl _⟩⟩) (by rw [hid]; exact R.tok.ref t) (fun s g' b h => by rw [hgd] at h; cases h) (fun _ => hgd) (fun _ h1 => ⟨h1, fun b hb => by
      subst hav
      cases htag : (T t).tag <;> rw [htag] at h1 hb <;> first | (simp [isBx] at hb; done) | (cases h1; done)⟩)
    (fun k' u' y' _ _ hy' => by
      rw [hid] at hy'
      exact ⟨hy', R.hdr_keep Pr hy' (fun h => by cases h) rfl⟩)
    (fun _ => ⟨rfl, fun _ h => h⟩) (fun _ => by
      rw [hid]
      cases htag : (T t).tag with
      | one c =>
        rw [htag] at hck hh hs
        cases k with
        | zero =>
          simp only [Tag.ck, Option.some.injEq] at hck
          subst hck
          simp only [hdr, if_true, Option.some.injEq] at hh
          exact ⟨av, by rw [set_same]; rfl, by rw [hh]; exact hn⟩
        | succ k => simp [Tag.ck] at hck
      | agg ks =>
        rw [htag] at hck hh hs
        obtain ⟨vs, hv', hc⟩ := hs
        refine ⟨vs, hv', ?_⟩
        rw [set_same]
        exact cells ks vs hck (by simpa [hdr, hv'] using hh) hc
      | box ks =>
        rw [htag] at hck hh hs
        obtain ⟨B0, vs, el, p1, p2, p3, hc⟩ := hs
        have hne : B0 ≠ B := fun h => by subst h; rw [p1] at ho; cases ho
        refine ⟨B0, vs, el, p1, p2, by rw [setRow_other w B B0 cur hne]; exact p3, ?_⟩
        rw [set_same]
        refine cells ks vs hck ?_ hc
        simp only [hdr, p2, Addr.add_lit, Nat.zero_add] at hh
        rw [cell_of_row w B0 k _ el (0, 0) p3] at hh
        simpa using hh
      | _ => rw [htag] at hck; simp [Tag.ck] at hck)
    (fun hhp => (R.hp hhp).monoK Pr (fun i h => by cases h) (set_other _ _ _ _ (by have := R.le; omega)) rfl)
  rw [hid] at key
  exact key

theorem rep_cells_len {x : AV} {m : List AV} {ag : Bool} {v : Value} (hx : Rep w gh.im gh.et x v) (h : A.cs ag x = some m) : v.cells.toList.length = m.length := (cs_cells hx h).1.len

theorem st_sound (R : Rel F gh T e a w) (hg : gdOn T e gd) {ty : TypeId} {x y : Operand} {pol : Nat} (ho : o.op = .store ty x y) (ht : okT P ty = true) (hdst : o.dst = none) {plan : Plan} (he : plan.dyn.ev S e some = some e')
    (h : planSt P hn T gd pol ty x y = some plan) : Good P F o a w (T.ups plan.ups) e' := by
  have hex : execOp a.eval o = (do Instr.storeAt ty (a.eval x) (a.eval y); pure .skip) := by simp only [execOp, ho]
  have fin : ∀ {gh' w'}, (Instr.storeAt ty (a.eval x) (a.eval y)).run P w = .ok () w' → Rel F gh' (T.ups plan.ups) e' a w' → Good P F o a w (T.ups plan.ups) e' := fun hr hR =>
    good_skip (by rw [hex]; simp only [Sem.run_bind, hr, Result.andThen_ok, Sem.run_pure]) hdst hR
  have hx : ∃ t, x = .tmp t := by unfold planSt at h; cases x <;> first | exact ⟨_, rfl⟩ | cases h
  obtain ⟨t, rfl⟩ := hx
  rw [eval_tmp] at fin
  unfold planSt at h
  simp only at h
  split at h
  · -- a box
    rename_i b off ks hbox
    obtain ⟨htag, B, vs, el, q1, q2, q3, q4, q5⟩ := boxOf_spec R hg hbox
    have hel : (e b).length = ks.length := by have := q5.1; simpa using this
    have hvl : vs.length = ks.length := by have := q5.2.1; simpa using this
    rw [q3] at fin
    split at h
    · rename_i hfit
      have hfit' : off + P.cellsOf ty ≤ vs.length := by rw [hvl]; exact hfit
      -- a value that nobody owns
      have storeV : ∀ {cr : CR} {ups : List (Nat × Tg)} {tr : List Nat} {ks' : List CK} {ax : AV} {m : List AV}, useO hn T gd y = some (cr, ups, tr) → ((T.ups ups) b).tag = .box ks' → cr.val e = some ax → A.csn (isAg P ty) (szOf P ty) ax = some m →
          T.ups plan.ups = (T.ups ups).ups (if allV ((ks'.drop off).take (szOf P ty)) then [] else [(b, ⟨(T b).g, .box (putKs ks' off (List.replicate (szOf P ty) .v)), (T b).gd⟩)]) → e' = e.set b (A.splice (e b) off m) → Good P F o a w (T.ups plan.ups) e' := by
        intro cr ups tr ks' ax m hu hb' hc hm hT he'
        obtain ⟨gh1, g1, R1, g3⟩ := useO_sound R hg hu hc
        obtain ⟨B1, vs1, el1, p1, p2, p3, p4⟩ := box_slot R1 hb'
        rw [q2] at p2
        cases p2
        rw [q4] at p3
        simp only [Option.some.injEq, Obj.cells.injEq] at p3
        obtain ⟨p3a, rfl, _⟩ := p3
        have hvs : vs = vs1 := by simpa using p3a
        subst hvs
        obtain ⟨c1, c2, c3, c4⟩ := csn_cells g3 hm
        have hkl : ks'.length = ks.length := by have := p4.2.1; simp at this; omega
        obtain ⟨gh2, hR⟩ := R1.storeV hb' p1 q2 q4 p4 c1 c2 c3 (by rw [hkl]; exact hfit)
        have hrun := run_storeAt (P := P) ht q4 c4 c2 hfit'
        rw [hT, he']
        rw [hT, he'] at fin
        rw [c4, (useO_g hu b).1, R1.tok.ck b (by rw [hb']; rfl), ← R.tok.ck b (by rw [htag]; rfl)] at hR
        exact fin hrun hR
      split at h
      · -- a struct
        rename_i hag
        have byUse : ((useO hn T gd y).bind fun r =>
          match ((T.ups r.2.1) b).tag with
          | .box ks' =>
            some { dyn := if off = 0 ∧ szOf P ty = ks.length then .stw b (szOf P ty) r.1 else .stm b off (szOf P ty) r.1,
                   ups := r.2.1 ++ (if allV ((ks'.drop off).take (szOf P ty)) then [] else [(b, ⟨(T b).g, .box (putKs ks' off (List.replicate (szOf P ty) .v)), (T b).gd⟩)]), tr := [t, b] ++ r.2.2 }
          | _ => none) = some plan → Good P F o a w (T.ups plan.ups) e' := by
          intro h
          simp only [Option.bind_eq_some_iff] at h
          obtain ⟨⟨cr, ups, tr⟩, hu, h⟩ := h
          split at h
          · rename_i ks' hb'
            cases h
            by_cases hc : off = 0 ∧ szOf P ty = ks.length
            · simp only [if_pos hc, Dyn.ev, CR.ev_val, Option.bind_eq_some_iff, Option.some.injEq] at he
              obtain ⟨ax, h1, m, h2, rfl⟩ := he
              refine storeV (ax := ax) (m := m) hu hb' h1 (by rw [hag]; exact h2) (ups_append _ _ _) ?_
              have hml : m.length = szOf P ty := by
                unfold A.csn at h2
                simp only [Option.bind_eq_some_iff] at h2
                obtain ⟨m', _, h2⟩ := h2
                split at h2
                · cases h2; assumption
                · cases h2
              rw [hc.1, splice_all _ _ (by omega)]
            · simp only [if_neg hc, Dyn.ev, CR.ev_val, Option.bind_eq_some_iff, Option.some.injEq] at he
              obtain ⟨ax, h1, m, h2, rfl⟩ := he
              exact storeV (ax := ax) (m := m) hu hb' h1 (by rw [hag]; exact h2) (ups_append _ _ _) rfl
          · cases h
        split at h
        · rename_i s
          split at h
          · rename_i cs hs
            split at h
            · rename_i hc
              obtain ⟨hgn, hcl, hsb⟩ := hc
              cases gd with
              | some q => simp at hgn
              | none =>
                cases h
                obtain ⟨s1, s2⟩ := tagAt_slot R hg (t := s) (by rw [hs]; simp)
                rw [hs] at s1
                rw [← s1] at s2
                obtain ⟨us, hus, hco⟩ := s2
                let ρ : Key → Option Key := fun key => match key with | .own s' i k => if s' = s ∧ i = 0 then some (.arg 0 k) else some (.own s' i k) | key => some key
                have hρ : ∀ key, ¬ about s key → ρ key = some key := fun key hk => by
                  cases key with
                  | own s' i k => simp only [about] at hk; simp [ρ, hk]
                  | _ => rfl
                have hle : TagLe ρ s (T s).tag (.agg (cs.map ddK)) := by
                  rw [← s1]
                  refine .agg _ _ (by simp) (fun k c' hc => ?_)
                  simp only [List.getElem?_map, Option.map_eq_some_iff] at hc
                  obtain ⟨c, q1, rfl⟩ := hc
                  refine ⟨c, q1, (ddK_u c).symm, ?_⟩
                  cases hk : c.k with
                  | dead => simp [ddK, hk]; exact .dead _
                  | v => simp [ddK, hk]; exact .v
                  | own _ _ => simp [ddK, hk]; exact .dead _
                have R1 := R.retag s _ ρ (R.lt (by rw [← s1]; simp)) hρ rfl hle (.inl (R.tok.ck s (by rw [← s1]; rfl)))
                have hp : CellsOk w (gh.ren ρ) (.arg 0) (cs.map CK.k) (e s) us := hco.rename (fun k => by simp [ρ])
                have hbs : b ≠ s := fun h => hsb h.symm
                have htag1 : ((T.up s ⟨(T s).g, .agg (cs.map ddK), (T s).gd⟩) b).tag = .box ks := by rw [up_other _ _ _ _ hbs]; exact htag
                obtain ⟨gh2, hR⟩ := R1.storePut (off := off) htag1 (by simp [Gh.ren, q1, ρ]) q2 q4 (q5.rename (kf' := .own b 0) (fun k => by simp [ρ, hbs])) hp (by simp [hcl]; exact hfit)
                rw [up_other _ _ _ _ hbs] at hR
                have hul : us.length = P.cellsOf ty := by have := hco.2.1; simp at this; rw [this, hcl]; rfl
                have hvc : (tmp a s).cells.toList = us := by rw [hus]; simp [Value.cells]
                have hrun := run_storeAt (P := P) (v := tmp a s) ht q4 (by rw [hvc]; exact hul) (by rw [hvc]; exact hco.2.2.1) hfit'
                rw [hvc] at hrun
                rw [hul] at hR
                have hes : (e s).length = szOf P ty := by have := hco.1; simp at this; rw [this, hcl]
                have hee : e' = e.set b (A.splice (e b) off (e s)) := by
                  by_cases hc : off = 0 ∧ szOf P ty = ks.length
                  · simp only [if_pos hc, Dyn.ev, Option.some.injEq] at he
                    rw [← he, hc.1, splice_all _ _ (by omega)]
                  · simp only [if_neg hc, Dyn.ev, Option.some.injEq] at he
                    exact he.symm
                rw [hee]
                rw [hee] at fin
                exact fin hrun hR
            · cases h
          · cases h
        · exact byUse h
      · -- a lone cell
        rename_i hag
        have hag : isAg P ty = false := by simpa using hag
        split at h
        · cases h
        · rename_i hn1
          have hn1 : szOf P ty = 1 := by simpa using hn1
          have hn1' : P.cellsOf ty = 1 := hn1
          split at h
          · simp only [Option.bind_eq_some_iff] at h
            obtain ⟨⟨cr, ups, tr⟩, hu, h⟩ := h
            split at h
            · rename_i ks' hb'
              cases h
              simp only [Dyn.ev, CR.ev_val, Option.bind_eq_some_iff, Option.some.injEq] at he
              obtain ⟨ax, h1, m, h2, rfl⟩ := he
              obtain ⟨rfl, h3⟩ := one_spec h2
              refine storeV (m := [m]) hu hb' h1 (by rw [hag, hn1]; simp [A.csn, h3]) (by rw [hn1]; exact ups_append _ _ _) ?_
              rw [splice_one _ _ _ (by omega)]
            · cases h
          · rename_i ee
            split at h
            · cases h
            · rename_i hc
              simp only [not_or] at hc
              simp only [Option.bind_eq_some_iff] at h
              obtain ⟨⟨cr, ups, tr⟩, hu, h⟩ := h
              split at h
              · rename_i ks' hb'
                cases h
                simp only [Dyn.ev, CR.ev_val, Option.bind_eq_some_iff, Option.some.injEq] at he
                obtain ⟨ax, h1, m, h2, rfl⟩ := he
                obtain ⟨rfl, h3⟩ := one_spec h2
                obtain ⟨gh1, g1, R1, g3⟩ := takeO_sound R hg 0 (by have := hc.2; omega) hu h1
                obtain ⟨B1, vs1, el1, p1, p2, p3, p4⟩ := box_slot R1 hb'
                rw [q2] at p2
                cases p2
                rw [q4] at p3
                simp only [Option.some.injEq, Obj.cells.injEq] at p3
                obtain ⟨p3a, rfl, _⟩ := p3
                have hvs : vs = vs1 := by simpa using p3a
                subst hvs
                have hkl : ks'.length = ks.length := by have := p4.2.1; simp at this; omega
                have hsl : ∃ bs l c, a.eval y = .slice bs l c := by
                  obtain ⟨xs, vs, _, ho, _⟩ := g3
                  rcases ho.2 with ⟨h, _⟩ | ⟨g, cap, cur, h, _⟩ <;> exact ⟨_, _, _, h⟩
                obtain ⟨bs, l, cp, hsl⟩ := hsl
                have hcells : (a.eval y).cells.toList = [a.eval y] := by rw [hsl]; rfl
                have hone : (a.eval y).oneCell' = true := by rw [hsl]; rfl
                have hpc : CellsOk w gh1 (.arg 0) [.own ee (szOf P ee)] [m] [a.eval y] := by
                  refine ⟨rfl, rfl, by simp [hone], fun k c x v a1 a2 a3 => ?_⟩
                  cases k with
                  | zero => simp at a1 a2 a3; subst a1 a2 a3; exact g3
                  | succ k => simp at a1
                obtain ⟨gh2, hR⟩ := R1.storePut (off := off) hb' p1 q2 q4 p4 hpc (by simp; omega)
                have hrun := run_storeAt (P := P) (v := a.eval y) ht q4 (by rw [hcells, hn1']; rfl) (by rw [hcells]; simp [hone]) hfit'
                rw [hcells] at hrun
                rw [splice_one _ _ _ (by omega), (takeO_g hu b).1, R1.tok.ck b (by rw [hb']; rfl), ← R.tok.ck b (by rw [htag]; rfl)] at hR
                rw [ups_append] at fin ⊢
                rw [hn1'] at hrun
                exact fin hrun hR
              · cases h
    · cases h
  · split at h
    · -- an element
      rename_i t' k off g u htag
      obtain ⟨h1, h2⟩ := tagAt_slot R hg (t := t) (by rw [htag]; simp)
      rw [htag] at h1
      rw [← h1] at h2
      simp only [Option.bind_eq_some_iff] at h
      obtain ⟨z, hz, ⟨cr, ups, tr⟩, hu, z', hz', h⟩ := h
      split at h
      · cases h
      · rename_i hzz
        have hzz : z' = z := by simpa using hzz
        subst hzz
        cases h
        obtain ⟨kd, i, B, len, cap, c1, c2, c3, c4, c5⟩ := h2 z' hz
        have hcr : (if isBx (T t').tag = true then CR.b t' k else CR.c t') = crAt T t' k := by unfold crAt isBx; cases (T t').tag <;> rfl
        simp only [Dyn.ev, hcr, CR.ev_val, Option.bind_eq_some_iff, Option.some.injEq] at he
        obtain ⟨ah, a1, ai, a2, ax, a3, r, hr, rfl⟩ := he
        obtain ⟨gh1, g1, R1, g3⟩ := useO_sound R hg hu a3
        obtain ⟨s1, s2, s3⟩ := hdr_same R R1 hz hz'
        obtain ⟨hx, hv, p1, p2, p3⟩ := alOk_own R1 hz'
        rw [s2, a1] at p1
        cases p1
        simp only [CR.val, c1, List.getElem?_cons_zero, Option.some.injEq] at a2
        subst a2
        obtain ⟨k2, n2, B2, len2, cap2, cur, z1, z2, z3, z4, z5, z6⟩ := run_est ht p3 g3 hr
        cases z1
        have hsl : ∃ xs, r = .sl xs := by
          unfold A.est at hr
          simp only [Option.bind_eq_some_iff] at hr
          obtain ⟨xs, _, ae, _, m, _, hr⟩ := hr
          split at hr
          · cases hr; exact ⟨_, rfl⟩
          · cases hr
        obtain ⟨xs, hsl⟩ := hsl
        have hB : B2 = B := by
          rw [s1, c2, z3] at p2
          cases p2
          rfl
        subst hB
        have hR := R1.storeElem hz' hsl p2 z4 (z6 gh1 rfl z4 (Pers.row R1.base z4 cur).stay)
        rw [s3] at hR
        rw [c5] at fin
        exact fin z5 hR
    · rename_i c htag
      split at h
      · rename_i hv
        simp only [Option.bind_eq_some_iff] at h
        obtain ⟨⟨cr, ups, tr⟩, hu, h⟩ := h
        cases h
        simp only [Dyn.ev, CR.ev_val, Option.bind_eq_some_iff] at he
        obtain ⟨ap, a1, ax, a2, he⟩ := he
        obtain ⟨gh1, g1, R1, g3⟩ := useO_sound R hg hu a2
        have kp := Rep.mono (g1.stay w) (tagV R hg htag hv a1)
        cases hhp : F.hp with
        | false =>
          rw [R.nh hhp] at he
          simp only [Option.bind_eq_some_iff] at he
          obtain ⟨h', hst, _⟩ := he
          unfold A.st at hst
          split at hst
          · rename_i hj; cases hj
          · cases hst
        | true =>
          obtain ⟨bs, e1, e2, e3⟩ := R1.hp hhp
          rw [e1] at he
          simp only [Option.bind_eq_some_iff, Option.some.injEq] at he
          obtain ⟨h', hst, rfl⟩ := he
          unfold A.st at hst
          split at hst
          · rename_i bs' id off' hbs
            cases hbs
            simp only [Option.bind_eq_some_iff] at hst
            obtain ⟨c0, hc0, m, hm, hst⟩ := hst
            split at hst
            · rename_i hlen
              cases hst
              revert kp
              generalize hvx : tmp a t = vx at *
              intro kp
              cases kp with
              | ref _ _ B hB =>
                obtain ⟨o1, cs, vs, el, b1, b2, b3, b4⟩ := e3 id B hB
                simp only [A.block, b1, Option.some.injEq] at hc0
                subst hc0
                obtain ⟨m1, m2⟩ := cs_cells g3 hm
                have hcl : (a.eval y).cells.toList.length = P.cellsOf ty := by rw [m1.len]; exact hlen.1
                have hvl := b3.len
                have hrun := run_storeAt (P := P) (off := off') (v := a.eval y) ht b2 hcl m2 (by rw [hvl]; exact hlen.2)
                refine fin (gh' := gh1) hrun ?_
                have Pr := Pers.row R1.base o1 (vs.take off' ++ (a.eval y).cells.toList ++ vs.drop (off' + P.cellsOf ty)).toArray
                refine R1.heapStep hhp (R1.base.row o1 _) Pr (fun t h => by cases h) (fun t i k h => by cases h) ⟨_, set_same _ _ _, by simpa using e2, fun i B' hi => ?_⟩
                obtain ⟨o2, cs2, vs2, el2, d1, d2, d3, d4⟩ := e3 i B' hi
                by_cases hii : i = id
                · subst hii
                  rw [hB] at hi
                  cases hi
                  rw [b1] at d1
                  cases d1
                  have hlt := (List.getElem?_eq_some_iff.1 b1).1
                  refine ⟨o1, _, _, el, by rw [List.getElem?_set_self hlt], setRow_heap w B _ _ el _ b2, ?_, fun v hv => ?_⟩
                  · have hsp := (b3.splice m1 off').mono Pr.stay
                    have hcl2 := hcl
                    rw [hcl2] at hsp
                    exact hsp
                  · rcases List.mem_append.1 hv with hv | hv
                    · rcases List.mem_append.1 hv with hv | hv
                      · exact b4 v (List.mem_of_mem_take hv)
                      · exact m2 v hv
                    · exact b4 v (List.mem_of_mem_drop hv)
                · have hne : B' ≠ B := fun h => by subst h; rw [o1] at o2; cases o2; exact hii rfl
                  exact ⟨o2, cs2, vs2, el2, by rw [List.getElem?_set_ne (Ne.symm hii)]; exact d1, by rw [setRow_other w B B' _ hne]; exact d2, d3.mono Pr.stay, d4⟩
            · cases hst
          · cases hst
      · cases h
    · cases h

end
end Tr

namespace Tr
open Go

section
variable {P : Program} {F : Fm} {gh gh' : Gh} {T T' : Tags} {e e' : Env} {a : Act} {w w' : World} {o : Oper} {hn : Hn} {gd : Option (Nat × Nat × Bool)} {S : Fns} {d : Nat}

/-- The owners, with a new block's. -/
def Gh.new (gh : Gh) (w : World) (key : Key) : Gh := { gh with ow := fun b => if b = w.heap.size then some key else gh.ow b }

theorem Base.new (h : Base F gh w) (hG : Grown w w' none) (hn : w.heap.size < w'.heap.size) (key : Key) : Base F (gh.new w key) w' := by
  refine ⟨Nat.le_trans h.sz hG.size, fun b hb hO => ?_, fun b k hk => ?_, fun b hb => ?_, h.im0, h.et, h.et2, h.st.trans hG.st⟩
  · rw [← h.keep b hb hO]
    exact hG.block b (Nat.lt_of_lt_of_le hb h.sz) (by simp)
  · simp only [Gh.new] at hk
    split at hk
    · rename_i e; subst e; exact ⟨.inr h.sz, hn⟩
    · obtain ⟨h1, h2⟩ := h.owned b k hk
      exact ⟨h1, Nat.lt_of_lt_of_le h2 hG.size⟩
  · obtain ⟨h1, h2, h3⟩ := h.imm b hb
    refine ⟨?_, Nat.lt_of_lt_of_le h2 hG.size, h3⟩
    simp only [Gh.new]
    rw [if_neg (by omega)]; exact h1

theorem Pers.new (h : Base F gh w) (hG : Grown w w' none) (key : Key) (K : Key → Prop) : Pers gh (gh.new w key) w w' K := by
  refine ⟨⟨fun _ h => h, fun b hb => hG.block b (h.imm b hb).2.1 (by simp), fun _ _ h => h⟩, fun b k hb _ => ?_⟩
  have hlt := (h.owned b k hb).2
  exact ⟨by simp only [Gh.new]; rw [if_neg (by omega)]; exact hb, hG.block b hlt (by simp)⟩

theorem new_ow (gh : Gh) (w : World) (key : Key) : (gh.new w key).ow w.heap.size = some key := by simp [Gh.new]

theorem alloc_lt (w : World) (ob : Obj) : w.heap.size < (w.alloc ob).heap.size := by
  show w.heap.size < (w.heap.push ob).size
  simp

/-- A new variable in a slot. -/
theorem Rel.newBox (R : Rel F gh T e a w) (hd : d < F.n) {ks : List CK} {el : TypeId} {cells : Array Value} {cs : List AV} (h : ∀ gh', gh' = gh.new w (.box d) → CellsOk (w.alloc (.cells cells el)) gh' (.own d 0) (ks.map CK.k) cs cells.toList) :
    Rel F (gh.new w (.box d)) (T.ups [dstT T none d (.box ks)]) (e.set d cs) (a.put (some d) (.pointer (some ⟨w.heap.size, 0, none⟩))) (w.alloc (.cells cells el)) := by
  have ht := tmp_put_same a d (.pointer (some ⟨w.heap.size, 0, none⟩)) (by rw [R.n]; exact hd)
  have hG := Grown.alloc w (.cells cells el)
  exact R.put d hd (.box ks) none cs _ (R.base.new hG (alloc_lt _ _) _) (Pers.new R.base hG _ _) rfl trivial (fun _ _ _ h => by cases h) (fun _ => rfl)
    (fun _ => ⟨w.heap.size, cells.toList, el, new_ow _ _ _, ht, heap_alloc_new w _, by rw [set_same]; exact h _ rfl⟩)

theorem CellsOk.far {kf : Nat → Key} {ks : List CKd} {cs : List AV} {vs : List Value} (hb : Base F gh w) (hG : Grown w w' none) (key : Key) (h : CellsOk w gh kf ks cs vs) : CellsOk w' (gh.new w key) kf ks cs vs :=
  h.mono (Pers.new hb hG key (fun _ => True)) (fun _ => trivial)

theorem heapOk_new (hh : HeapOk w gh e) (hb : Base F gh w) {bs m : List AV} (hbs : e HS = [.hp bs]) {cells : Array Value} {el : TypeId} (hm : RepL w gh.im gh.et m cells.toList) (h1 : ∀ v ∈ cells.toList, v.oneCell' = true) :
    HeapOk (w.alloc (.cells cells el)) { gh.new w (.heap bs.length) with et := gh.et ++ [w.heap.size] } (e.set HS [.hp (bs ++ [.agg m])]) := by
  obtain ⟨bs', e1, e2, e3⟩ := hh
  rw [hbs] at e1; cases e1
  have hG := Grown.alloc w (.cells cells el)
  have S : Stay w (w.alloc (.cells cells el)) gh.im gh.im gh.et (gh.et ++ [w.heap.size]) := ⟨fun _ h => h, fun b hb' => hG.block b (hb.imm b hb').2.1 (by simp), fun i B h => by rw [List.getElem?_append_left (List.getElem?_eq_some_iff.1 h).1]; exact h⟩
  refine ⟨_, set_same _ _ _, by simp [e2], fun i B hi => ?_⟩
  by_cases hlt : i < gh.et.length
  · rw [List.getElem?_append_left hlt] at hi
    obtain ⟨o1, cs, vs, el2, c1, c2, c3, c4⟩ := e3 i B hi
    have hB := (hb.owned B _ o1).2
    exact ⟨by simp only [Gh.new]; rw [if_neg (by omega)]; exact o1, cs, vs, el2, by rw [List.getElem?_append_left (by omega)]; exact c1, by rw [hG.block B hB (by simp)]; exact c2, c3.mono S, c4⟩
  · rw [List.getElem?_append_right (by omega)] at hi
    have hi0 : i - gh.et.length = 0 := by
      have := (List.getElem?_eq_some_iff.1 hi).1
      simp at this; omega
    rw [hi0] at hi
    simp at hi
    subst hi
    have hil : i = bs.length := by omega
    subst hil
    exact ⟨by simp [Gh.new], m, cells.toList, el, by simp, heap_alloc_new w _, hm.mono S, h1⟩

/-- A new block of the own memory. -/
theorem hnew_sound (R : Rel F gh T e a w) (hd : d < F.n) {ag : Bool} {x : CR} {plan : Dyn} (hp : plan = .hnew d ag x) (he : plan.ev S e some = some e') {v : Value} {el : TypeId} (hx : ∀ av, x.val e = some av → Rep w gh.im gh.et av v) :
    ∃ gh', Rel F gh' (T.ups [dstT T gd d vT]) e' (a.put (some d) (.pointer (some ⟨w.heap.size, 0, none⟩))) (w.alloc (.cells v.cells el)) := by
  subst hp
  simp only [Dyn.ev, CR.ev_val, Option.bind_eq_some_iff] at he
  obtain ⟨av, h1, he⟩ := he
  cases hhp : F.hp with
  | false =>
    rw [R.nh hhp] at he
    simp only [A.hnew, Option.bind_eq_some_iff] at he
    obtain ⟨_, h, _⟩ := he
    cases h
  | true =>
    obtain ⟨bs, e1, _⟩ := R.hp hhp
    rw [e1] at he
    simp only [A.hnew, Option.bind_eq_some_iff] at he
    obtain ⟨r, ⟨m, hm, hr⟩, he⟩ := he
    cases hr
    cases he
    obtain ⟨c1, c2⟩ := cs_cells (hx av h1) hm
    have hG := Grown.alloc w (.cells v.cells el)
    have hb := R.base.new hG (alloc_lt _ _) (.heap bs.length)
    have hbe : Base F { gh.new w (.heap bs.length) with et := gh.et ++ [w.heap.size] } (w.alloc (.cells v.cells el)) := ⟨hb.sz, hb.keep, hb.owned, hb.imm, hb.im0, fun i B h => (List.getElem?_append_left (List.getElem?_eq_some_iff.1 (R.base.et i B h)).1).trans (R.base.et i B h), fun h => by (rw [hhp] at h; cases h), hb.st⟩
    have Pr0 := Pers.new R.base hG (.heap bs.length) (fun _ => True)
    have Pr : Pers gh { gh.new w (.heap bs.length) with et := gh.et ++ [w.heap.size] } w (w.alloc (.cells v.cells el)) (fun _ => True) :=
      ⟨⟨Pr0.stay.sub, Pr0.stay.hp, fun i B h => by simp only; rw [List.getElem?_append_left (List.getElem?_eq_some_iff.1 h).1]; exact h⟩, Pr0.keep⟩
    have R1 := R.heapStep hhp hbe Pr (fun _ => trivial) (fun _ _ _ => trivial) (heapOk_new (R.hp hhp) R.base e1 c1 c2)
    obtain ⟨bs', e1', e2', _⟩ := R.hp hhp
    rw [e1] at e1'; cases e1'
    refine ⟨{ gh.new w (.heap bs.length) with et := gh.et ++ [w.heap.size] }, ?_⟩
    rw [dstT_v]
    exact R1.putV d hd (.ref bs.length 0) _ (.ref _ _ _ (by simp [e2']))

theorem run_newVar {t : TypeId} (v : Value) : (newVar t v).run P w = .ok ⟨w.heap.size, 0, none⟩ (w.alloc (.cells v.cells t)) := by
  simp [newVar, newRow]

theorem alloc_sound (R : Rel F gh T e a w) {el : TypeId} {pol own : Nat} (ho : o.op = .alloc el) (hdst : o.dst = some d) (hd : d < F.n) {plan : Plan} (he : plan.dyn.ev S e some = some e')
    (h : ((zeroC P el).bind fun z => if gd.isSome then none else
    if pol = 1 then (if own = 0 then none else some { dyn := .hnew d true (.lit (.agg z)), ups := [dstT T gd d vT], tr := [d] })
    else let ks := kindsOf P 20 el; if kzOk ks z then some { dyn := .cst d z, ups := [dstT T gd d (.box ks)], tr := [d] } else none) = some plan) : Good P F o a w (T.ups plan.ups) e' := by
  simp only [Option.bind_eq_some_iff] at h
  obtain ⟨z, hz, h⟩ := h
  obtain ⟨i, zv, hi, hzv, hcv⟩ := zeroC_spec hz
  have hrun : (execOp a.eval o).run P w = .ok (.value (.pointer (some ⟨w.heap.size, 0, none⟩))) (w.alloc (.cells zv.cells el)) := by
    simp [execOp, ho, Instr.alloc, zeroValue, typeInfo, hi, hzv, run_newVar]
  split at h
  · cases h
  · rename_i hgd
    have hgd : gd = none := by simpa using hgd
    subst hgd
    split at h
    · split at h
      · cases h
      · cases h
        obtain ⟨gh', hR⟩ := hnew_sound (gd := none) (v := .agg zv.cells) (el := el) R hd rfl he (fun av hav => by
          simp only [CR.val, Option.some.injEq] at hav
          subst hav
          obtain ⟨c1, c2⟩ := cvL_spec (w := w) (im := gh.im) (et := gh.et) hcv
          have : zv.cells = zv.cells.toList.toArray := by simp
          rw [this]
          exact .agg _ _ c1 c2)
        exact good_value hrun (by rw [hdst]; exact hR)
    · split at h
      · rename_i hkz
        cases h
        simp only [Dyn.ev, Option.some.injEq] at he
        subst he
        exact good_value hrun (by rw [hdst]; exact R.newBox hd (fun gh' _ => kz_cells hkz hcv))
      · cases h

theorem box_sound (R : Rel F gh T e a w) (hg : gdOn T e gd) {el : TypeId} {x : Operand} {pol own : Nat} (ho : o.op = .box el x) (hdst : o.dst = some d) (hd : d < F.n) {plan : Plan} (he : plan.dyn.ev S e some = some e')
    (h : (if gd.isSome then none else
    if pol = 1 then (if own = 0 then none else (useO hn T gd x).bind fun r => some { dyn := .hnew d (isAg P el) r.1, ups := r.2.1 ++ [dstT (T.ups r.2.1) gd d vT], tr := d :: r.2.2 })
    else match x with
      | .tmp t => match tagAt T gd t with
        | .agg ks => some { dyn := .cpy d t, ups := [(t, ⟨(T t).g, .agg (ks.map ddK), (T t).gd⟩), dstT T gd d (.box ks)], tr := [d, t] }
        | _ => (useO hn T gd x).bind fun r => some { dyn := .cs d (isAg P el) (szOf P el) r.1, ups := r.2.1 ++ [dstT (T.ups r.2.1) gd d (.box (List.replicate (szOf P el) ⟨0, .v⟩))], tr := d :: r.2.2 }
      | _ => (useO hn T gd x).bind fun r => some { dyn := .cs d (isAg P el) (szOf P el) r.1, ups := r.2.1 ++ [dstT (T.ups r.2.1) gd d (.box (List.replicate (szOf P el) ⟨0, .v⟩))], tr := d :: r.2.2 }) = some plan) : Good P F o a w (T.ups plan.ups) e' := by
  have hrun : (execOp a.eval o).run P w = .ok (.value (.pointer (some ⟨w.heap.size, 0, none⟩))) (w.alloc (.cells (a.eval x).cells el)) := by
    simp [execOp, ho, Instr.box, run_newVar]
  split at h
  · cases h
  · rename_i hgd
    have hgd : gd = none := by simpa using hgd
    subst hgd
    have byUse : ((useO hn T none x).bind fun r => some { dyn := .cs d (isAg P el) (szOf P el) r.1, ups := r.2.1 ++ [dstT (T.ups r.2.1) none d (.box (List.replicate (szOf P el) ⟨0, .v⟩))], tr := d :: r.2.2 }) = some plan → Good P F o a w (T.ups plan.ups) e' := by
      intro h
      simp only [Option.bind_eq_some_iff] at h
      obtain ⟨⟨cr, ups, tr⟩, hu, h⟩ := h
      cases h
      simp only [Dyn.ev, CR.ev_val, Option.bind_eq_some_iff, Option.some.injEq] at he
      obtain ⟨ax, h1, m, h2, rfl⟩ := he
      obtain ⟨gh1, g1, R1, g3⟩ := useO_sound R hg hu h1
      obtain ⟨c1, c2, c3, c4⟩ := csn_cells g3 h2
      refine good_value hrun (by
        rw [hdst, ups_append]
        refine R1.newBox hd (fun gh' hgh => ?_)
        subst hgh
        have := (cells_v (kf := .own d 0) c1 c2).far R1.base (Grown.alloc w (.cells (a.eval x).cells el)) (.box d)
        rw [c3] at this
        simpa using this)
    split at h
    · split at h
      · cases h
      · simp only [Option.bind_eq_some_iff] at h
        obtain ⟨⟨cr, ups, tr⟩, hu, h⟩ := h
        cases h
        have hcv : ∃ ax, cr.val e = some ax := by
          simp only [Dyn.ev, CR.ev_val, Option.bind_eq_some_iff] at he
          obtain ⟨ax, h1, _⟩ := he
          exact ⟨ax, h1⟩
        obtain ⟨ax, h1⟩ := hcv
        obtain ⟨gh1, g1, R1, g3⟩ := useO_sound R hg hu h1
        obtain ⟨gh', hR⟩ := hnew_sound (gd := none) (v := a.eval x) (el := el) R1 hd rfl he (fun av hav => by rw [h1] at hav; cases hav; exact g3)
        exact good_value hrun (by rw [hdst, ups_append]; exact hR)
    · split at h
      · rename_i t
        split at h
        · rename_i ks htag
          cases h
          simp only [Dyn.ev, Option.some.injEq] at he
          subst he
          obtain ⟨s1, s2⟩ := tagAt_slot R hg (t := t) (by rw [htag]; simp)
          rw [htag] at s1
          rw [← s1] at s2
          obtain ⟨us, hus, hco⟩ := s2
          let ρ : Key → Option Key := fun key => match key with | .own s' i k => if s' = t ∧ i = 0 then some (.arg 0 k) else some (.own s' i k) | key => some key
          have hρ : ∀ key, ¬ about t key → ρ key = some key := fun key hk => by
            cases key with
            | own s' i k => simp only [about] at hk; simp [ρ, hk]
            | _ => rfl
          have hle : TagLe ρ t (T t).tag (.agg (ks.map ddK)) := by
            rw [← s1]
            refine .agg _ _ (by simp) (fun k c' hc => ?_)
            simp only [List.getElem?_map, Option.map_eq_some_iff] at hc
            obtain ⟨c, q1, rfl⟩ := hc
            refine ⟨c, q1, (ddK_u c).symm, ?_⟩
            cases hk : c.k with
            | dead => simp [ddK, hk]; exact .dead _
            | v => simp [ddK, hk]; exact .v
            | own _ _ => simp [ddK, hk]; exact .dead _
          have R1 := R.retag t _ ρ (R.lt (by rw [← s1]; simp)) hρ rfl hle (.inl (R.tok.ck t (by rw [← s1]; rfl)))
          have hp : CellsOk w (gh.ren ρ) (.arg 0) (ks.map CK.k) (e t) us := hco.rename (fun k => by simp [ρ])
          let ρ2 := toSlot 0 d 0
          have R2 : Rel F ((gh.ren ρ).ren ρ2) (T.up t ⟨(T t).g, .agg (ks.map ddK), (T t).gd⟩) e a w := R1.world (R1.base.ren ρ2) (Pers.ren _ w ρ2 (fun key => ∀ i j, key ≠ .arg i j) (fun key hk => by cases key <;> first | rfl | exact absurd rfl (hk _ _))) rfl (fun _ _ _ h => by cases h) (fun _ _ _ _ _ h => by cases h) (fun _ _ _ _ h => by cases h)
          have hp2 : CellsOk w ((gh.ren ρ).ren ρ2) (.own d 0) (ks.map CK.k) (e t) us := hp.rename (fun k => toSlot_arg 0 d 0 k)
          have e1 : dstT T none d (.box ks) = dstT (T.up t ⟨(T t).g, .agg (ks.map ddK), (T t).gd⟩) none d (.box ks) := by
            unfold dstT
            by_cases e' : d = t
            · subst e'; rw [up_same]
            · rw [up_other _ _ _ _ e']
          have hcl : (a.eval (.tmp t)).cells.toList = us := by rw [eval_tmp, hus]; simp [Value.cells]
          refine good_value hrun (by
            rw [hdst]
            simp only [Tags.ups]
            rw [e1]
            refine R2.newBox hd (fun gh' hgh => ?_)
            subst hgh
            rw [hcl]
            exact hp2.far R2.base (Grown.alloc w _) (.box d))
        · exact byUse h
      · exact byUse h

end
end Tr

namespace Tr
open Go

section
variable {P : Program} {F : Fm} {gh gh' : Gh} {T T' : Tags} {e e' : Env} {a : Act} {w w' : World} {o : Oper} {hn : Hn} {gd : Option (Nat × Nat × Bool)} {S : Fns} {d : Nat}

theorem allV_put (ks : List CK) (off n : Nat) (h : (ks.map CK.k).all CKd.isV = true) : ((putKs ks off (List.replicate n .v)).map CK.k).all CKd.isV = true := by
  have key : ∀ (l : List CK) (n : Nat), (l.map CK.k).all CKd.isV = true → ((newKs l (List.replicate n .v)).map CK.k).all CKd.isV = true := by
    intro l
    induction l with
    | nil => intro n _; cases n <;> rfl
    | cons c l ih =>
      intro n h
      simp only [List.map_cons, List.all_cons, Bool.and_eq_true] at h
      cases n with
      | zero => simp only [List.replicate_zero, newKs, List.map_cons, List.all_cons, Bool.and_eq_true]; exact h
      | succ n => simp only [List.replicate_succ, newKs, List.map_cons, List.all_cons, Bool.and_eq_true]; exact ⟨rfl, ih n h.2⟩
  unfold putKs
  rw [List.map_append, List.all_append, Bool.and_eq_true]
  refine ⟨?_, key _ _ ?_⟩
  · rw [List.all_eq_true] at h ⊢
    intro c hc
    obtain ⟨c0, h0, rfl⟩ := List.mem_map.1 hc
    exact h _ (List.mem_map.2 ⟨c0, List.mem_of_mem_take h0, rfl⟩)
  · rw [List.all_eq_true] at h ⊢
    intro c hc
    obtain ⟨c0, h0, rfl⟩ := List.mem_map.1 hc
    exact h _ (List.mem_map.2 ⟨c0, List.mem_of_mem_drop h0, rfl⟩)

theorem allV_bld : ∀ (q : List (Nat × Bool × Nat)) (ks : List CK), (ks.map CK.k).all CKd.isV = true → ((bldKs ks q).map CK.k).all CKd.isV = true
  | [], _, h => h
  | (off, _, n) :: r, ks, h => allV_bld r _ (allV_put ks off n h)

theorem build_sound (R : Rel F gh T e a w) (hg : gdOn T e gd) {t : TypeId} {ps : Array (Nat × Operand)} {pol : Nat} (ho : o.op = .build t ps) (hdst : o.dst = some d) (hd : d < F.n) {plan : Plan} (he : plan.dyn.ev S e some = some e')
    (h : (match P.underlying t with
    | some (.struct fs) => if !fs.toList.all (fun f => okT P f.type) then none else (zeroC P t).bind fun z => (partsOf P fs ps.toList).bind fun q => (usesO hn T gd (ps.toList.map (·.2))).bind fun r =>
      if pol = 1 ∧ gd.isNone then
        let ks := bldKs (kindsOf P 20 t) q
        if kzOk (kindsOf P 20 t) z then some { dyn := .csp d (.build z q r.1), ups := r.2.1 ++ [dstT (T.ups r.2.1) gd d (.agg ks)], tr := d :: r.2.2 } else none
      else set1 T gd d (.build z q r.1) vT r.2.1 r.2.2
    | _ => none) = some plan) : Good P F o a w (T.ups plan.ups) e' := by
  split at h
  · rename_i fs hd'
    split at h
    · cases h
    · rename_i hok
      have hok : fs.toList.all (fun f => okT P f.type) = true := by simpa using hok
      simp only [Option.bind_eq_some_iff] at h
      obtain ⟨z, hz, q, hq, ⟨crs, ups, tr⟩, hu, h⟩ := h
      obtain ⟨i, zv, hi, hzv, hcv⟩ := zeroC_spec hz
      have hex : execOp a.eval o = (do pure (Next.value (← Instr.build t (ps.map fun (i, x) => (i, a.eval x))))) := by simp only [execOp, ho]
      have core : ∀ {kf : Nat → Key} {ks : List CK} {av : AV} {gh' : Gh} {avs : List AV}, RepL w gh'.im gh'.et avs ((ps.toList.map (·.2)).map a.eval) → CellsOk w gh' kf (ks.map CK.k) z zv.cells.toList → A.bld z (zip3 q avs) = some av →
          ∃ (cells : Array Value) (c : List AV), (Instr.build t (ps.map fun (i, x) => (i, a.eval x))).run P w = .ok (.agg cells) w ∧ av = .agg c ∧ CellsOk w gh' kf ((bldKs ks q).map CK.k) c cells.toList := by
        intro kf ks av gh' avs hr hzc hb
        obtain ⟨place, hpl, hbe⟩ := built_eq (P := P) hd' hi hzv hok (ps.toList.map fun p => (p.1, a.eval p.2))
        obtain ⟨cells, c, r1, r2, r3⟩ := fill_sound hpl a.eval ps.toList q avs ks z zv.cells av hq (by rw [List.map_map] at hr; exact hr) hzc hb
        refine ⟨cells, c, run_build w t _ cells ?_, r2, r3⟩
        have : (ps.map fun (i, x) => (i, a.eval x)).toList = ps.toList.map fun p => (p.1, a.eval p.2) := by simp
        rw [this, hbe]; exact r1
      split at h
      · rename_i hpol
        cases gd with
        | some g => simp at hpol
        | none =>
          split at h
          · rename_i hkz
            cases h
            simp only [Dyn.ev] at he
            rw [PX.ev_val] at he
            simp only [PX.ev, evCRs_val, Option.bind_eq_some_iff, Option.some.injEq] at he
            obtain ⟨av, ⟨avs, h1, av', h2, rfl⟩, m, hm, rfl⟩ := he
            obtain ⟨gh1, g1, R1, _, g3⟩ := usesO_sound R hg hu h1
            obtain ⟨cells, c, r1, rfl, r3⟩ := core (kf := .arg 0) g3 (kz_cells hkz hcv) h2
            simp only [A.cs, if_true, Option.some.injEq] at hm
            subst hm
            obtain ⟨gh2, hR⟩ := R1.putAgg (d := d) hd r3
            refine good_value (by rw [hex]; exact run_v r1) (by
              rw [hdst, ups_append]
              have : (Value.agg cells) = .agg cells.toList.toArray := by simp
              rw [this]
              exact hR)
          · cases h
      · refine good_rep R h hdst hd he hex fun av hav => ?_
        simp only [PX.ev, evCRs_val, Option.bind_eq_some_iff, Option.some.injEq] at hav
        obtain ⟨avs, h1, av', h2, rfl⟩ := hav
        obtain ⟨gh1, g1, R1, _, g3⟩ := usesO_sound R hg hu h1
        obtain ⟨c1, c2⟩ := cvL_spec (w := w) (im := gh1.im) (et := gh1.et) hcv
        have hzc : CellsOk w gh1 (.arg 0) ((List.replicate z.length (⟨0, .v⟩ : CK)).map CK.k) z zv.cells.toList := by simpa using cells_v (kf := .arg 0) c1 c2
        obtain ⟨cells, c, r1, rfl, r3⟩ := core g3 hzc h2
        refine ⟨_, gh1, r1, R1, ?_⟩
        have : (Value.agg cells) = .agg cells.toList.toArray := by simp
        rw [this]
        exact .agg _ _ (r3.v (allV_bld q _ (by simp [List.all_replicate, CKd.isV]))) r3.2.2.1
  · cases h

/-- A new own slice in a slot. -/
theorem Rel.newSl (R : Rel F gh T e a w) (hd : d < F.n) {el n : Nat} {sz : Nat} {cells : Array Value} {xs : List AV} (hs : 0 < sz) (hl : xs.length = n) (hm : n ≤ maxLen) (hcs : cells.size = n * sz) (hr : RepE w gh.im gh.et sz xs cells.toList) :
    ∃ gh', Rel F gh' (T.ups [dstT T gd d (.one ⟨0, .own el sz⟩)]) (e.set d [.sl xs]) (a.put (some d) (.slice (some ⟨w.heap.size, 0, none⟩) n n)) (w.alloc (.cells cells el)) := by
  have hG := Grown.alloc w (.cells cells el)
  have Pr := Pers.new R.base hG (.arg 0 0) (fun _ => True)
  have R1 := R.world (R.base.new hG (alloc_lt _ _) (.arg 0 0)) Pr rfl (fun _ => trivial) (fun _ _ _ => trivial) (fun _ _ => trivial)
  subst hl
  exact R1.putOwn hd (i := 0) ⟨xs, cells.toList, .inl ⟨rfl, _, _, _, rfl⟩, World.ownsRow_lit w cells xs.length (Nat.zero_le _) hm hcs, hr.mono Pr.stay, hs, fun B hB => by simp [Value.ownBlock] at hB; subst hB; exact new_ow _ _ _⟩

theorem buildSlice_sound (R : Rel F gh T e a w) (hg : gdOn T e gd) {t : TypeId} {n : Nat} {ps : Array (Nat × Operand)} (ho : o.op = .buildSlice t n ps) (hdst : o.dst = some d) (hd : d < F.n) {plan : Plan} (he : plan.dyn.ev S e some = some e')
    (h : ((elemT P t).bind fun e =>
    if inOrder 0 ps.toList ∧ ps.size = n ∧ szOf P e ≠ 0 ∧ n * szOf P e ≤ 16777216 ∧ zOk P e then
      (usesO hn T gd (ps.toList.map (·.2))).bind fun r => set1 T gd d (.mksl (szOf P e) r.1) (.one ⟨0, .own e (szOf P e)⟩) r.2.1 r.2.2
    else none) = some plan) : Good P F o a w (T.ups plan.ups) e' := by
  simp only [Option.bind_eq_some_iff] at h
  obtain ⟨el, hel, h⟩ := h
  split at h
  · rename_i hc
    obtain ⟨hc1, hc2, hc3, hc4, hc5⟩ := hc
    simp only [Option.bind_eq_some_iff] at h
    obtain ⟨⟨crs, ups, tr⟩, hu, h⟩ := h
    obtain ⟨av, h1, rfl, h3⟩ := set1_g h he
    simp only [PX.ev, evCRs_val, Option.bind_eq_some_iff, Option.some.injEq] at h1
    obtain ⟨avs, a1, av', a2, rfl⟩ := h1
    obtain ⟨gh1, g1, R1, _, g3⟩ := usesO_sound R hg hu a1
    obtain ⟨rfl, cells, r1, r2, r3, r4⟩ := run_buildSlice (w := w) (elemT_spec hel) hc5 hc3 hc4 hc1 hc2 a.eval (by rw [List.map_map] at g3; exact g3) a2
    have hnm : n ≤ maxLen := by
      have : n ≤ n * szOf P el := Nat.le_mul_of_pos_right _ (by omega)
      simp [maxLen]; omega
    obtain ⟨gh2, hR⟩ := R1.newSl (d := d) (gd := gd) (el := el) hd (show 0 < szOf P el by omega) r3 hnm r2 r4
    rw [h3]
    exact good_value (by simp only [execOp, ho]; exact run_v r1) (by rw [hdst]; exact hR)
  · cases h

theorem makeSlice_sound (R : Rel F gh T e a w) (hg : gdOn T e gd) {t : TypeId} {l c : Operand} (ho : o.op = .makeSlice t l c) (hdst : o.dst = some d) (hd : d < F.n) {plan : Plan} (he : plan.dyn.ev S e some = some e')
    (h : ((elemT P t).bind fun e => (zeroE P e).bind fun z => (rdO hn T gd l).bind fun l => (rdO hn T gd c).bind fun c =>
    if szOf P e = 0 ∨ !zOk P e ∨ (!isAg P e && szOf P e != 1) then none else set1 T gd d (.mks (P.bytesOf e) z l.1 c.1) (.one ⟨0, .own e (szOf P e)⟩) [] (l.2 ++ c.2)) = some plan) : Good P F o a w (T.ups plan.ups) e' := by
  simp only [Option.bind_eq_some_iff] at h
  obtain ⟨el, hel, z, hz, rl, hl, rc, hc, h⟩ := h
  split at h
  · cases h
  · rename_i hcc
    simp only [not_or, Bool.not_eq_true', Bool.not_eq_false, Bool.and_eq_true, bne_iff_ne, ne_eq, not_and, Decidable.not_not] at hcc
    obtain ⟨hc1, hc2, hc3⟩ := hcc
    obtain ⟨av, h1, rfl, h3⟩ := set1_g h he
    simp only [PX.ev, CR.ev_val, Option.bind_eq_some_iff, Option.some.injEq] at h1
    obtain ⟨al, l1, ac, c1, av', a2, rfl⟩ := h1
    obtain ⟨n, cells, rfl, r1, r2, r3, r4⟩ := run_mks (w := w) (elemT_spec hel) hc2 hc1 (fun h => hc3 (by simp [h])) hz (rdO_sound R hg hl l1) (rdO_sound R hg hc c1) a2
    obtain ⟨gh2, hR⟩ := R.newSl (d := d) (gd := gd) (el := el) hd (show 0 < szOf P el by omega) (by simp) r3 r2 (r4 _ _)
    rw [h3]
    exact good_value (by simp only [execOp, ho]; exact run_v r1) (by rw [hdst]; exact hR)

/-- A part of what a call gave is taken over. -/
theorem Rel.takeMd (R : Rel F gh T e a w) (hg : gdOn T e none) {t i : Nat} {ms : List Md} {m : Md} (htag : tagAt T none t = .tup ms) (hm : ms[i]? = some m) :
    ∃ (gh' : Gh) (xs : List AV) (vs : List Value) (x : AV) (v : Value), Rel F gh' (T.up t ⟨(T t).g, .tup (ms.set i .dead), (T t).gd⟩) e a w ∧ e t = [.tup xs] ∧ tmp a t = .tuple vs.toArray ∧ xs[i]? = some x ∧ vs[i]? = some v ∧ MdOk w gh' (.arg 0) m x v := by
  obtain ⟨h1, h2⟩ := tagAt_slot R hg (t := t) (by rw [htag]; simp)
  rw [htag] at h1
  rw [← h1] at h2
  obtain ⟨xs, vs, q1, q2, q3, q4, q5⟩ := h2
  have hi := (List.getElem?_eq_some_iff.1 hm).1
  have hxi : xs[i]? = some xs[i] := List.getElem?_eq_getElem (by omega)
  have hvi : vs[i]? = some vs[i] := List.getElem?_eq_getElem (by omega)
  let ρ : Key → Option Key := fun key => match key with | .own s j k => if s = t ∧ j = i then some (.arg 0 k) else some (.own s j k) | key => some key
  have hρ : ∀ key, ¬ about t key → ρ key = some key := fun key hk => by
    cases key with
    | own s j k => simp only [about] at hk; simp [ρ, hk]
    | _ => rfl
  have hgd := R.tok.ck t (by rw [← h1]; rfl)
  have hset : e.set t (e t) = e := set_id e t
  have Pr := Pers.ren gh w ρ (fun key => ¬ about t key) hρ
  have key := R.step (gh' := gh.ren ρ) (a' := a) (w' := w) t ⟨(T t).g, .tup (ms.set i .dead), (T t).gd⟩ (e t) (R.lt (by rw [← h1]; simp)) R.n R.df (fun _ _ => rfl) (R.base.ren ρ) Pr (fun s h => by simpa [about] using h) (fun s i k h => by simpa [about] using h)
    (.inr ⟨rfl, fun k c' hc => by simp [Tag.ck] at hc⟩) trivial (fun s g b h => by rw [hgd] at h; cases h) (fun _ => hgd) (fun _ h => by cases h) (fun k u y _ _ hy => by
      obtain ⟨_, hck⟩ := alOk_g hy
      rw [up_same] at hck
      simp [Tag.ck] at hck) (fun _ => ⟨rfl, fun B hB => by simp [Gh.ren, hB, ρ]⟩)
    (fun _ => ⟨xs, vs, by rw [set_same]; exact q1, q2, by simpa using q3, by simpa using q4, fun j m' x v a1 a2 a3 => by
      by_cases hj : j = i
      · subst hj
        rw [List.getElem?_set_self hi] at a1
        cases a1
        trivial
      · rw [List.getElem?_set_ne (Ne.symm hj)] at a1
        exact (q5 j m' x v a1 a2 a3).rename (fun k => by simp [ρ, hj])⟩)
    (fun hp => by rw [hset]; exact (R.hp hp).monoK Pr (fun i => by simp [about]) rfl rfl)
  rw [hset] at key
  exact ⟨_, xs, vs, xs[i], vs[i], key, q1, q2, hxi, hvi, (q5 i m _ _ hm hxi hvi).rename (fun k => by simp [ρ])⟩

theorem extract_sound (R : Rel F gh T e a w) (hg : gdOn T e gd) {x : Operand} {i : Nat} (ho : o.op = .extract x i) (hdst : o.dst = some d) (hd : d < F.n) {plan : Plan} (he : plan.dyn.ev S e some = some e')
    (h : (match (generalizing := false) x with
    | .tmp t => match tagAt T gd t with
      | .tup ms => match ms[i]? with
        | some .v => set1 T gd d (.ext i (.c t)) vT [] [t]
        | some (.own e s) => if gd.isSome then none else set1 T gd d (.ext i (.c t)) (.one ⟨0, .own e s⟩) [(t, ⟨(T t).g, .tup (ms.set i .dead), (T t).gd⟩)] [t]
        | some .dead => none
        | some (.agg ks) => if gd.isSome then none else some { dyn := .csp d (.ext i (.c t)), ups := [(t, ⟨(T t).g, .tup (ms.set i .dead), (T t).gd⟩), dstT T gd d (.agg (ks.map fun k => ⟨0, k⟩))], tr := [d, t] }
        | none => none
      | _ => none
    | _ => none) = some plan) : Good P F o a w (T.ups plan.ups) e' := by
  have hx : ∃ t, x = .tmp t := by cases x <;> first | exact ⟨_, rfl⟩ | cases h
  obtain ⟨t, rfl⟩ := hx
  simp only at h
  have hex : execOp a.eval o = (do pure (Next.value (← Instr.extract (tmp a t) i))) := by simp only [execOp, ho, eval_tmp]
  split at h
  · rename_i ms htag
    split at h
    · rename_i hm
      obtain ⟨h1, h2⟩ := tagAt_slot R hg (t := t) (by rw [htag]; simp)
      rw [htag] at h1
      rw [← h1] at h2
      obtain ⟨xs, vs, q1, q2, q3, q4, q5⟩ := h2
      have hi := (List.getElem?_eq_some_iff.1 hm).1
      have hxi : xs[i]? = some xs[i] := List.getElem?_eq_getElem (by omega)
      have hvi : vs[i]? = some vs[i] := List.getElem?_eq_getElem (by omega)
      refine good_rep R h hdst hd he hex fun av hav => ?_
      simp only [PX.ev, CR.ev_val, CR.val, q1, List.getElem?_cons_zero, Option.bind_some, A.ext, hxi, Option.some.injEq] at hav
      subst hav
      exact ⟨vs[i], gh, by rw [q2]; exact run_ext hvi, R, q5 i .v _ _ hm hxi hvi⟩
    · rename_i ee ss hm
      split at h
      · cases h
      · rename_i hgd
        have hgd : gd = none := by simpa using hgd
        subst hgd
        obtain ⟨gh1, xs, vs, x, v, R1, q1, q2, q3, q4, q5⟩ := R.takeMd hg htag hm
        obtain ⟨av, h1, rfl, h3⟩ := set1_g h he
        simp only [PX.ev, CR.ev_val, CR.val, q1, List.getElem?_cons_zero, Option.bind_some, A.ext, q3, Option.some.injEq] at h1
        subst h1
        obtain ⟨gh2, hR⟩ := Rel.putOwn (gd := none) R1 hd (i := 0) q5
        rw [h3]
        exact good_value (by rw [hex, q2]; exact run_v (run_ext q4)) (by rw [hdst]; exact hR)
    · cases h
    · rename_i ks hm
      split at h
      · cases h
      · rename_i hgd
        have hgd : gd = none := by simpa using hgd
        subst hgd
        obtain ⟨gh1, xs, vs, x, v, R1, q1, q2, q3, q4, q5⟩ := R.takeMd hg htag hm
        cases h
        simp only [Dyn.ev, PX.ev, CR.ev_val, CR.val, q1, List.getElem?_cons_zero, Option.bind_some, A.ext, q3, Option.bind_eq_some_iff, Option.some.injEq] at he
        obtain ⟨m, hm', rfl⟩ := he
        obtain ⟨cs, us, rfl, rfl, hco⟩ := q5
        simp only [A.cs, if_true, Option.some.injEq] at hm'
        subst hm'
        have e1 : dstT T none d (.agg (ks.map fun k => ⟨0, k⟩)) = dstT (T.up t ⟨(T t).g, .tup (ms.set i .dead), (T t).gd⟩) none d (.agg (ks.map fun k => ⟨0, k⟩)) := by
          unfold dstT
          by_cases e' : d = t
          · subst e'; rw [up_same]
          · rw [up_other _ _ _ _ e']
        have hk : (ks.map fun k => (⟨0, k⟩ : CK)).map CK.k = ks := by rw [List.map_map]; exact List.map_id _
        obtain ⟨gh2, hR⟩ := R1.putAgg (d := d) (ks := ks.map fun k => ⟨0, k⟩) hd (i := 0) (by rw [hk]; exact hco)
        refine good_value (by rw [hex, q2]; exact run_v (run_ext q4)) (by
          rw [hdst]
          simp only [Tags.ups]
          rw [e1]
          exact hR)
    · cases h
  · cases h

end
end Tr

namespace Tr
open Go

section
variable {P : Program} {F : Fm} {gh gh' : Gh} {T T' : Tags} {e e' : Env} {a : Act} {w w' : World} {o : Oper} {hn : Hn} {gd : Option (Nat × Nat × Bool)} {S : Fns} {d : Nat}

/-- A variable that nobody writes from now on. -/
theorem Rel.capBox (R : Rel F gh T e a w) {t : Nat} {ks : List CK} (htag : (T t).tag = .box ks) (hl : ks.all (fun c => c.k.live) = true) :
    ∃ gh', GS gh gh' ∧ Rel F gh' (T.up t ⟨(T t).g + 1, vT, none⟩) (e.set t [.ip (e t)]) a w ∧ Rep w gh'.im gh'.et (.ip (e t)) (tmp a t) := by
  obtain ⟨B, vs, el, q1, q2, q3, q4⟩ := box_slot R htag
  let ρ : Key → Option Key := rn (about t) none
  have hρ : ∀ key, ¬ about t key → ρ key = some key := fun key h => rn_out h
  have Pr := Pers.ren gh w ρ (fun key => ¬ about t key) hρ
  have hrep : RepL w (gh.ren ρ).im (gh.ren ρ).et (e t) vs := by
    have hco : CellsOk w (gh.ren ρ) (.own t 0) ((ks.map frK).map CK.k) (e t) vs := q4.ren (by simp) (fun k c' hk => by
      obtain ⟨c0, p1, p2⟩ := map_k hk
      simp only [List.getElem?_map, Option.map_eq_some_iff] at p1
      obtain ⟨c, h1, rfl⟩ := p1
      refine ⟨c.k, by simp [List.getElem?_map, h1], ?_⟩
      subst p2
      cases hq : c.k with
      | dead => simp [frK, hq]; exact .dead _
      | v => simp [frK, hq]; exact .v
      | own e s => simp [frK, hq]; exact .fr e s (rn_in (by simp [about])))
    refine hco.v ?_
    rw [List.all_map, List.all_map]
    rw [List.all_eq_true] at hl ⊢
    intro c hc
    simp only [Function.comp]
    rw [frK_v (hl c hc)]; rfl
  have hip : Rep w (gh.ren ρ).im (gh.ren ρ).et (.ip (e t)) (tmp a t) := by
    rw [q2]
    refine .ip (e t) _ vs hrep q4.2.2.1 (.inr ⟨_, q1, rn_in (by simp [about])⟩) (fun j u hu => ?_)
    rw [Addr.add_lit, cell_of_row w B _ _ el (0, 0) q3]
    simpa using hu
  have hbn : t < F.n := R.lt (by rw [htag]; simp)
  refine ⟨gh.ren ρ, GS.ren gh ρ (fun i k => rn_out (by simp [about])), ?_, hip⟩
  exact R.step t ⟨(T t).g + 1, vT, none⟩ _ hbn R.n R.df (fun _ _ => rfl) (R.base.ren ρ) Pr (fun s h => by simpa [about] using h) (fun s i k h => by simpa [about] using h)
    (.inl (Nat.lt_succ_self _)) trivial (fun s g b h => by cases h) (fun _ => rfl) (fun h => by simp at h) (fun k u y h => by simp at h) (fun h => by simp at h)
    (fun _ => ⟨_, set_same _ _ _, hip⟩) (fun hp => (R.hp hp).monoK Pr (fun i => by simp [about]) (set_other _ _ _ _ (by have := R.le; omega)) rfl)

theorem ups_far (t : Nat) : ∀ (l : List (Nat × Tg)) (T : Tags), (∀ y ∈ l, y.1 ≠ t) → (T.ups l) t = T t
  | [], _, _ => rfl
  | (s, x) :: r, T, h => by
    rw [Tags.ups, ups_far t r _ (fun y hy => h y (by simp [hy])), up_other]
    exact fun e => h (s, x) (by simp) e.symm

theorem ups_comm (t : Nat) (x : Tg) : ∀ (l : List (Nat × Tg)) (T : Tags), (∀ y ∈ l, y.1 ≠ t) → (T.up t x).ups l = (T.ups l).up t x
  | [], _, _ => rfl
  | (s, y) :: r, T, h => by
    have hst : s ≠ t := h (s, y) (by simp)
    have : (T.up t x).up s y = (T.up s y).up t x := by
      funext j
      simp only [Tags.up]
      by_cases h1 : j = s
      · subst h1; simp [hst]
      · simp [h1]
    rw [Tags.ups, this, ups_comm t x r _ (fun y hy => h y (by simp [hy])), Tags.ups]

theorem capsO_far : ∀ {l : List Operand} {q : List (Nat × Bool)} {ups : List (Nat × Tg)}, capsO T l = some (q, ups) → ∀ t, q.any (fun x => x.1 == t) = false → (∀ y ∈ ups, y.1 ≠ t) ∧ (capE e q) t = e t
  | [], q, ups, h, t, _ => by cases h; exact ⟨by simp, rfl⟩
  | x :: r, q, ups, h, t, ht => by
    unfold capsO at h
    split at h
    · rename_i hx; cases hx
    · rename_i s r' hx
      cases hx
      split at h
      · split at h
        · simp only [Option.bind_eq_some_iff] at h
          obtain ⟨⟨q', ups'⟩, h1, h⟩ := h
          split at h
          · cases h
          · cases h
            simp only [List.any_cons, Bool.or_eq_false_iff, beq_eq_false_iff_ne, ne_eq] at ht
            obtain ⟨i1, i2⟩ := capsO_far h1 t ht.2
            refine ⟨fun y hy => ?_, ?_⟩
            · rcases List.mem_cons.1 hy with rfl | hy
              · exact ht.1
              · exact i1 y hy
            · simp only [capE]
              rw [set_other _ _ _ _ (Ne.symm ht.1)]
              exact i2
        · cases h
      · split at h
        · simp only [Option.bind_eq_some_iff] at h
          obtain ⟨⟨q', ups'⟩, h1, h⟩ := h
          split at h
          · cases h
          · cases h
            simp only [List.any_cons, Bool.or_eq_false_iff, beq_eq_false_iff_ne, ne_eq] at ht
            exact capsO_far h1 t ht.2
        · cases h
      · cases h
    · cases h

theorem capsO_sound (R : Rel F gh T e a w) : ∀ {l : List Operand} {q : List (Nat × Bool)} {ups : List (Nat × Tg)}, capsO T l = some (q, ups) →
    ∃ gh', GS gh gh' ∧ Rel F gh' (T.ups ups) (capE e q) a w ∧ RepL w gh'.im gh'.et (capV e q) (l.map a.eval)
  | [], q, ups, h => by cases h; exact ⟨gh, GS.refl gh, R, .nil⟩
  | x :: r, q, ups, h => by
    unfold capsO at h
    split at h
    · rename_i hx; cases hx
    · rename_i s r' hx
      cases hx
      split at h
      · rename_i ks hgd htag
        split at h
        · rename_i hl
          simp only [Option.bind_eq_some_iff] at h
          obtain ⟨⟨q', ups'⟩, h1, h⟩ := h
          split at h
          · cases h
          · rename_i hany
            cases h
            obtain ⟨gh1, g1, R1, r1⟩ := capsO_sound R h1
            obtain ⟨f1, f2⟩ := capsO_far (e := e) h1 s (Bool.not_eq_true _ ▸ hany)
            have hT : (T.ups ups') s = T s := ups_far s _ _ f1
            obtain ⟨gh2, g2, R2, r2⟩ := R1.capBox (t := s) (by rw [hT]; exact htag) hl
            rw [hT, f2] at R2
            rw [f2] at r2
            refine ⟨gh2, g1.trans g2, ?_, .cons _ _ _ _ r2 (r1.mono (g2.stay w))⟩
            simp only [Tags.ups, capE]
            rw [ups_comm s _ _ _ f1]
            exact R2
        · cases h
      · rename_i c hgd htag
        split at h
        · rename_i hv
          simp only [Option.bind_eq_some_iff] at h
          obtain ⟨⟨q', ups'⟩, h1, h⟩ := h
          split at h
          · cases h
          · cases h
            obtain ⟨gh1, g1, R1, r1⟩ := capsO_sound R h1
            refine ⟨gh1, g1, R1, ?_⟩
            have hs := R.slot s (by rw [hgd]; trivial)
            rw [htag] at hs
            obtain ⟨z, hz, ho⟩ := hs
            simp only [capV, hz]
            refine .cons _ _ _ _ ?_ r1
            cases hk : c.k with
            | v => rw [hk] at ho; exact Rep.mono (g1.stay w) ho
            | _ => simp [CK.isV, hk, CKd.isV] at hv
        · cases h
      · cases h
    · cases h

theorem makeFunc_sound (R : Rel F gh T e a w) (hg : gdOn T e gd) {f : Nat} {first cap : Array Operand} (ho : o.op = .makeFunc (.func f) first cap) (hdst : o.dst = some d) (hd : d < F.n) {plan : Plan} (he : plan.dyn.ev S e some = some e')
    (h : (match cap.toList with
    | [] => (usesO hn T gd first.toList).bind fun r => set1 T gd d (.fn f r.1 []) vT r.2.1 r.2.2
    | cs => if gd.isSome then none else (usesO hn T gd first.toList).bind fun r => (capsO (T.ups r.2.1) cs).bind fun q =>
      some { dyn := .fnc d f r.1 q.1, ups := r.2.1 ++ q.2 ++ [dstT ((T.ups r.2.1).ups q.2) gd d vT], tr := d :: (r.2.2 ++ q.1.map (·.1)) }) = some plan) : Good P F o a w (T.ups plan.ups) e' := by
  have hrun : (execOp a.eval o).run P w = .ok (.value (.func (.func f) (first.toList.map a.eval).toArray (cap.toList.map a.eval).toArray)) w := by
    have e1 : (first.toList.map a.eval).toArray = first.map a.eval := by rw [← Array.toList_map]
    have e2 : (cap.toList.map a.eval).toArray = cap.map a.eval := by rw [← Array.toList_map]
    rw [e1, e2]
    simp only [execOp, ho, Instr.makeFunc, Sem.run_bind, Sem.run_pure, Result.andThen_ok]
  split at h
  · rename_i hc
    rw [hc] at hrun
    simp only [Option.bind_eq_some_iff] at h
    obtain ⟨⟨crs, ups, tr⟩, hu, h⟩ := h
    refine good_v h hdst hd he fun av hav => ?_
    simp only [PX.ev, evCRs_val, valCRs, Option.bind_some, Option.bind_eq_some_iff, Option.some.injEq] at hav
    obtain ⟨avs, h1, rfl⟩ := hav
    obtain ⟨gh1, g1, R1, _, g3⟩ := usesO_sound R hg hu h1
    exact ⟨_, gh1, hrun, R1, .fn f avs [] _ [] g3 .nil⟩
  · split at h
    · cases h
    · rename_i hgd
      have hgd : gd = none := by simpa using hgd
      subst hgd
      simp only [Option.bind_eq_some_iff] at h
      obtain ⟨⟨crs, ups, tr⟩, hu, ⟨q, qups⟩, hq, h⟩ := h
      cases h
      simp only [Dyn.ev, evCRs_val, Option.bind_eq_some_iff, Option.some.injEq] at he
      obtain ⟨avs, h1, rfl⟩ := he
      obtain ⟨gh1, g1, R1, _, g3⟩ := usesO_sound R hg hu h1
      obtain ⟨gh2, g2, R2, r2⟩ := capsO_sound R1 hq
      refine good_value (gh' := gh2) hrun (by
        rw [hdst, ups_append, ups_append, dstT_v]
        exact R2.putV d hd _ _ (.fn f avs _ _ _ (g3.mono (g2.stay w)) r2))

end
end Tr

namespace Tr
open Go

section
variable {P : Program} {F : Fm} {gh gh' : Gh} {T T' : Tags} {e e' : Env} {a : Act} {w w' : World} {o : Oper} {hn : Hn} {gd : Option (Nat × Nat × Bool)} {S : Fns} {d : Nat}

theorem arr1 {α : Type} {x : Array α} {a : α} (h : x.toList = [a]) : x = #[a] := by
  have := congrArg List.toArray h
  simpa using this
theorem arr2 {α : Type} {x : Array α} {a b : α} (h : x.toList = [a, b]) : x = #[a, b] := by
  have := congrArg List.toArray h
  simpa using this

theorem exec_len {c : Call} (ho : o.op = .call c) (hc : c.callee = .builtin .len) (ρ : Operand → Value) : execOp ρ o = (do pure (Next.value (← Builtin.len_ c.argTypes o.type (c.args.map ρ)))) := by
  obtain ⟨dst, op, type, pos, after, guard⟩ := o
  simp only at ho
  subst ho
  obtain ⟨callee, args, ats⟩ := c
  simp only at hc
  subst hc
  rfl
theorem exec_append {c : Call} (ho : o.op = .call c) (hc : c.callee = .builtin .append) (ρ : Operand → Value) : execOp ρ o = (do pure (Next.value (← Builtin.append_ c.argTypes o.type (c.args.map ρ)))) := by
  obtain ⟨dst, op, type, pos, after, guard⟩ := o
  simp only at ho
  subst ho
  obtain ⟨callee, args, ats⟩ := c
  simp only at hc
  subst hc
  rfl
theorem exec_min {c : Call} (ho : o.op = .call c) (hc : c.callee = .builtin .min) (ρ : Operand → Value) : execOp ρ o = (do pure (Next.value (← Builtin.min_ c.argTypes o.type (c.args.map ρ)))) := by
  obtain ⟨dst, op, type, pos, after, guard⟩ := o
  simp only at ho
  subst ho
  obtain ⟨callee, args, ats⟩ := c
  simp only at hc
  subst hc
  rfl
theorem exec_max {c : Call} (ho : o.op = .call c) (hc : c.callee = .builtin .max) (ρ : Operand → Value) : execOp ρ o = (do pure (Next.value (← Builtin.max_ c.argTypes o.type (c.args.map ρ)))) := by
  obtain ⟨dst, op, type, pos, after, guard⟩ := o
  simp only at ho
  subst ho
  obtain ⟨callee, args, ats⟩ := c
  simp only at hc
  subst hc
  rfl

theorem len_sound (R : Rel F gh T e a w) (hg : gdOn T e gd) {c : Call} (ho : o.op = .call c) (hc : c.callee = .builtin .len) (hdst : o.dst = some d) (hd : d < F.n) {plan : Plan} (he : plan.dyn.ev S e some = some e')
    (h : (match c.args.toList, c.argTypes.toList with
    | [x], [t] => if isStr P t || (elemT P t).isSome then (rdO hn T gd x).bind fun r => set1 T gd d (.len (isStr P t) r.1) vT [] r.2 else none
    | _, _ => none) = some plan) : Good P F o a w (T.ups plan.ups) e' := by
  split at h
  · rename_i x t hx ht
    split at h
    · rename_i hk
      simp only [Option.bind_eq_some_iff] at h
      obtain ⟨r, hr, h⟩ := h
      refine good_sc R h hdst hd he (exec_len ho hc a.eval) fun av hav => ?_
      simp only [PX.ev, CR.ev_val, Option.bind_eq_some_iff, Option.some.injEq] at hav
      obtain ⟨ax, x1, av', h1, rfl⟩ := hav
      have em : (#[x] : Array Operand).map a.eval = #[a.eval x] := by simp
      rw [arr1 hx, arr1 ht, em]
      exact run_len (by simpa using hk) (rdO_sound R hg hr x1) h1
    · cases h
  · cases h

theorem min_sound (R : Rel F gh T e a w) (hg : gdOn T e gd) {c : Call} (ho : o.op = .call c) (hc : c.callee = .builtin .min) (hdst : o.dst = some d) (hd : d < F.n) {plan : Plan} (he : plan.dyn.ev S e some = some e')
    (h : (match c.args.toList with
    | [x, y] => (rdO hn T gd x).bind fun r => (rdO hn T gd y).bind fun q => set1 T gd d (.mn r.1 q.1) vT [] (r.2 ++ q.2)
    | _ => none) = some plan) : Good P F o a w (T.ups plan.ups) e' := by
  split at h
  · rename_i x y hx
    simp only [Option.bind_eq_some_iff] at h
    obtain ⟨r, hr, q, hq, h⟩ := h
    refine good_sc R h hdst hd he (exec_min ho hc a.eval) fun av hav => ?_
    simp only [PX.ev, CR.ev_val, Option.bind_eq_some_iff, Option.some.injEq] at hav
    obtain ⟨ax, x1, ay, y1, av', h1, rfl⟩ := hav
    rw [arr2 hx]
    have kx := rdO_sound R hg hr x1
    have ky := rdO_sound R hg hq y1
    have em : (#[x, y] : Array Operand).map a.eval = #[a.eval x, a.eval y] := by simp
    rw [em]
    revert kx ky
    generalize a.eval x = vx
    generalize a.eval y = vy
    intro kx ky
    unfold A.mn at h1
    split at h1
    · cases h1
      cases kx; cases ky
      exact ⟨_, run_min_int2 w _ _ _ _ _ _, sc_int _ _⟩
    · cases h1
  · cases h

theorem max_sound (R : Rel F gh T e a w) (hg : gdOn T e gd) {c : Call} (ho : o.op = .call c) (hc : c.callee = .builtin .max) (hdst : o.dst = some d) (hd : d < F.n) {plan : Plan} (he : plan.dyn.ev S e some = some e')
    (h : (match c.args.toList with
    | [x, y] => (rdO hn T gd x).bind fun r => (rdO hn T gd y).bind fun q => set1 T gd d (.mx r.1 q.1) vT [] (r.2 ++ q.2)
    | _ => none) = some plan) : Good P F o a w (T.ups plan.ups) e' := by
  split at h
  · rename_i x y hx
    simp only [Option.bind_eq_some_iff] at h
    obtain ⟨r, hr, q, hq, h⟩ := h
    refine good_sc R h hdst hd he (exec_max ho hc a.eval) fun av hav => ?_
    simp only [PX.ev, CR.ev_val, Option.bind_eq_some_iff, Option.some.injEq] at hav
    obtain ⟨ax, x1, ay, y1, av', h1, rfl⟩ := hav
    rw [arr2 hx]
    have kx := rdO_sound R hg hr x1
    have ky := rdO_sound R hg hq y1
    have em : (#[x, y] : Array Operand).map a.eval = #[a.eval x, a.eval y] := by simp
    rw [em]
    revert kx ky
    generalize a.eval x = vx
    generalize a.eval y = vy
    intro kx ky
    unfold A.mx at h1
    split at h1
    · cases h1
      cases kx; cases ky
      exact ⟨_, run_max_int2 w _ _ _ _ _ _, sc_int _ _⟩
    · cases h1
  · cases h

/-- A slice's elements, wherever they lie. -/
def Els (w : World) (gh : Gh) (xs : List AV) (v : Value) : Prop :=
  (v = .slice none 0 0 ∧ xs = []) ∨ ∃ ad cap sz vs, v = .slice (some ad) xs.length cap ∧ RepE w gh.im gh.et sz xs vs ∧ ∀ j u, vs[j]? = some u → w.cell? (ad.add j) = some u

theorem Rep.els {x : AV} {v : Value} (h : Rep w gh.im gh.et x v) {xs : List AV} (hx : A.els x = some xs) : Els w gh xs v := by
  cases h with
  | nil => simp [A.els] at hx; exact .inl ⟨rfl, hx⟩
  | sl xs' ad cap sz vs h1 h2 h3 h4 => simp [A.els] at hx; subst hx; exact .inr ⟨ad, cap, sz, vs, rfl, h1, h4⟩
  | _ => simp [A.els] at hx

theorem OwnOk.els {ee sz : Nat} {key : Key} {x : AV} {v : Value} (h : OwnOk w gh ee sz key x v) {xs : List AV} (hx : A.els x = some xs) : Els w gh xs v := by
  obtain ⟨xs', vs, hsl, ho, hr, hz, _⟩ := h
  have hx' : xs' = xs := by rcases hsl with ⟨rfl, _⟩ | ⟨rfl, rfl, _⟩ <;> simpa [A.els] using hx
  subst hx'
  rcases ho.2 with ⟨rfl, hn⟩ | ⟨g, cap, cur, rfl, _, hg, hc, _⟩
  · exact .inl ⟨rfl, List.eq_nil_of_length_eq_zero hn⟩
  · exact .inr ⟨_, cap, sz, vs, rfl, hr, ho.cells (g := g) rfl⟩

theorem rdO_els (R : Rel F gh T e a w) (hg : gdOn T e gd) {x : Operand} {cr : CR} {tr : List Nat} (h : rdO hn T gd x = some (cr, tr)) {av : AV} (hv : cr.val e = some av) {xs : List AV} (hx : A.els av = some xs) : Els w gh xs (a.eval x) := by
  have hrd := rdO_sound R hg h hv
  unfold rdO at h
  cases x with
  | const v =>
    simp only [Option.bind_eq_some_iff] at h
    obtain ⟨z, hz, h⟩ := h
    cases h
    simp [CR.val] at hv
    subst hv
    exact Rep.els (cvV_rep hz) hx
  | func f =>
    cases h
    simp [CR.val] at hv
    subst hv
    cases hx
  | global g => cases h
  | tmp t =>
    simp only at h
    rw [eval_tmp]
    cases htag : tagAt T gd t with
    | one c =>
      rw [htag] at h
      obtain ⟨h1, h2⟩ := tagAt_slot R hg (t := t) (by rw [htag]; simp)
      rw [← h1, htag] at h2
      simp only at h
      split at h
      · rename_i hl
        cases h
        obtain ⟨z, hz, ho⟩ := h2
        simp [CR.val, hz] at hv
        subst hv
        cases hk : c.k with
        | dead => rw [hk] at hl; cases hl
        | v => rw [hk] at ho; exact Rep.els ho hx
        | own ee ss => rw [hk] at ho; exact OwnOk.els ho hx
      · cases h
    | agg ks =>
      rw [htag] at h
      simp only at h
      split at h
      · cases h
        simp [CR.val] at hv
        subst hv
        cases hx
      · cases h
    | al t' k g u =>
      rw [htag] at h
      obtain ⟨h1, h2⟩ := tagAt_slot R hg (t := t) (by rw [htag]; simp)
      rw [← h1, htag] at h2
      simp only [Option.bind_eq_some_iff] at h
      obtain ⟨y, hy, h⟩ := h
      cases h
      obtain ⟨x, v, c1, c2, c3⟩ := alOk_own R hy
      have := h2 y hy
      rw [c2] at this
      cases this
      rw [c1] at hv
      cases hv
      exact c3.els hx
    | _ => rw [htag] at h; cases h

theorem append_sound (R : Rel F gh T e a w) (hg : gdOn T e gd) {c : Call} (ho : o.op = .call c) (hc : c.callee = .builtin .append) (hdst : o.dst = some d) (hd : d < F.n) {plan : Plan} (he : plan.dyn.ev S e some = some e')
    (h : (match c.args.toList, c.argTypes.toList with
    | [x, y], [t, t2] => (elemT P t).bind fun e =>
      if (isInt P t2).isSome then none else
      (takeO T gd e (szOf P e) x).bind fun r => (rdO hn (T.ups r.2.1) gd y).bind fun q =>
      if szOf P e = 0 ∨ gd.isSome ∨ !zOk P e ∨ P.bytesOf e = 0 ∨ !(isStr P t2 || (elemT P t2).isSome) then none else
      set1 T gd d (.app (szOf P e) (P.bytesOf e) r.1 q.1) (.one ⟨0, .own e (szOf P e)⟩) r.2.1 (r.2.2 ++ q.2)
    | _, _ => none) = some plan) : Good P F o a w (T.ups plan.ups) e' := by
  split at h
  · rename_i x y t t2 hx ht
    simp only [Option.bind_eq_some_iff] at h
    obtain ⟨el, hel, h⟩ := h
    split at h
    · cases h
    · simp only [Option.bind_eq_some_iff] at h
      obtain ⟨⟨cr, ups, tr⟩, hu, ⟨cq, trq⟩, hq, h⟩ := h
      split at h
      · cases h
      · rename_i hcc
        simp only [not_or, Bool.not_eq_true', Bool.not_eq_false] at hcc
        obtain ⟨hc1, hc2, hc3, hc4, hc5⟩ := hcc
        have hgd : gd = none := by simpa using hc2
        subst hgd
        obtain ⟨i, z, hi, hz, hsz, hcs⟩ := zOk_spec hc3
        have hby : P.bytesOf el = i.bytes := by simp [Program.bytesOf, hi]
        have hss : szOf P el = i.size := hsz.symm
        obtain ⟨av, h1, rfl, h3⟩ := set1_g h he
        simp only [PX.ev, CR.ev_val, Option.bind_eq_some_iff, Option.some.injEq] at h1
        obtain ⟨ax, x1, ay, y1, r, hr, rfl⟩ := h1
        obtain ⟨gh1, g1, R1, ho1⟩ := takeO_sound R hg 0 (by omega) hu x1
        have krd := rdO_sound R1 (gd := none) trivial hq y1
        have hkind : (∃ e', P.underlying t2 = some (.slice e')) ∨ P.underlying t2 = some .string := by
          cases hs2 : isStr P t2 with
          | true => exact .inr (isStr_spec hs2)
          | false =>
            simp only [hs2, Bool.false_or, Option.isSome_iff_exists] at hc5
            obtain ⟨e2, h2⟩ := hc5
            exact .inl ⟨e2, elemT_spec h2⟩
        rw [hss] at ho1 hr
        rw [hby] at hr
        obtain ⟨xs, vs, hsl, how, hre, hpos, hkey⟩ := ho1
        have hels : A.els ax = some xs := by rcases hsl with ⟨rfl, _⟩ | ⟨rfl, rfl, _⟩ <;> rfl
        have hbase : (0 : Nat) ≤ w.heap.size := Nat.zero_le _
        -- what is appended
        have src : ∃ (ys : List AV) (news : List Value), r = A.appW ax ys (xs ++ ys) ∧ Src P i.size t2 (a.eval y) ys.length news w ∧ RepE w gh1.im gh1.et i.size ys news ∧ (xs.length + ys.length) * i.bytes ≤ 140737488355328 := by
          unfold A.app at hr
          simp only [hels, Option.bind_some] at hr
          split at hr
          · rename_i s
            split at hr
            · rename_i hcs'
              cases hr
              obtain ⟨hs1, hs2⟩ := hcs'
              revert krd
              generalize a.eval y = vy
              intro krd
              cases krd
              have hb : byteCells ⟨s.toArray⟩ = s.map fun b => Value.int .u8 b.toNat := by simp [byteCells]
              have hlen : (ByteArray.mk s.toArray).size = s.length := by simp [ByteArray.size]
              refine ⟨A.ofBytes s, s.map fun b => Value.int .u8 b.toNat, rfl, ?_, by rw [hs1]; exact ofBytes_rep s, by simpa [A.ofBytes] using hs2⟩
              rw [hs1]
              have hl : (A.ofBytes s).length = s.length := by simp [A.ofBytes]
              rw [hl, ← hb, ← hlen]
              exact ⟨hkind, fun _ => rfl, firstCells_string _ w, firstCells_string _ w.drew, by rw [byteCells_length, Nat.mul_one], fun u hu => by
                obtain ⟨_, _, rfl⟩ := List.mem_map.1 hu
                rfl⟩
            · cases hr
          · simp only [Option.bind_eq_some_iff] at hr
            obtain ⟨ys, hys, hr⟩ := hr
            split at hr
            · rename_i hcs'
              cases hr
              obtain ⟨hs1, hs2⟩ := hcs'
              rcases rdO_els R1 (gd := none) trivial hq y1 hys with ⟨hv, rfl⟩ | ⟨ad, cap, sz', us, hv, hE, hm⟩
              · rw [hv]
                exact ⟨[], [], rfl, ⟨hkind, fun _ => rfl, run_firstCells_none w i.size 0 0 0, run_firstCells_none w.drew i.size 0 0 0, by simp, fun _ h => by cases h⟩, .nil _, hs2⟩
              · have hE' := hdSz_spec hE hs1
                rw [hv]
                exact ⟨ys, us, rfl, ⟨hkind, fun _ => rfl, run_firstCells_some w i.size _ ad _ cap us hE'.len hm, run_firstCells_some w.drew i.size _ ad _ cap us hE'.len (by simpa using hm), hE'.len, hE'.one⟩, hE', hs2⟩
            · cases hr
        obtain ⟨ys, news, rfl, hsrc, hnE, hbytes⟩ := src
        obtain ⟨v', w', hrun, hown', hG, hvb, hvl, hvn, hvs⟩ := run_app (ty := o.type) (elemT_spec hel) hi hz (by rw [hcs, ← hsz]) hpos (by omega) how hsrc hbytes hbase
        have hrow : ∀ b, (a.eval x).ownBlock = some b → gh1.ow b = some (.arg 0 0) := hkey
        -- the owners now
        have main : ∃ gh2, Base F gh2 w' ∧ Pers gh1 gh2 w w' (fun key => ∀ i j, key ≠ .arg i j) ∧ gh2.et = gh1.et ∧ (∀ B, v'.ownBlock = some B → gh2.ow B = some (.arg 0 0)) := by
          have keep : ∀ (gh2 : Gh), gh2.im = gh1.im → gh2.et = gh1.et → (∀ b k, b < w.heap.size → gh1.ow b = some k → gh2.ow b = some k) → (∀ b, b < w.heap.size → gh1.ow b = none → gh2.ow b = none) → (∀ b k, gh2.ow b = some k → (F.O b ∨ F.w0.heap.size ≤ b) ∧ b < w'.heap.size) →
              Base F gh2 w' ∧ Pers gh1 gh2 w w' (fun key => ∀ i j, key ≠ .arg i j) := by
            intro gh2 him het hk hkn hown2
            have hbk : ∀ b k, gh1.ow b = some k → (∀ i j, k ≠ .arg i j) → w'.heap[b]? = w.heap[b]? := fun b k hb hk' =>
              hG.block b (R1.base.owned b k hb).2 (fun e => by have := hrow b e.symm; rw [hb] at this; cases this; exact hk' _ _ rfl)
            have hib : ∀ b, gh1.im b → w'.heap[b]? = w.heap[b]? := fun b hb =>
              hG.block b (R1.base.imm b hb).2.1 (fun e => by have := hrow b e.symm; rw [(R1.base.imm b hb).1] at this; cases this)
            refine ⟨⟨Nat.le_trans R1.base.sz hG.size, fun b hb hO => ?_, hown2, fun b hb => ?_, fun b hb => by rw [him]; exact R1.base.im0 b hb, fun i B h => by rw [het]; exact R1.base.et i B h, fun h => het.trans (R1.base.et2 h), R1.base.st.trans hG.st⟩, ⟨⟨fun b hb => by rw [him]; exact hb, hib, fun i B h => by rw [het]; exact h⟩, fun b k hb hk' => ⟨hk b k (R1.base.owned b k hb).2 hb, hbk b k hb hk'⟩⟩⟩
            · rw [← R1.base.keep b hb hO]
              refine hG.block b (Nat.lt_of_lt_of_le hb R1.base.sz) (fun e => ?_)
              rcases (R1.base.owned b _ (hrow b e.symm)).1 with h1 | h1
              · exact hO h1
              · omega
            · rw [him] at hb
              obtain ⟨h1, h2, h3⟩ := R1.base.imm b hb
              exact ⟨hkn b h2 h1, Nat.lt_of_lt_of_le h2 hG.size, h3⟩
          rcases hvb with hvb | hvb
          · have := keep gh1 rfl rfl (fun _ _ _ h => h) (fun _ _ h => h) (fun b k hb => ⟨(R1.base.owned b k hb).1, Nat.lt_of_lt_of_le (R1.base.owned b k hb).2 hG.size⟩)
            exact ⟨gh1, this.1, this.2, rfl, fun B hB => hrow B (by rw [← hvb]; exact hB)⟩
          · have := keep (gh1.new w (.arg 0 0)) rfl rfl (fun b k hb h => by simp only [Gh.new]; rw [if_neg (by omega)]; exact h) (fun b hb h => by simp only [Gh.new]; rw [if_neg (by omega)]; exact h) (fun b k hb => by
              simp only [Gh.new] at hb
              split at hb
              · rename_i hbe; subst hbe; exact ⟨.inr R1.base.sz, hvl _ hvb⟩
              · exact ⟨(R1.base.owned b k hb).1, Nat.lt_of_lt_of_le (R1.base.owned b k hb).2 hG.size⟩)
            exact ⟨_, this.1, this.2, rfl, fun B hB => by rw [hvb] at hB; cases hB; exact new_ow _ _ _⟩
        obtain ⟨gh2, hB2, hP2, het2, hk2⟩ := main
        have R2 := R1.world hB2 hP2 het2 (fun _ _ _ h => by cases h) (fun _ _ _ _ _ h => by cases h) (fun _ _ _ _ h => by cases h)
        have hown : OwnOk w' gh2 el (szOf P el) (.arg 0 0) (A.appW ax ys (xs ++ ys)) v' := by
          rw [hss]
          refine ⟨xs ++ ys, _, ?_, ?_, ((hre.app hnE).mono hP2.stay), hpos, hk2⟩
          · rcases hsl with ⟨rfl, ad, l, c, hvx⟩ | ⟨rfl, rfl, hvx⟩
            · exact .inl ⟨rfl, hvs (.inl (by rw [hvx]; simp))⟩
            · cases ys with
              | nil => exact .inr ⟨rfl, rfl, hvn hvx rfl⟩
              | cons y0 ys => exact .inl ⟨rfl, hvs (.inr (by simp))⟩
          · rw [List.length_append]
            exact hown'
        obtain ⟨gh3, hR⟩ := Rel.putOwn (gd := none) R2 hd (i := 0) hown
        rw [h3]
        refine good_value (gh' := gh3) ?_ (by rw [hdst]; exact hR)
        rw [exec_append ho hc a.eval, arr2 hx, arr2 ht]
        exact run_v (by simpa using hrun)
  · cases h

end
end Tr

namespace Tr
open Go

structure Ret (w : World) (gh : Gh) (O : Nat → Prop) (w' : World) (gh' : Gh) : Prop where
  size : w.heap.size ≤ w'.heap.size
  keep : ∀ b, b < w.heap.size → ¬ O b → w'.heap[b]? = w.heap[b]?
  owned : ∀ b k, gh'.ow b = some k → (O b ∨ w.heap.size ≤ b) ∧ b < w'.heap.size
  imm : ∀ b, gh'.im b → gh'.ow b = none ∧ b < w'.heap.size ∧ (gh.im b ∨ O b ∨ w.heap.size ≤ b)
  im : ∀ b, gh.im b → gh'.im b
  st : SameS w w'

def resOk (w : World) (gh : Gh) (rs : List Md) (r : AV) (v : Value) : Prop :=
  match rs with
  | [m] => MdOk w gh (.arg 0) m r v
  | ms => ∃ xs vs, r = .tup xs ∧ v = .tuple vs.toArray ∧ MdsOk w gh .arg ms xs vs

def argB (gh : Gh) (b : Nat) : Prop := ∃ i k, gh.ow b = some (.arg i k)
def heapB (gh : Gh) (b : Nat) : Prop := ∃ i, gh.ow b = some (.heap i)

/-- The owners are sensible. -/
structure GhOk (w : World) (gh : Gh) : Prop where
  ow : ∀ b k, gh.ow b = some k → b < w.heap.size
  im : ∀ b, gh.im b → gh.ow b = none ∧ b < w.heap.size

/-- A function that is handed no own memory. -/
def FOk0 (P : Program) (sg : Sg) (f : Nat) (φ : List AV → Option AV) : Prop :=
  ∀ (w : World) (gh : Gh) (avs : List AV) (vals : List Value) (r : AV), GhOk w gh → ArgsOk w gh 0 sg.ps avs vals → φ avs = some r →
    Calls P f vals.toArray w fun en w' => ∃ v gh', en = .returned v ∧ Ret w gh (argB gh) w' gh' ∧ gh'.et = gh.et ∧ resOk w' gh' sg.rs r v

/-- A function that is handed one. -/
def FOk1 (P : Program) (sg : Sg) (f : Nat) (φ : List AV → Option AV) : Prop :=
  ∀ (w : World) (gh : Gh) (h : AV) (avs : List AV) (vals : List Value) (r : AV), GhOk w gh → ArgsOk w gh 0 sg.ps avs vals → HeapOk w gh (fun _ => [h]) → φ (h :: avs) = some r →
    Calls P f vals.toArray w fun en w' => ∃ v gh' r' h', en = .returned v ∧ r = .tup [r', h'] ∧ Ret w gh (fun b => argB gh b ∨ heapB gh b) w' gh' ∧ (∀ (i B : Nat), gh.et[i]? = some B → gh'.et[i]? = some B) ∧
      HeapOk w' gh' (fun _ => [h']) ∧ resOk w' gh' sg.rs r' v

def callOk (P : Program) (f : Nat) : Bool := match P.funcs[f]? with | some fn => fn.name != "runtime.NumGoroutine" && fn.body.isSome | none => false

structure FnsOk (P : Program) (sig : Nat → Option Sg) (S : Fns) : Prop where
  ok : ∀ f sg r avs, sig f = some sg → S.f f avs = some r → callOk P f = true
  pos : ∀ f sg, sig f = some sg → ∀ m ∈ sg.ps, mdPos m
  f0 : ∀ f sg, sig f = some sg → sg.own ≠ 1 → FOk0 P sg f (S.f f)
  f1 : ∀ f sg, sig f = some sg → sg.own = 1 → FOk1 P sg f (S.f f)
  v1 : ∀ f, S.pl f = 1 → ∃ sg, sig f = some sg ∧ sg.own ≠ 1 ∧ sg.rs = [.v] ∧ ∀ avs r, S.f f avs = some r → sg.ps = List.replicate avs.length .v
  v2 : ∀ f, S.pl f = 2 → ∃ sg, sig f = some sg ∧ sg.own = 1 ∧ sg.rs = [.v] ∧ ∀ h avs r, S.f f (h :: avs) = some r → sg.ps = List.replicate avs.length .v

section
variable {P : Program} {F : Fm} {gh gh' : Gh} {T T' : Tags} {e e' : Env} {a : Act} {w w' : World} {o : Oper} {hn : Hn} {gd : Option (Nat × Nat × Bool)} {S : Fns} {d : Nat} {sig : Nat → Option Sg}

theorem Rel.ghOk (R : Rel F gh T e a w) : GhOk w gh := ⟨fun b k h => (R.base.owned b k h).2, fun b h => ⟨(R.base.imm b h).1, (R.base.imm b h).2.1⟩⟩

open Classical in
/-- The owners after a call. -/
noncomputable def Gh.after (gh gh' : Gh) (O : Nat → Prop) (n : Nat) (keepH : Prop) (et : List Nat) : Gh :=
  { ow := fun b => if O b ∨ n ≤ b then (match gh'.ow b with | some (.arg i k) => some (.arg i k) | some (.heap i) => if keepH then some (.heap i) else none | _ => none) else gh.ow b, im := gh'.im, et := et }

theorem Base.after (hb : Base F gh w) {O : Nat → Prop} (hO : ∀ b, O b → ∃ k, gh.ow b = some k) (hr : Ret w gh O w' gh') (keepH : Prop) (et : List Nat) (het1 : ∀ (i B : Nat), gh.et[i]? = some B → et[i]? = some B) (het2 : F.hp = false → et = gh.et) : Base F (gh.after gh' O w.heap.size keepH et) w' := by
  refine ⟨Nat.le_trans hb.sz hr.size, fun b hb' hnO => ?_, fun b k hk => ?_, fun b hi => ?_, fun b hi => hr.im b (hb.im0 b hi), fun i B h => het1 i B (hb.et i B h), fun h => (het2 h).trans (hb.et2 h), hb.st.trans hr.st⟩
  · rw [← hb.keep b hb' hnO]
    refine hr.keep b (Nat.lt_of_lt_of_le hb' hb.sz) (fun h => ?_)
    obtain ⟨k, hk⟩ := hO b h
    rcases (hb.owned b k hk).1 with h1 | h1
    · exact hnO h1
    · omega
  · simp only [Gh.after] at hk
    split at hk
    · rename_i hc
      have hsome : ∃ k', gh'.ow b = some k' := by
        split at hk
        · exact ⟨_, by assumption⟩
        · exact ⟨_, by assumption⟩
        · cases hk
      obtain ⟨k', hk'⟩ := hsome
      refine ⟨?_, (hr.owned b k' hk').2⟩
      rcases hc with hc | hc
      · obtain ⟨k2, h2⟩ := hO b hc
        exact (hb.owned b k2 h2).1
      · exact .inr (Nat.le_trans hb.sz hc)
    · exact ⟨(hb.owned b k hk).1, Nat.lt_of_lt_of_le (hb.owned b k hk).2 hr.size⟩
  · obtain ⟨h1, h2, h3⟩ := hr.imm b hi
    refine ⟨?_, h2, ?_⟩
    · simp only [Gh.after]
      split
      · rw [h1]
      · rename_i hc
        rcases h3 with h3 | h3 | h3
        · exact (hb.imm b h3).1
        · exact absurd (.inl h3) hc
        · exact absurd (.inr h3) hc
    · rcases h3 with h3 | h3 | h3
      · exact (hb.imm b h3).2.2
      · obtain ⟨k, hk⟩ := hO b h3; exact .inr (hb.owned b k hk).1
      · exact .inr (.inr (Nat.le_trans hb.sz h3))

theorem Pers.after (hb : Base F gh w) {O : Nat → Prop} (hO : ∀ b, O b → ∃ k, gh.ow b = some k) (hr : Ret w gh O w' gh') (keepH : Prop) {et : List Nat} (het : ∀ (i B : Nat), gh.et[i]? = some B → et[i]? = some B) {K : Key → Prop}
    (hK : ∀ b k, O b → gh.ow b = some k → ¬ K k) : Pers gh (gh.after gh' O w.heap.size keepH et) w w' K := by
  refine ⟨⟨hr.im, fun b hi => ?_, het⟩, fun b k hk hKk => ?_⟩
  · refine hr.keep b (hb.imm b hi).2.1 (fun h => ?_)
    obtain ⟨k, hk⟩ := hO b h
    rw [(hb.imm b hi).1] at hk; cases hk
  · have hlt := (hb.owned b k hk).2
    have hnO : ¬ O b := fun h => hK b k h hk hKk
    refine ⟨?_, hr.keep b hlt hnO⟩
    simp only [Gh.after]
    rw [if_neg (by rintro (h | h); exact hnO h; omega)]
    exact hk

theorem GS.after {O : Nat → Prop} (hr : Ret w gh O w' gh') (keepH : Prop) : GS gh' (gh.after gh' O w.heap.size keepH gh'.et) := by
  refine ⟨rfl, fun _ h => h, fun b i k h => ?_⟩
  simp only [Gh.after]
  rw [if_pos (hr.owned b _ h).1, h]

/-- What a call of a function without an own memory leaves. -/
theorem Rel.ret0 (R : Rel F gh T e a w) (hr : Ret w gh (argB gh) w' gh') (het : gh'.et = gh.et) : ∃ gh2, GS gh' gh2 ∧ Rel F gh2 T e a w' := by
  have hO : ∀ b, argB gh b → ∃ k, gh.ow b = some k := fun b ⟨i, k, h⟩ => ⟨_, h⟩
  refine ⟨gh.after gh' (argB gh) w.heap.size False gh'.et, GS.after hr _, ?_⟩
  exact R.world (R.base.after hO hr _ _ (fun i B h => by rw [het]; exact h) (fun _ => het)) (Pers.after R.base hO hr _ (fun i B h => by rw [het]; exact h) (K := fun key => ∀ i j, key ≠ .arg i j) (fun b k ⟨i, j, h⟩ hk hK => by rw [h] at hk; cases hk; exact hK _ _ rfl)) het
    (fun _ _ _ h => by cases h) (fun _ _ _ _ _ h => by cases h) (fun _ _ _ _ h => by cases h)

theorem exec_call {c : Call} {f : Nat} (ho : o.op = .call c) (hc : c.callee = .value (.func f)) (hk : callOk P f = true) : (execOp a.eval o).run P w = .ok (.enter f (c.args.map a.eval)) w := by
  unfold callOk at hk
  split at hk
  · rename_i fn hf
    simp only [Bool.and_eq_true, bne_iff_ne, ne_eq] at hk
    have h3 : fn.body ≠ none := by intro h; rw [h] at hk; simp at hk
    simp [execOp, ho, resolve, hc, Act.eval, Deferred.ofValue, invoke, callFunc, hf, hk.1, h3]
  · cases hk

/-- A call goes on. -/
theorem good_enter {f : Nat} {args : Array Value} (h : (execOp a.eval o).run P w = .ok (.enter f args) w) (hdst : o.dst = some d)
    (hc : Calls P f args w fun en w' => ∃ v gh', en = .returned v ∧ Rel F gh' T' e' (a.put (some d) v) w') : Good P F o a w T' e' := by
  intro K Q hK
  unfold Oper.wp
  rw [h]
  refine Calls.mono hc (fun en w' ⟨v, gh', he, hR⟩ => ?_)
  subst he
  show K (a.put o.dst v) w'
  rw [hdst]
  exact hK _ _ _ hR

theorem call0_sound (R : Rel F gh T e a w) (hg : gdOn T e gd) (hS : FnsOk P sig S) {c : Call} {f : Nat} (ho : o.op = .call c) (hc : c.callee = .value (.func f)) (hdst : o.dst = some d) (hd : d < F.n) {sg : Sg} (hsg : sig f = some sg) (hown : sg.own ≠ 1)
    {r : List CR × List (Nat × Tg) × List Nat} (hr : argsO hn T gd false sg.ps c.args.toList = some r) {plan : Plan} (he : plan.dyn.ev S e some = some e') (hgk : gdOk gd plan = true)
    (h : (match sg.rs with
      | [.agg ks] => if gd.isSome then none else some { dyn := .csp d (.call f false r.1), ups := r.2.1 ++ [dstT (T.ups r.2.1) gd d (.agg (ks.map fun k => ⟨0, k⟩))], tr := d :: r.2.2 }
      | [.own e s] => set1 T gd d (.call f false r.1) (if gd.isSome then vT else .one ⟨0, .own e s⟩) r.2.1 r.2.2
      | [.v] => set1 T gd d (.call f false r.1) vT r.2.1 r.2.2
      | [.dead] => none
      | ms => set1 T gd d (.call f false r.1) (.tup ms) r.2.1 r.2.2) = some plan) : Good P F o a w (T.ups plan.ups) e' := by
  obtain ⟨crs, ups, tr⟩ := r
  have core : ∀ {avs : List AV} {rv : AV}, valCRs e crs = some avs → S.f f avs = some rv →
      ∃ gh1, Rel F gh1 (T.ups ups) e a w ∧ (execOp a.eval o).run P w = .ok (.enter f (c.args.map a.eval)) w ∧
      Calls P f (c.args.map a.eval) w fun en w' => ∃ v gh2, en = .returned v ∧ Rel F gh2 (T.ups ups) e a w' ∧ resOk w' gh2 sg.rs rv v := by
    intro avs rv h1 h2
    obtain ⟨gh1, g1, R1, _, g3⟩ := argsO_sound R hg 0 (hS.pos f sg hsg) hr h1
    refine ⟨gh1, R1, exec_call ho hc (hS.ok f sg rv avs hsg h2), ?_⟩
    have hca := hS.f0 f sg hsg hown w gh1 avs _ rv R1.ghOk g3 h2
    have e1 : (c.args.toList.map a.eval).toArray = c.args.map a.eval := by rw [← Array.toList_map]
    rw [e1] at hca
    refine Calls.mono hca (fun en w' ⟨v, gh', q1, q2, q3, q4⟩ => ?_)
    obtain ⟨gh2, G, R2⟩ := R1.ret0 q2 q3
    refine ⟨v, gh2, q1, R2, ?_⟩
    unfold resOk at q4 ⊢
    split
    · rename_i m hm; rw [hm] at q4; exact q4.gs G
    · rename_i hm
      split at q4
      · rename_i m hm'; exact absurd hm' (hm m)
      · obtain ⟨xs, vs, z1, z2, z3, z4, z5⟩ := q4
        exact ⟨xs, vs, z1, z2, z3, z4, fun i m x v a1 a2 a3 => (z5 i m x v a1 a2 a3).gs G⟩
  have set : ∀ {tag : Tag}, set1 T gd d (.call f false crs) tag ups tr = some plan → ∃ rv avs, valCRs e crs = some avs ∧ S.f f avs = some rv ∧ e' = e.set d [rv] ∧ T.ups plan.ups = (T.ups ups).ups [dstT (T.ups ups) gd d tag] := fun h => by
    obtain ⟨av, h1, rfl, h3⟩ := set1_g h he
    simp only [PX.ev, evCRs_val, Bool.false_eq_true, if_false, Option.bind_eq_some_iff, Option.some.injEq] at h1
    obtain ⟨avs, a1, rv, a2, rfl⟩ := h1
    exact ⟨rv, avs, a1, a2, rfl, h3⟩
  split at h
  · rename_i ks hrs
    split at h
    · cases h
    · rename_i hgd
      have hgd : gd = none := by simpa using hgd
      subst hgd
      cases h
      simp only [Dyn.ev, PX.ev, evCRs_val, Bool.false_eq_true, if_false, Option.bind_eq_some_iff, Option.some.injEq] at he
      obtain ⟨avs, a1, rv, a2, m, hm, rfl⟩ := he
      obtain ⟨gh1, R1, hx, hcalls⟩ := core a1 a2
      refine good_enter hx hdst (Calls.mono hcalls (fun en w' ⟨v, gh2, q1, R2, q2⟩ => ?_))
      rw [hrs] at q2
      obtain ⟨cs, us, rfl, rfl, hco⟩ := q2
      simp only [A.cs, if_true, Option.some.injEq] at hm
      subst hm
      have hk : (ks.map fun k => (⟨0, k⟩ : CK)).map CK.k = ks := by rw [List.map_map]; exact List.map_id _
      obtain ⟨gh3, hR⟩ := R2.putAgg (d := d) (ks := ks.map fun k => ⟨0, k⟩) hd (i := 0) (by rw [hk]; exact hco)
      exact ⟨_, gh3, q1, by rw [ups_append]; exact hR⟩
  · rename_i ee ss hrs
    obtain ⟨rv, avs, a1, a2, rfl, h3⟩ := set h
    obtain ⟨gh1, R1, hx, hcalls⟩ := core a1 a2
    refine good_enter hx hdst (Calls.mono hcalls (fun en w' ⟨v, gh2, q1, R2, q2⟩ => ?_))
    rw [hrs] at q2
    obtain ⟨gh3, hR⟩ := R2.putOwn (d := d) (gd := gd) hd (i := 0) q2
    refine ⟨v, gh3, q1, ?_⟩
    rw [h3]
    cases gd with
    | none => exact hR
    | some g => exact hR
  · rename_i hrs
    obtain ⟨rv, avs, a1, a2, rfl, h3⟩ := set h
    obtain ⟨gh1, R1, hx, hcalls⟩ := core a1 a2
    refine good_enter hx hdst (Calls.mono hcalls (fun en w' ⟨v, gh2, q1, R2, q2⟩ => ?_))
    rw [hrs] at q2
    refine ⟨v, gh2, q1, ?_⟩
    rw [h3, dstT_v]
    exact R2.putV d hd rv v q2
  · cases h
  · rename_i ms n1 n2 n3 n4
    have hgd : gd = none := by
      cases gd with
      | none => rfl
      | some g =>
        exfalso
        unfold set1 at h
        cases h
        simp [gdOk, dstT] at hgk
    subst hgd
    obtain ⟨rv, avs, a1, a2, rfl, h3⟩ := set h
    obtain ⟨gh1, R1, hx, hcalls⟩ := core a1 a2
    refine good_enter hx hdst (Calls.mono hcalls (fun en w' ⟨v, gh2, q1, R2, q2⟩ => ?_))
    have q2' : ∃ xs vs, rv = .tup xs ∧ v = .tuple vs.toArray ∧ MdsOk w' gh2 .arg sg.rs xs vs := by
      unfold resOk at q2
      split at q2
      · rename_i m hm
        cases m with
        | agg ks => exact absurd hm (n1 ks)
        | own ee ss => exact absurd hm (n2 ee ss)
        | v => exact absurd hm n3
        | dead => exact absurd hm n4
      · exact q2
    obtain ⟨xs, vs, rfl, rfl, hms⟩ := q2'
    obtain ⟨gh3, hR⟩ := R2.putTup (d := d) hd hms
    exact ⟨_, gh3, q1, by rw [h3]; exact hR⟩

end
end Tr

namespace Tr
open Go

section
variable {P : Program} {F : Fm} {gh gh' : Gh} {T T' : Tags} {e e' : Env} {a : Act} {w w' : World} {o : Oper} {hn : Hn} {gd : Option (Nat × Nat × Bool)} {S : Fns} {d : Nat} {sig : Nat → Option Sg}

theorem argsOk_v (i : Nat) : ∀ {avs : List AV} {vals : List Value}, RepL w gh.im gh.et avs vals → ArgsOk w gh i (List.replicate avs.length .v) avs vals := by
  intro avs
  induction avs generalizing i with
  | nil => intro vals h; cases h; exact .nil i
  | cons x xs ih => intro vals h; cases h with | cons _ _ v vs h hs => exact .cons i .v _ x xs v vs h (ih (i + 1) hs)

theorem sc_spec {im : Nat → Prop} {et : List Nat} {x y : AV} {v : Value} (h : A.sc x = some y) (hx : Rep w im et x v) : Sc y v := by
  unfold A.sc at h
  split at h <;> cases h <;> cases hx
  · exact sc_bool _
  · exact sc_int _ _
  · exact sc_str _

theorem scs_spec {im : Nat → Prop} {et : List Nat} : ∀ {cs ws : List AV} {vs : List Value}, RepL w im et cs vs → cs.mapM A.sc = some ws → ∀ w2 im2 et2, RepL w2 im2 et2 ws vs
  | [], ws, vs, hr, hws, _, _, _ => by simp at hws; subst hws; cases hr; exact .nil
  | c :: cs, ws, vs, hr, hws, w2, im2, et2 => by
    cases hr with
    | cons _ _ u us h1 h2 =>
      simp only [List.mapM_cons, Option.bind_eq_bind, Option.bind_eq_some_iff, Option.pure_def, Option.some.injEq] at hws
      obtain ⟨y, hy, ys, hys, rfl⟩ := hws
      exact .cons _ _ _ _ (sc_spec hy h1 _ _ _) (scs_spec h2 hys _ _ _)

theorem scT_spec {im : Nat → Prop} {et : List Nat} {x y : AV} {v : Value} (h : A.scT x = some y) (hx : Rep w im et x v) : Sc y v := by
  unfold A.scT at h
  split at h
  · simp only [Option.bind_eq_some_iff] at h
    obtain ⟨ws, hws, h⟩ := h
    cases h
    cases hx with
    | tup _ vs hr => exact fun w2 im2 et2 => .tup ws vs (scs_spec hr hws _ _ _)
  · exact sc_spec h hx

theorem Base.grown (hb : Base F gh w) (hG : Grown w w' none) : Base F gh w' :=
  ⟨Nat.le_trans hb.sz hG.size, fun b h1 h2 => by rw [← hb.keep b h1 h2]; exact hG.block b (Nat.lt_of_lt_of_le h1 hb.sz) (by simp), fun b k h => ⟨(hb.owned b k h).1, Nat.lt_of_lt_of_le (hb.owned b k h).2 hG.size⟩,
   fun b h => ⟨(hb.imm b h).1, Nat.lt_of_lt_of_le (hb.imm b h).2.1 hG.size, (hb.imm b h).2.2⟩, hb.im0, hb.et, hb.et2, hb.st.trans hG.st⟩

theorem Pers.grown (hb : Base F gh w) (hG : Grown w w' none) (K : Key → Prop) : Pers gh gh w w' K :=
  ⟨⟨fun _ h => h, fun b h => hG.block b (hb.imm b h).2.1 (by simp), fun _ _ h => h⟩, fun b k h _ => ⟨h, hG.block b (hb.owned b k h).2 (by simp)⟩⟩

theorem all_v {ms : List Md} (h : ms.all (fun m => match m with | .v => true | _ => false) = true) : ms = List.replicate ms.length .v := by
  induction ms with
  | nil => rfl
  | cons m ms ih =>
    simp only [List.all_cons, Bool.and_eq_true] at h
    cases m <;> simp at h
    rw [List.length_cons, List.replicate_succ, ← ih (by simpa using h)]

theorem callB_sound (R : Rel F gh T e a w) (hg : gdOn T e gd) (hS : FnsOk P sig S) {c : Call} {f : Nat} (ho : o.op = .call c) (hc : c.callee = .value (.func f)) (hdst : o.dst = some d) (hd : d < F.n) {sg : Sg} (hsg : sig f = some sg) (hown : sg.own ≠ 1)
    {r : List CR × List (Nat × Tg) × List Nat} (hr : argsO hn T gd true sg.ps c.args.toList = some r) {plan : Plan} (he : plan.dyn.ev S e some = some e') (hgk : gdOk gd plan = true)
    (h : (if !(sg.ps.all fun m => match m with | .v => true | _ => false) ∨ !(sg.rs.all fun m => match m with | .v => true | _ => false) then none else
      set1 T gd d (.call f true r.1) (match sg.rs with | [_] => vT | ms => .tup (ms.map fun _ => .v)) r.2.1 r.2.2) = some plan) : Good P F o a w (T.ups plan.ups) e' := by
  obtain ⟨crs, ups, tr⟩ := r
  split at h
  · cases h
  · rename_i hcc
    simp only [not_or, Bool.not_eq_true', Bool.not_eq_false] at hcc
    obtain ⟨hps, hrs⟩ := hcc
    obtain ⟨av, h1, rfl, h3⟩ := set1_g h he
    simp only [PX.ev, evCRs_val, if_true, Option.bind_eq_some_iff, Option.some.injEq] at h1
    obtain ⟨avs, a1, av', ⟨rv, a2, a3⟩, rfl⟩ := h1
    obtain ⟨hups, hrep⟩ := argsB_sound R hg hps hr a1
    have hups : ups = [] := hups
    subst hups
    let gs : Gh := { ow := fun _ => none, im := fun b => b < w.heap.size, et := gh.et }
    have hgs : GhOk w gs := ⟨fun b k h => (by simp [gs] at h), fun b h => ⟨rfl, h⟩⟩
    have hlen : sg.ps.length = avs.length := by
      have h1 : ∀ {ms : List Md} {xs : List Operand} {q : List CR × List (Nat × Tg) × List Nat} {T : Tags}, argsO hn T gd true ms xs = some q → ms.length = q.1.length := by
        intro ms
        induction ms with
        | nil => intro xs q T h; cases xs <;> cases h; rfl
        | cons m ms ih =>
          intro xs q T h
          cases xs with
          | nil => cases h
          | cons x xs =>
            simp only [argsO, Option.bind_eq_some_iff] at h
            obtain ⟨_, _, s, h2, h⟩ := h
            cases h
            simp [ih h2]
      have h2 : ∀ {crs : List CR} {avs : List AV}, valCRs e crs = some avs → avs.length = crs.length := by
        intro crs
        induction crs with
        | nil => intro avs h; cases h; rfl
        | cons c cs ih =>
          intro avs h
          simp only [valCRs, Option.bind_eq_some_iff] at h
          obtain ⟨_, _, as, h2, h⟩ := h
          cases h
          simp [ih h2]
      rw [h1 hr, h2 a1]
    have hargs : ArgsOk w gs 0 sg.ps avs (c.args.toList.map a.eval) := by
      rw [all_v hps, hlen]
      exact argsOk_v 0 hrep
    have hca := hS.f0 f sg hsg hown w gs avs _ rv hgs hargs a2
    have e1 : (c.args.toList.map a.eval).toArray = c.args.map a.eval := by rw [← Array.toList_map]
    rw [e1] at hca
    refine good_enter (exec_call ho hc (hS.ok f sg rv avs hsg a2)) hdst (Calls.mono hca (fun en w' ⟨v, gh', q1, q2, q3, q4⟩ => ?_))
    have hG : Grown w w' none := ⟨q2.size, fun k hk _ => q2.keep k hk (fun ⟨i, j, h⟩ => by simp [gs] at h), q2.st⟩
    have R1 := R.world (R.base.grown hG) (Pers.grown R.base hG (fun _ => True)) rfl (fun _ => trivial) (fun _ _ _ => trivial) (fun _ _ => trivial)
    have hsplit : (sg.rs = [.v]) ∨ (∀ m, sg.rs ≠ [m]) := by
      by_cases hl : sg.rs.length = 1
      · left; rw [all_v hrs, hl]; rfl
      · right; intro m hm; rw [hm] at hl; exact hl rfl
    rcases hsplit with hone | htup
    · rw [hone] at q4 h3
      refine ⟨v, gh, q1, ?_⟩
      rw [h3]
      show Rel F gh (T.ups [dstT T gd d vT]) _ _ _
      rw [dstT_v]
      exact R1.putV d hd _ v (scT_spec a3 q4 _ _ _)
    · have q4' : ∃ xs vs, rv = .tup xs ∧ v = .tuple vs.toArray ∧ MdsOk w' gh' .arg sg.rs xs vs := by
        unfold resOk at q4
        split at q4
        · rename_i m hm; exact absurd hm (htup m)
        · exact q4
      obtain ⟨xs, vs, rfl, rfl, z3, z4, z5⟩ := q4'
      have hl : RepL w' gh'.im gh'.et xs vs := repL_of (by omega) (fun k x v h1 h2 => by
        have hk : k < sg.rs.length := by have := (List.getElem?_eq_some_iff.1 h1).1; omega
        exact z5 k .v x v (by rw [all_v hrs, List.getElem?_replicate, if_pos hk]) h1 h2)
      have htag : (match sg.rs with | [_] => vT | ms => .tup (ms.map fun _ => .v)) = Tag.tup (sg.rs.map fun _ => .v) := by
        split
        · rename_i m hm; exact absurd hm (htup m)
        · rfl
      rw [htag] at h h3
      have hgd : gd = none := by
        cases gd with
        | none => rfl
        | some g =>
          exfalso
          unfold set1 at h
          cases h
          simp [gdOk, dstT] at hgk
      subst hgd
      have hx := scT_spec a3 (.tup xs vs hl) w' gh.im gh.et
      have hav : ∃ ws, av' = .tup ws := by
        unfold A.scT at a3
        simp only [Option.bind_eq_some_iff] at a3
        obtain ⟨ws, _, a3⟩ := a3
        cases a3
        exact ⟨ws, rfl⟩
      obtain ⟨ws, rfl⟩ := hav
      have hws : RepL w' gh.im gh.et ws vs := by
        generalize hv : Value.tuple vs.toArray = vv at hx
        cases hx with
        | tup _ vs' hws =>
          have : vs = vs' := by simpa using hv
          subst this
          exact hws
      have hwl : ws.length = sg.rs.length := by
        have h1 := hws.len
        have h2 := hl.len
        omega
      obtain ⟨gh3, hR⟩ := R1.putTup (d := d) (ms := sg.rs.map fun _ => .v) hd (xs := ws) (vs := vs) ⟨by simp [hwl], by simp; have := hws.len; omega, fun i m x v a1 a2 a3 => by
        simp only [List.getElem?_map, Option.map_eq_some_iff] at a1
        obtain ⟨_, _, rfl⟩ := a1
        obtain ⟨v', z1, z2⟩ := hws.get a2
        rw [a3] at z1; cases z1
        exact z2⟩
      refine ⟨_, gh3, q1, ?_⟩
      rw [h3]
      exact hR

end
end Tr

namespace Tr
open Go

section
variable {P : Program} {F : Fm} {gh gh' : Gh} {T T' : Tags} {e e' : Env} {a : Act} {w w' : World} {o : Oper} {hn : Hn} {gd : Option (Nat × Nat × Bool)} {S : Fns} {d : Nat} {sig : Nat → Option Sg}

/-- What a call with the own memory leaves. -/
theorem Rel.ret1 (R : Rel F gh T e a w) (hhp : F.hp = true) (hr : Ret w gh (fun b => argB gh b ∨ heapB gh b) w' gh') (het : ∀ (i B : Nat), gh.et[i]? = some B → gh'.et[i]? = some B) {h' : AV} (hh : HeapOk w' gh' (fun _ => [h'])) :
    ∃ gh2, GS gh' gh2 ∧ Rel F gh2 T (e.set HS [h']) a w' := by
  have hO : ∀ b, (argB gh b ∨ heapB gh b) → ∃ k, gh.ow b = some k := fun b h => by
    rcases h with ⟨i, k, h⟩ | ⟨i, h⟩
    · exact ⟨_, h⟩
    · exact ⟨_, h⟩
  refine ⟨gh.after gh' (fun b => argB gh b ∨ heapB gh b) w.heap.size True gh'.et, GS.after hr _, ?_⟩
  refine R.heapStep hhp (R.base.after hO hr _ _ het (fun h => by rw [hhp] at h; cases h)) (Pers.after R.base hO hr _ het (K := fun key => (∀ i j, key ≠ .arg i j) ∧ ∀ i, key ≠ .heap i) (fun b k h hk hK => ?_)) (fun t => ⟨fun _ _ h => (by cases h), fun _ h => (by cases h)⟩) (fun t i k => ⟨fun _ _ h => (by cases h), fun _ h => (by cases h)⟩) ?_
  · rcases h with ⟨i, j, h⟩ | ⟨i, h⟩
    · rw [h] at hk; cases hk; exact hK.1 _ _ rfl
    · rw [h] at hk; cases hk; exact hK.2 _ rfl
  · obtain ⟨bs, h1, h2, h3⟩ := hh
    refine ⟨bs, by rw [set_same]; exact h1, h2, fun i B hi => ?_⟩
    obtain ⟨o1, cs, vs, el, c1, c2, c3, c4⟩ := h3 i B hi
    refine ⟨?_, cs, vs, el, c1, c2, c3, c4⟩
    simp only [Gh.after]
    rw [if_pos (hr.owned B _ o1).1, o1]
    simp

theorem heapOk_at (hh : HeapOk w gh e) {h : AV} (he : e HS = [h]) : HeapOk w gh (fun _ => [h]) := by
  obtain ⟨bs, h1, h2, h3⟩ := hh
  exact ⟨bs, he.symm.trans h1, h2, h3⟩

theorem hcall_sound (R : Rel F gh T e a w) (hg : gdOn T e gd) (hS : FnsOk P sig S) (hhp : F.hp = true) {c : Call} {f : Nat} (ho : o.op = .call c) (hc : c.callee = .value (.func f)) (hdst : o.dst = some d) (hd : d < F.n) {sg : Sg} (hsg : sig f = some sg) (hown : sg.own = 1)
    {r : List CR × List (Nat × Tg) × List Nat} (hr : argsO hn T gd false sg.ps c.args.toList = some r) {plan : Plan} (he : plan.dyn.ev S e some = some e') (hgk : gdOk gd plan = true)
    (h : (match sg.rs with
      | [.v] => some { dyn := .hcall d f r.1, ups := r.2.1 ++ [dstT (T.ups r.2.1) gd d vT], tr := d :: r.2.2 }
      | [_] => none
      | ms => if ms.all (fun m => match m with | .v => true | _ => false) then some { dyn := .hcall d f r.1, ups := r.2.1 ++ [dstT (T.ups r.2.1) gd d (.tup ms)], tr := d :: r.2.2 } else none) = some plan) : Good P F o a w (T.ups plan.ups) e' := by
  obtain ⟨crs, ups, tr⟩ := r
  have core : plan.dyn = .hcall d f crs → ∃ rv h', e' = (e.set HS [h']).set d [rv] ∧ ∃ gh1, Rel F gh1 (T.ups ups) e a w ∧ (execOp a.eval o).run P w = .ok (.enter f (c.args.map a.eval)) w ∧
      Calls P f (c.args.map a.eval) w fun en w' => ∃ v gh2, en = .returned v ∧ Rel F gh2 (T.ups ups) (e.set HS [h']) a w' ∧ resOk w' gh2 sg.rs rv v := by
    intro hp
    rw [hp] at he
    simp only [Dyn.ev, evCRs_val, Option.bind_eq_some_iff] at he
    obtain ⟨avs, a1, he⟩ := he
    obtain ⟨bs, e1, _⟩ := R.hp hhp
    rw [e1] at he
    simp only [Option.bind_eq_some_iff, Option.some.injEq] at he
    obtain ⟨⟨rv, h'⟩, ⟨rr, a2, a3⟩, rfl⟩ := he
    have hrr : rr = .tup [rv, h'] := by
      unfold A.pair at a3
      split at a3
      · cases a3; rfl
      · cases a3
    subst hrr
    obtain ⟨gh1, g1, R1, _, g3⟩ := argsO_sound R hg 0 (hS.pos f sg hsg) hr a1
    refine ⟨rv, h', rfl, gh1, R1, exec_call ho hc (hS.ok f sg _ _ hsg a2), ?_⟩
    have hca := hS.f1 f sg hsg hown w gh1 (.hp bs) avs _ _ R1.ghOk g3 (heapOk_at (R1.hp hhp) e1) a2
    have e2 : (c.args.toList.map a.eval).toArray = c.args.map a.eval := by rw [← Array.toList_map]
    rw [e2] at hca
    refine Calls.mono hca (fun en w' ⟨v, gh', r', h2, q1, q2, q3, q4, q5, q6⟩ => ?_)
    simp only [AV.tup.injEq, List.cons.injEq, and_true] at q2
    obtain ⟨rfl, rfl⟩ := q2
    obtain ⟨gh2, G, R2⟩ := R1.ret1 hhp q3 q4 q5
    refine ⟨v, gh2, q1, R2, ?_⟩
    unfold resOk at q6 ⊢
    split
    · rename_i m hm; rw [hm] at q6; exact q6.gs G
    · rename_i hm
      split at q6
      · rename_i m hm'; exact absurd hm' (hm m)
      · obtain ⟨xs, vs, z1, z2, z3, z4, z5⟩ := q6
        exact ⟨xs, vs, z1, z2, z3, z4, fun i m x v a1 a2 a3 => (z5 i m x v a1 a2 a3).gs G⟩
  split at h
  · rename_i hrs
    cases h
    obtain ⟨rv, h', rfl, gh1, R1, hx, hcalls⟩ := core rfl
    refine good_enter hx hdst (Calls.mono hcalls (fun en w' ⟨v, gh2, q1, R2, q2⟩ => ?_))
    rw [hrs] at q2
    exact ⟨v, gh2, q1, by rw [ups_append, dstT_v]; exact R2.putV d hd rv v q2⟩
  · cases h
  · rename_i n1 n2
    split at h
    · have hgd : gd = none := by
        cases gd with
        | none => rfl
        | some g =>
          exfalso
          cases h
          simp [gdOk, dstT] at hgk
      subst hgd
      cases h
      obtain ⟨rv, h', rfl, gh1, R1, hx, hcalls⟩ := core rfl
      refine good_enter hx hdst (Calls.mono hcalls (fun en w' ⟨v, gh2, q1, R2, q2⟩ => ?_))
      have q2' : ∃ xs vs, rv = .tup xs ∧ v = .tuple vs.toArray ∧ MdsOk w' gh2 .arg sg.rs xs vs := by
        unfold resOk at q2
        split at q2
        · rename_i m hm; exact absurd hm (n2 m)
        · exact q2
      obtain ⟨xs, vs, rfl, rfl, hms⟩ := q2'
      obtain ⟨gh3, hR⟩ := R2.putTup (d := d) hd hms
      exact ⟨_, gh3, q1, by rw [ups_append]; exact hR⟩
    · cases h

theorem exec_callv {c : Call} {x : Operand} {f : Nat} {fv cv : List Value} (ho : o.op = .call c) (hc : c.callee = .value x) (hx : a.eval x = .func (.func f) fv.toArray cv.toArray) (hk : callOk P f = true) :
    (execOp a.eval o).run P w = .ok (.enter f (fv ++ c.args.toList.map a.eval ++ cv).toArray) w := by
  unfold callOk at hk
  split at hk
  · rename_i fn hf
    simp only [Bool.and_eq_true, bne_iff_ne, ne_eq] at hk
    have h3 : fn.body ≠ none := by intro h; rw [h] at hk; simp at hk
    have e1 : (fv ++ c.args.toList.map a.eval ++ cv).toArray = fv.toArray ++ c.args.map a.eval ++ cv.toArray := by
      apply Array.ext'
      simp
    rw [e1]
    simp [execOp, ho, resolve, hc, hx, Deferred.ofValue, invoke, callFunc, hf, hk.1, h3]
  · cases hk

theorem callv_sound (R : Rel F gh T e a w) (hg : gdOn T e gd) (hS : FnsOk P sig S) {own : Nat} (hhp : own ≠ 0 → F.hp = true) {c : Call} {x : Operand} (ho : o.op = .call c) (hc : c.callee = .value x) (hdst : o.dst = some d) (hd : d < F.n)
    {plan : Plan} (he : plan.dyn.ev S e some = some e')
    (h : ((rdV hn T gd x).bind fun q => (usesO hn T gd c.args.toList).bind fun r =>
    if own = 0 then set1 T gd d (.callv q.1 r.1) vT r.2.1 (q.2 ++ r.2.2)
    else some { dyn := .hcallv d q.1 r.1, ups := r.2.1 ++ [dstT (T.ups r.2.1) gd d vT], tr := d :: (q.2 ++ r.2.2) }) = some plan) : Good P F o a w (T.ups plan.ups) e' := by
  simp only [Option.bind_eq_some_iff] at h
  obtain ⟨⟨cq, trq⟩, hq, ⟨crs, ups, tr⟩, hu, h⟩ := h
  -- a plain one
  have plain : ∀ {f : Nat} {first cap avs : List AV} {rv : AV}, cq.val e = some (.fn f first cap) → valCRs e crs = some avs → S.pl f = 1 → S.f f (first ++ avs ++ cap) = some rv → ∀ {e2 : Env}, (∀ gh w', Rel F gh (T.ups ups) e a w' → Rel F gh (T.ups ups) e2 a w') →
      T.ups plan.ups = (T.ups ups).ups [dstT (T.ups ups) gd d vT] → e' = e2.set d [rv] → Good P F o a w (T.ups plan.ups) e' := by
    intro f first cap avs rv h1 h2 h3 h4 e2 hE hT he'
    have kx := rdV_sound R hg hq h1
    obtain ⟨gh1, g1, R1, _, g3⟩ := usesO_sound R hg hu h2
    have kx := Rep.mono (g1.stay w) kx
    generalize hvx : a.eval x = vx at kx
    cases kx with
    | fn _ _ _ fv cv hfv hcv =>
      obtain ⟨sg, q1, q2, q3, q4⟩ := hS.v1 f h3
      have hall := (hfv.app g3).app hcv
      have hargs := argsOk_v 0 hall
      rw [← q4 _ _ h4] at hargs
      have hca := hS.f0 f sg q1 q2 w gh1 _ _ rv R1.ghOk hargs h4
      refine good_enter (exec_callv ho hc hvx (hS.ok f sg rv _ q1 h4)) hdst (Calls.mono hca (fun en w' ⟨v, gh', z1, z2, z3, z4⟩ => ?_))
      obtain ⟨gh2, G, R2⟩ := R1.ret0 z2 z3
      rw [q3] at z4
      refine ⟨v, gh2, z1, ?_⟩
      rw [hT, he', dstT_v]
      exact (hE _ _ R2).putV d hd rv v (Rep.mono (G.stay w') z4)
  split at h
  · obtain ⟨av, h1, rfl, h3⟩ := set1_g h he
    simp only [PX.ev, CR.ev_val, evCRs_val, Option.bind_eq_some_iff, Option.some.injEq] at h1
    obtain ⟨ax, x1, avs, a1, rv, hr, rfl⟩ := h1
    unfold A.callv at hr
    split at hr
    · split at hr
      · rename_i hpl
        exact plain x1 a1 hpl hr (e2 := e) (fun _ _ h => h) h3 rfl
      · cases hr
    · cases hr
  · rename_i hown
    cases h
    have hhp := hhp hown
    simp only [Dyn.ev, CR.ev_val, evCRs_val, Option.bind_eq_some_iff] at he
    obtain ⟨ax, x1, avs, a1, he⟩ := he
    obtain ⟨bs, e1, _⟩ := R.hp hhp
    rw [e1] at he
    simp only [Option.bind_eq_some_iff, Option.some.injEq] at he
    obtain ⟨⟨rv, h'⟩, hr, rfl⟩ := he
    unfold A.callh at hr
    split at hr
    · rename_i f first cap
      split at hr
      · rename_i hpl
        simp only [Option.bind_eq_some_iff, Option.some.injEq, Prod.mk.injEq] at hr
        obtain ⟨_, hr, rfl, rfl⟩ := hr
        have hid : e.set HS [.hp bs] = e := by rw [← e1]; exact set_id e HS
        exact plain x1 a1 hpl hr (e2 := e.set HS [.hp bs]) (fun _ _ h => by rw [hid]; exact h) (ups_append _ _ _) rfl
      · split at hr
        · rename_i hpl
          simp only [Option.bind_eq_some_iff] at hr
          obtain ⟨rr, hr, hm⟩ := hr
          split at hm
          · rename_i r0 h0
            cases hm
            have kx := rdV_sound R hg hq x1
            obtain ⟨gh1, g1, R1, _, g3⟩ := usesO_sound R hg hu a1
            have kx := Rep.mono (g1.stay w) kx
            generalize hvx : a.eval x = vx at kx
            cases kx with
            | fn _ _ _ fv cv hfv hcv =>
              obtain ⟨sg, q1, q2, q3, q4⟩ := hS.v2 f hpl
              have hall := (hfv.app g3).app hcv
              have hargs := argsOk_v 0 hall
              rw [← q4 _ _ _ hr] at hargs
              have hca := hS.f1 f sg q1 q2 w gh1 (.hp bs) _ _ _ R1.ghOk hargs (heapOk_at (R1.hp hhp) e1) hr
              refine good_enter (exec_callv ho hc hvx (hS.ok f sg _ _ q1 hr)) hdst (Calls.mono hca (fun en w' ⟨v, gh', r', h2, z1, z2, z3, z4, z5, z6⟩ => ?_))
              simp only [AV.tup.injEq, List.cons.injEq, and_true] at z2
              obtain ⟨rfl, rfl⟩ := z2
              obtain ⟨gh2, G, R2⟩ := R1.ret1 hhp z3 z4 z5
              rw [q3] at z6
              refine ⟨v, gh2, z1, ?_⟩
              rw [ups_append, dstT_v]
              exact R2.putV d hd _ v (Rep.mono (G.stay w') z6)
          · cases hm
        · cases hr
    · cases hr

end
end Tr

namespace Tr
open Go

section
variable {P : Program} {F : Fm} {gh gh' : Gh} {T T' : Tags} {e e' : Env} {a : Act} {w w' : World} {o : Oper} {hn : Hn} {gd : Option (Nat × Nat × Bool)} {S : Fns} {d : Nat} {sig : Nat → Option Sg} {own pol : Nat}

theorem planCall_sound (R : Rel F gh T e a w) (hg : gdOn T e gd) (hS : FnsOk P sig S) (hhp : own ≠ 0 → F.hp = true) {c : Call} (ho : o.op = .call c) (hdst : o.dst = some d) (hd : d < F.n) {plan : Plan} (he : plan.dyn.ev S e some = some e') (hgk : gdOk gd plan = true)
    (h : planCall P sig hn own T gd d pol c = some plan) : Good P F o a w (T.ups plan.ups) e' := by
  unfold planCall at h
  split at h
  · rename_i f hc
    simp only [Option.bind_eq_some_iff] at h
    obtain ⟨sg, hsg, r, hr, h⟩ := h
    split at h
    · rename_i hown
      split at h
      · cases h
      · rename_i hcc
        simp only [not_or] at hcc
        have hpol : decide (pol = 1) = false := by simp [hcc.2]
        rw [hpol] at hr
        exact hcall_sound R hg hS (hhp hcc.1) ho hc hdst hd hsg hown hr he hgk h
    · rename_i hown
      split at h
      · rename_i hpol
        rw [show decide (pol = 1) = true by simp [hpol]] at hr
        exact callB_sound R hg hS ho hc hdst hd hsg hown hr he hgk h
      · rename_i hpol
        rw [show decide (pol = 1) = false by simp [hpol]] at hr
        exact call0_sound R hg hS ho hc hdst hd hsg hown hr he hgk h
  · rename_i x hx hc
    exact callv_sound R hg hS hhp ho hc hdst hd he h
  · rename_i hc
    exact len_sound R hg ho hc hdst hd he h
  · rename_i hc
    exact append_sound R hg ho hc hdst hd he h
  · rename_i hc
    exact min_sound R hg ho hc hdst hd he h
  · rename_i hc
    exact max_sound R hg ho hc hdst hd he h
  · cases h

theorem plan_sound (R : Rel F gh T e a w) (hg : gdOn T e gd) (hS : FnsOk P sig S) (hhp : own ≠ 0 → F.hp = true) (hdn : ∀ d, o.dst = some d → d < F.n) {plan : Plan} (he : plan.dyn.ev S e some = some e') (hgk : gdOk gd plan = true)
    (h : planOp P sig hn own T gd pol o = some plan) : Good P F o a w (T.ups plan.ups) e' := by
  unfold planOp at h
  split at h
  · rename_i x d h1 h2
    exact mv_sound R hg (by simp only [execOp, h1]) h2 (hdn d h2) he hgk h
  · rename_i x d h1 h2
    exact mv_sound R hg (by simp only [execOp, h1]) h2 (hdn d h2) he hgk h
  · rename_i c x y d h1 h2
    exact pick_sound R hg h1 h2 (hdn d h2) he h
  · rename_i op t x y b d h1 h2
    exact binOp_sound R hg h1 h2 (hdn d h2) he h
  · rename_i op t x d h1 h2
    exact unOp_sound R hg h1 h2 (hdn d h2) he h
  · rename_i s t x d h1 h2
    exact convert_sound R hg h1 h2 (hdn d h2) he h
  · rename_i el d h1 h2
    exact alloc_sound R h1 h2 (hdn d h2) he h
  · rename_i el x d h1 h2
    exact box_sound R hg h1 h2 (hdn d h2) he h
  · rename_i s x f d h1 h2
    exact fa_sound R hg h1 h2 (hdn d h2) he h
  · rename_i t x d h1 h2
    split at h
    · rename_i ht; exact ld_sound R hg h1 ht h2 (hdn d h2) he hgk h
    · cases h
  · rename_i t x y h1 h2
    split at h
    · rename_i ht; exact st_sound R hg h1 ht h2 he h
    · cases h
  · rename_i x d h1 h2
    exact nilCheck_sound R hg h1 h2 (hdn d h2) he h
  · rename_i t x i d h1 h2
    exact indexAddr_sound R hg h1 h2 (hdn d h2) he h
  · rename_i t x i d h1 h2
    exact index_sound R hg h1 h2 (hdn d h2) he h
  · rename_i t x lo hi mx d h1 h2
    exact slice_sound R hg h1 h2 (hdn d h2) he h
  · rename_i t ps d h1 h2
    exact build_sound R hg h1 h2 (hdn d h2) he h
  · rename_i t n ps d h1 h2
    exact buildSlice_sound R hg h1 h2 (hdn d h2) he h
  · rename_i t l c d h1 h2
    exact makeSlice_sound R hg h1 h2 (hdn d h2) he h
  · rename_i x i d h1 h2
    exact extract_sound R hg h1 h2 (hdn d h2) he h
  · rename_i s x f d h1 h2
    exact field_sound R hg h1 h2 (hdn d h2) he h
  · rename_i f first cap d h1 h2
    exact makeFunc_sound R hg h1 h2 (hdn d h2) he h
  · rename_i c d h1 h2
    exact planCall_sound R hg hS hhp h1 h2 (hdn d h2) he hgk h
  · cases h

end
end Tr

namespace Tr
open Go

section
variable {P : Program} {F : Fm} {gh gh' : Gh} {T T' : Tags} {e e' : Env} {a : Act} {w w' : World} {o : Oper} {gd : Option (Nat × Nat × Bool)} {d : Nat}

theorem cksRe_spec : ∀ {a b : List CK}, cksRe a b = true → b.length = a.length ∧ ∀ (k : Nat) (c' : CK), b[k]? = some c' → ∃ c, a[k]? = some c ∧ ckRe c c' = true
  | [], [], _ => ⟨rfl, by simp⟩
  | x :: a, y :: b, h => by
    simp only [cksRe, Bool.and_eq_true] at h
    obtain ⟨i1, i2⟩ := cksRe_spec h.2
    refine ⟨by simp [i1], fun k c' hc => ?_⟩
    cases k with
    | zero => simp at hc; subst hc; exact ⟨x, rfl, h.1⟩
    | succ k => simpa using i2 k c' (by simpa using hc)
  | [], _ :: _, h => by simp [cksRe] at h
  | _ :: _, [], h => by simp [cksRe] at h

theorem Rel.re (R : Rel F gh T e a w) {t : Nat} {x : Tg} (hg : x.g = (T t).g) (h1 : x.gd = none) (h2 : (T t).gd = none) (hr : tagRe (T t).tag x.tag = true) : ∃ gh', Rel F gh' (T.up t x) e a w := by
  let Pk : Key → Prop := fun key => match key with | .own s i k => s = t ∧ i = 0 ∧ ∃ c', x.tag.ck k = some c' ∧ c'.k = .v | _ => False
  have hab : ∀ key, Pk key → about t key := fun key h => by cases key <;> simp_all [Pk, about]
  have hk : ∀ (k : Nat) (c c' : CK), x.tag.ck k = some c' → ckRe c c' = true → c.u = c'.u ∧ KLe (rn Pk none) (.own t 0 k) c.k c'.k := by
    intro k c c' hx hc
    unfold ckRe at hc
    simp only [Bool.and_eq_true, beq_iff_eq] at hc
    refine ⟨hc.1, ?_⟩
    cases hq : c.k <;> cases hq' : c'.k <;> rw [hq, hq'] at hc <;> simp at hc
    all_goals first
      | exact .dead _
      | exact .v
      | exact .fr _ _ (rn_in ⟨rfl, rfl, c', hx, hq'⟩)
      | skip
    obtain ⟨_, rfl, rfl⟩ := hc
    exact .keep _ _ (rn_out (by rintro ⟨_, _, c2, h3, h4⟩; rw [hx] at h3; cases h3; rw [hq'] at h4; cases h4))
  have hle : TagLe (rn Pk none) t (T t).tag x.tag := by
    revert hk
    generalize hT : (T t).tag = y at hr
    generalize hX : x.tag = z at hr
    intro hk
    cases y <;> cases z <;> simp [tagRe] at hr
    · obtain ⟨q1, q2⟩ := hk 0 _ _ rfl hr
      exact .one _ _ q1 q2
    · obtain ⟨q1, q2⟩ := cksRe_spec hr
      exact .agg _ _ q1 (fun k c' hc => by
        obtain ⟨c, p1, p2⟩ := q2 k c' hc
        obtain ⟨z1, z2⟩ := hk k c c' hc p2
        exact ⟨c, p1, z1, z2⟩)
    · obtain ⟨q1, q2⟩ := cksRe_spec hr
      exact .box _ _ q1 (fun k c' hc => by
        obtain ⟨c, p1, p2⟩ := q2 k c' hc
        obtain ⟨z1, z2⟩ := hk k c c' hc p2
        exact ⟨c, p1, z1, z2⟩)
  have hx : x = ⟨(T t).g, x.tag, (T t).gd⟩ := by cases x; simp_all
  have := R.retag t x.tag (rn Pk none) (R.lt (by intro hd; rw [hd] at hr; cases hq : x.tag <;> rw [hq] at hr <;> simp [tagRe] at hr)) (rn_about hab) (rn_out (by simp [Pk])) hle (.inl h2)
  rw [← hx] at this
  exact ⟨_, this⟩

theorem refB_spec {t k g u : Nat} (h : refB T t k g u = true) : RefOk T (.al t k g u) := by
  unfold refB at h
  simp only [Bool.and_eq_true, decide_eq_true_eq, Bool.or_eq_true, bne_iff_ne, ne_eq] at h
  refine ⟨h.1, fun hg c hc => ?_⟩
  rcases h.2 with h2 | h2
  · exact absurd hg h2
  · rw [hc] at h2
    simpa using h2

/-- The guard says no: the slot holds nothing. -/
theorem gf_sound {s g : Nat} {b : Bool} (hd : d < F.n) (hs : s ≠ d) : ∀ (ups : List (Nat × Tg)) (T : Tags) (gh : Gh), Rel F gh T e a w → g ≤ (T s).g → e s ≠ [.bool b] → gfOk (some (s, g, b)) d T ups = true → (∀ y ∈ ups, y.1 ≠ s) →
    ∃ gh', Rel F gh' (T.ups ups) (e.set d [.undef]) (a.put (some d) undef) w
  | [], T, gh, _, _, _, h, _ => by simp [gfOk] at h
  | [(t, x)], T, gh, R, hgl, hes, h, hns => by
    simp only [gfOk, Bool.and_eq_true, beq_iff_eq] at h
    obtain ⟨⟨rfl, hg⟩, h⟩ := h
    have ht := tmp_put_same a t undef (by rw [R.n]; exact hd)
    have al : ∀ (tag : Tag), x.tag = tag → tag.holds = false → RefOk T tag → gfOk.sameGd x.gd (some (s, g, b)) = true → ∃ gh', Rel F gh' (T.ups [(t, x)]) (e.set t [.undef]) (a.put (some t) undef) w := by
      intro tag htag hh href hgd
      have hxgd : x.gd = some (s, g, b) := by
        unfold gfOk.sameGd at hgd
        split at hgd
        · rename_i h1 h2
          simp only [Bool.and_eq_true, beq_iff_eq] at hgd
          obtain ⟨⟨rfl, rfl⟩, rfl⟩ := hgd
          cases h2
          assumption
        · cases hgd
      have hx : x = ⟨(T t).g + 1, tag, some (s, g, b)⟩ := by cases x; simp_all
      subst hx
      exact ⟨gh, R.put t hd tag (some (s, g, b)) [.undef] undef R.base (Pers.refl _ _ _) rfl href (fun s' g' b' h => by cases h; exact hgl) (fun h => by rw [hh] at h; cases h) (fun ⟨h1, h2, h3⟩ => by
        exfalso
        rw [set_other _ _ _ _ hs] at h2
        exact hes h2)⟩
    cases htag : x.tag with
    | one c =>
      rw [htag] at h
      simp only [Bool.and_eq_true, Option.isNone_iff_eq_none] at h
      have hx : x = ⟨(T t).g + 1, .one c, none⟩ := by cases x; simp_all
      subst hx
      refine ⟨gh, R.put t hd (.one c) none [.undef] undef R.base (Pers.refl _ _ _) rfl trivial (fun _ _ _ h => by cases h) (fun _ => rfl) (fun _ => ⟨.undef, set_same _ _ _, ?_⟩)⟩
      rw [ht]
      cases hk : c.k with
      | v => exact .undef
      | _ => have := h.1; simp [CK.isV, hk, CKd.isV] at this
    | al s' k g' u =>
      rw [htag] at h
      simp only [Bool.and_eq_true] at h
      exact al _ htag rfl (refB_spec h.1) h.2
    | ep s' k off g' u =>
      rw [htag] at h
      simp only [Bool.and_eq_true] at h
      exact al _ htag rfl (refB_spec h.1) h.2
    | bp s' off g' =>
      rw [htag] at h
      simp only [Bool.and_eq_true, decide_eq_true_eq] at h
      exact al _ htag rfl h.1 h.2
    | _ => rw [htag] at h; cases h
  | (t, x) :: y :: r, T, gh, R, hgl, hes, h, hns => by
    simp only [gfOk, Bool.and_eq_true, beq_iff_eq, Option.isNone_iff_eq_none] at h
    obtain ⟨⟨⟨⟨h1, h2⟩, h3⟩, h4⟩, h5⟩ := h
    obtain ⟨gh1, R1⟩ := R.re h1 h2 h3 h4
    have hts : s ≠ t := fun e => hns (t, x) (by simp) e.symm
    exact gf_sound hd hs (y :: r) (T.up t x) gh1 R1 (by rw [up_other _ _ _ _ hts]; exact hgl) hes h5 (fun z hz => hns z (by simp [hz]))

end
end Tr

namespace Tr
open Go

def stepG (S : Fns) (x : GP) (dst : Option Nat) (e : Env) : Option Env :=
  match x.gd with
  | none => x.p.dyn.ev S e some
  | some (s, _, b) => ((CR.c s).val e).bind fun c => (A.isB b c).bind fun t => if t then x.p.dyn.ev S e some else some (match dst with | some d => e.set d [.undef] | none => e)

section
variable {P : Program} {F : Fm} {gh gh' : Gh} {T T' : Tags} {e e' : Env} {a : Act} {w w' : World} {o : Oper} {hn : Hn} {S : Fns} {sig : Nat → Option Sg} {own n reg i : Nat} {ops : Array Oper} {Q : Exit → Act → World → Prop}

theorem planOps_cons {r : List Oper} {q : List GP × Tags} (h : planOps P sig hn own n reg ops i (o :: r) T = some q) :
    ∃ x q', planAt P sig hn own n reg ops i o T = some x ∧ planOps P sig hn own n reg ops (i + 1) r (T.ups x.p.ups) = some q' ∧ q = (x :: q'.1, q'.2) := by
  simp only [planOps, Option.bind_eq_some_iff, Option.some.injEq] at h
  obtain ⟨x, hx, q', hq', h⟩ := h
  exact ⟨x, q', hx, hq', h.symm⟩

theorem op_sound (R : Rel F gh T e a w) (hS : FnsOk P sig S) (hhp : own ≠ 0 → F.hp = true) (hnn : F.n = n) (hoi : ops[i]? = some o) {x : GP} (hx : planAt P sig hn own n reg ops i o T = some x) (hs : stepG S x o.dst e = some e')
    {K : Act → World → Prop} (hK : ∀ gh' a' w', Rel F gh' (T.ups x.p.ups) e' a' w' → K a' w') : wpOp P ops Q i K a w := by
  unfold planAt at hx
  simp only [Option.bind_eq_some_iff] at hx
  obtain ⟨gd, hgd, p, hp, hx⟩ := hx
  rw [Option.ite_none_right_eq_some] at hx
  obtain ⟨hcc, hx⟩ := hx
  cases hx
  simp only [Bool.and_eq_true] at hcc
  obtain ⟨⟨hgk, c2⟩, c3⟩ := hcc
  have hdn : ∀ d, o.dst = some d → d < F.n := fun d hd => by
    rw [hd] at c3
    rw [hnn]
    exact of_decide_eq_true c3
  have go : gdOn T e gd → p.dyn.ev S e some = some e' → o.wp P a w K Q := fun hg he =>
    plan_sound R hg hS hhp hdn he hgk hp K Q hK
  unfold wpOp
  rw [hoi]
  simp only
  unfold gdOf at hgd
  cases hguard : o.guard with
  | none =>
    rw [hguard] at hgd
    cases hgd
    have hw : Region.wanted o (yielded ops a.tmps) = true := by simp [Region.wanted, hguard]
    rw [if_pos hw]
    exact .inl (go trivial hs)
  | some gb =>
    obtain ⟨j, b⟩ := gb
    rw [hguard] at hgd
    simp only [Option.bind_eq_some_iff] at hgd
    obtain ⟨s, ⟨oj, hoj, hsj⟩, hgd⟩ := hgd
    split at hgd
    · rename_i c hgdn htag
      split at hgd
      · rename_i hv
        cases hgd
        simp only [stepG, Option.bind_eq_some_iff] at hs
        obtain ⟨cv, hcv, t, ht, hs⟩ := hs
        have hsl := R.slot s (by rw [hgdn]; trivial)
        rw [htag] at hsl
        obtain ⟨z, hz, hc⟩ := hsl
        have hck : c.k = .v := by cases hk : c.k <;> simp [CK.isV, hk, CKd.isV] at hv; rfl
        rw [hck] at hc
        simp only [CR.val, hz, List.getElem?_cons_zero, Option.some.injEq] at hcv
        subst hcv
        have hsn : s < F.n := R.lt (by rw [htag]; simp)
        have hy : yielded ops a.tmps j = match tmp a s with | .bool b => some b | _ => none := by
          unfold yielded
          have : ((ops[j]?).bind (·.dst)).bind (a.tmps[·]?) = some (tmp a s) := by
            rw [hoj]
            simp only [Option.bind_some, hsj]
            have hlt : s < a.tmps.size := by rw [R.n]; exact hsn
            simp [tmp, hlt]
          rw [this]
          cases tmp a s <;> rfl
        have hwant : Region.wanted o (yielded ops a.tmps) = t := by
          simp only [Region.wanted, hguard, hy]
          revert hc
          generalize tmp a s = v
          intro hc
          unfold A.isB at ht
          split at ht
          · cases ht; cases hc; simp
          · cases ht; cases hc; rfl
          · cases ht
        rw [hwant]
        cases t with
        | true =>
          simp only [if_true] at hs ⊢
          refine .inl (go ⟨rfl, ?_, by rw [htag]; rfl⟩ hs)
          unfold A.isB at ht
          split at ht
          · rename_i cb
            simp only [Option.some.injEq, beq_iff_eq] at ht
            rw [hz, ht]
          · cases ht
          · cases ht
        | false =>
          simp only [Bool.false_eq_true, if_false] at hs ⊢
          cases hdst : o.dst with
          | none => rw [hdst] at c2; simp [okGf] at c2
          | some d =>
            rw [hdst] at c2 hs
            simp only [Option.some.injEq] at hs
            subst hs
            simp only [okGf, Bool.and_eq_true, Bool.not_eq_true', Bool.or_eq_false_iff] at c2
            obtain ⟨c2, c4, _⟩ := c2
            have hns : ∀ y ∈ p.ups, y.1 ≠ s := fun y hy he => by rw [List.any_eq_false] at c4; exact c4 y hy (by simp [he])
            have hsd : s ≠ d := fun he => by
              have : ∃ y ∈ p.ups, y.1 = d := by
                clear hp hns c4 hgk hdn go hK
                revert c2
                generalize (T s).g = g0
                generalize T = T0
                generalize p.ups = ups
                induction ups generalizing T0 with
                | nil => intro h; simp [gfOk] at h
                | cons y r ih =>
                  intro h
                  cases r with
                  | nil =>
                    obtain ⟨t, x⟩ := y
                    simp only [gfOk, Bool.and_eq_true, beq_iff_eq] at h
                    exact ⟨(t, x), by simp, h.1.1⟩
                  | cons y' r' =>
                    obtain ⟨t, x⟩ := y
                    simp only [gfOk, Bool.and_eq_true] at h
                    obtain ⟨y2, h1, h2⟩ := ih _ h.2
                    exact ⟨y2, by simp [h1], h2⟩
              obtain ⟨y, hy, hyd⟩ := this
              exact hns y hy (hyd.trans he.symm)
            have hes : e s ≠ [.bool b] := by
              rw [hz]
              intro he
              cases he
              simp [A.isB] at ht
            obtain ⟨gh', hR⟩ := gf_sound (hdn d hdst) hsd p.ups T gh R (Nat.le_refl _) hes c2 hns
            exact hK _ _ _ hR
      · cases hgd
    · cases hgd

end
end Tr

namespace Tr
open Go

def stepsG (S : Fns) : List GP → List Oper → Env → Option Env
  | [], _, e => some e
  | x :: xs, o :: os, e => (stepG S x o.dst e).bind (stepsG S xs os)
  | _ :: _, [], _ => none

section
variable {P : Program} {F : Fm} {gh gh' : Gh} {T T' : Tags} {e e' : Env} {a : Act} {w w' : World} {o : Oper} {hn : Hn} {S : Fns} {sig : Nat → Option Sg} {own n reg i : Nat} {ops : Array Oper} {Q : Exit → Act → World → Prop}

theorem wpOps_text (hS : FnsOk P sig S) (hhp : own ≠ 0 → F.hp = true) (hnn : F.n = n) : ∀ (r : List Oper) (i : Nat) (T : Tags) (gh : Gh) (e : Env) (a : Act) (w : World) (q : List GP × Tags) (e' : Env), ops.toList.drop i = r → planOps P sig hn own n reg ops i r T = some q → stepsG S q.1 r e = some e' →
    Rel F gh T e a w → (∀ gh' a' w', Rel F gh' q.2 e' a' w' → Q .normal a' w') → wpOps P ops Q (List.range' i r.length) a w
  | [], i, T, gh, e, a, w, q, e', hd, hp, hs, R, hQ => by
    cases hp
    cases hs
    exact hQ _ _ _ R
  | o :: r, i, T, gh, e, a, w, q, e', hd, hp, hs, R, hQ => by
    obtain ⟨x, q', hx, hq', rfl⟩ := planOps_cons hp
    simp only [stepsG, Option.bind_eq_some_iff] at hs
    obtain ⟨e1, h1, h2⟩ := hs
    have hoi : ops[i]? = some o := by
      have := congrArg (fun l => l[0]?) hd
      simpa [List.getElem?_drop] using this
    have hdr : ops.toList.drop (i + 1) = r := by
      rw [← List.drop_drop, hd]; rfl
    rw [List.length_cons, List.range'_succ, wpOps_cons]
    exact op_sound R hS hhp hnn hoi hx h1 (fun gh' a' w' R' => wpOps_text hS hhp hnn r (i + 1) _ gh' e1 a' w' q' e' hdr hq' h2 R' hQ)

end
end Tr

namespace Tr
open Go

def Agree (l : List Nat) (e e2 : Env) : Prop := ∀ t ∈ l, e2 t = e t

theorem Agree.left {l m : List Nat} {e e2 : Env} (h : Agree (l ++ m) e e2) : Agree l e e2 := fun t ht => h t (List.mem_append_left _ ht)
theorem Agree.right {l m : List Nat} {e e2 : Env} (h : Agree (l ++ m) e e2) : Agree m e e2 := fun t ht => h t (List.mem_append_right _ ht)
theorem Agree.head {t : Nat} {m : List Nat} {e e2 : Env} (h : Agree (t :: m) e e2) : e2 t = e t := h t (by simp)
theorem Agree.tail {t : Nat} {m : List Nat} {e e2 : Env} (h : Agree (t :: m) e e2) : Agree m e e2 := fun s hs => h s (by simp [hs])

section
variable {e e2 : Env} {S : Fns}

theorem CR.agree {x : CR} (h : Agree x.rd e e2) : x.val e2 = x.val e := by
  cases x with
  | lit v => rfl
  | _ => simp only [CR.val]; rw [h.head]

theorem crs_agree : ∀ {xs : List CR}, Agree (rdCRs xs) e e2 → valCRs e2 xs = valCRs e xs
  | [], _ => rfl
  | x :: xs, h => by
    have h' : Agree (x.rd ++ rdCRs xs) e e2 := h
    simp only [valCRs]
    rw [CR.agree h'.left, crs_agree h'.right]

theorem opt_agree {x : Option CR} (h : Agree (rdOpt x) e e2) : valOpt e2 x = valOpt e x := by
  cases x with
  | none => rfl
  | some x => simp only [valOpt]; rw [CR.agree (x := x) h]

theorem PX.agree {p : PX} (h : Agree p.rd e e2) : p.ev S e2 some = p.ev S e some := by
  cases p
  case mv x => simp only [PX.ev, CR.ev_val]; rw [CR.agree (x := x) h]
  case pick c x y => have h' : Agree (c.rd ++ x.rd ++ y.rd) e e2 := h; simp only [PX.ev, CR.ev_val]; rw [CR.agree h'.left.left, CR.agree h'.left.right, CR.agree h'.right]
  case bin op x y => have h' : Agree (x.rd ++ y.rd) e e2 := h; simp only [PX.ev, CR.ev_val]; rw [CR.agree h'.left, CR.agree h'.right]
  case eq ne c ks x y => have h' : Agree (x.rd ++ y.rd) e e2 := h; simp only [PX.ev, CR.ev_val]; rw [CR.agree h'.left, CR.agree h'.right]
  case un op x => simp only [PX.ev, CR.ev_val]; rw [CR.agree (x := x) h]
  case cvi k x => simp only [PX.ev, CR.ev_val]; rw [CR.agree (x := x) h]
  case cvs x => simp only [PX.ev, CR.ev_val]; rw [CR.agree (x := x) h]
  case cvb x => simp only [PX.ev, CR.ev_val]; rw [CR.agree (x := x) h]
  case len s x => simp only [PX.ev, CR.ev_val]; rw [CR.agree (x := x) h]
  case idx x y => have h' : Agree (x.rd ++ y.rd) e e2 := h; simp only [PX.ev, CR.ev_val]; rw [CR.agree h'.left, CR.agree h'.right]
  case sub s sz x lo hi => have h' : Agree (x.rd ++ rdOpt lo ++ rdOpt hi) e e2 := h; simp only [PX.ev, CR.ev_val, evOpt_val]; rw [CR.agree h'.left.left, opt_agree h'.left.right, opt_agree h'.right]
  case fa off x => simp only [PX.ev, CR.ev_val]; rw [CR.agree (x := x) h]
  case ldi ag n x => simp only [PX.ev, CR.ev_val]; rw [CR.agree (x := x) h]
  case ld ag n x => have h' : Agree (HS :: x.rd) e e2 := h; simp only [PX.ev, CR.ev_val]; rw [CR.agree h'.tail, h'.head]
  case nilc x => simp only [PX.ev, CR.ev_val]; rw [CR.agree (x := x) h]
  case elp sz x y => have h' : Agree (x.rd ++ y.rd) e e2 := h; simp only [PX.ev, CR.ev_val]; rw [CR.agree h'.left, CR.agree h'.right]
  case inb x y => have h' : Agree (x.rd ++ y.rd) e e2 := h; simp only [PX.ev, CR.ev_val]; rw [CR.agree h'.left, CR.agree h'.right]
  case eld sz off ag n x y => have h' : Agree (x.rd ++ y.rd) e e2 := h; simp only [PX.ev, CR.ev_val]; rw [CR.agree h'.left, CR.agree h'.right]
  case build z ps xs => simp only [PX.ev, evCRs_val]; rw [crs_agree (xs := xs) h]
  case ext i x => simp only [PX.ev, CR.ev_val]; rw [CR.agree (x := x) h]
  case fld ag off n x => simp only [PX.ev, CR.ev_val]; rw [CR.agree (x := x) h]
  case fn f first cap => have h' : Agree (rdCRs first ++ rdCRs cap) e e2 := h; simp only [PX.ev, evCRs_val]; rw [crs_agree h'.left, crs_agree h'.right]
  case call f b xs => simp only [PX.ev, evCRs_val]; rw [crs_agree (xs := xs) h]
  case callv x xs => have h' : Agree (x.rd ++ rdCRs xs) e e2 := h; simp only [PX.ev, CR.ev_val, evCRs_val]; rw [CR.agree h'.left, crs_agree h'.right]
  case app sz bytes x y => have h' : Agree (x.rd ++ y.rd) e e2 := h; simp only [PX.ev, CR.ev_val]; rw [CR.agree h'.left, CR.agree h'.right]
  case mksl sz xs => simp only [PX.ev, evCRs_val]; rw [crs_agree (xs := xs) h]
  case mks bytes z x y => have h' : Agree (x.rd ++ y.rd) e e2 := h; simp only [PX.ev, CR.ev_val]; rw [CR.agree h'.left, CR.agree h'.right]
  case mn x y => have h' : Agree (x.rd ++ y.rd) e e2 := h; simp only [PX.ev, CR.ev_val]; rw [CR.agree h'.left, CR.agree h'.right]
  case mx x y => have h' : Agree (x.rd ++ y.rd) e e2 := h; simp only [PX.ev, CR.ev_val]; rw [CR.agree h'.left, CR.agree h'.right]

end
end Tr

namespace Tr
open Go

def Env.over (e2 e' : Env) (l : List Nat) : Env := fun t => if t ∈ l then e' t else e2 t

/-- Turned so, and nowhere else. -/
structure Loc (S : Fns) (dy : Dyn) (e e' e2 : Env) : Prop where
  ev : dy.ev S e2 some = some (e2.over e' dy.wr)
  out : ∀ t, t ∉ dy.wr → e' t = e t

section
variable {e e' e2 : Env} {S : Fns}

theorem over1 (d : Nat) (c : List AV) : e2.set d c = e2.over (e.set d c) [d] := by
  funext t
  by_cases h : t = d <;> simp [Env.set, Env.over, h]

theorem over2 (d s : Nat) (c m : List AV) : (e2.set d c).set s m = e2.over ((e.set d c).set s m) [d, s] := by
  funext t
  by_cases h : t = s
  · simp [Env.set, Env.over, h]
  · by_cases h2 : t = d <;> simp [Env.set, Env.over, h, h2]

theorem over2' (d s : Nat) (c m : List AV) : (e2.set d c).set s m = e2.over ((e.set d c).set s m) [s, d] := by
  funext t
  by_cases h : t = s
  · simp [Env.set, Env.over, h]
  · by_cases h2 : t = d <;> simp [Env.set, Env.over, h, h2]

theorem out1 (d : Nat) (c : List AV) : ∀ t, t ∉ [d] → (e.set d c) t = e t := fun t h => set_other _ _ _ _ (by simpa using h)

theorem loc1 {dy : Dyn} {d : Nat} {c : List AV} (hw : dy.wr = [d]) (he : e' = e.set d c) (h2 : dy.ev S e2 some = some (e2.set d c)) : Loc S dy e e' e2 := by
  subst he
  exact ⟨by rw [h2, hw, over1 (e := e)], by rw [hw]; exact out1 d c⟩

theorem Dyn.loc {dy : Dyn} (hf : ∀ d f first caps, dy ≠ .fnc d f first caps) (h : dy.ev S e some = some e') (ha : Agree dy.rd e e2) : Loc S dy e e' e2 := by
  cases dy
  case nop =>
    cases h
    exact ⟨by simp only [Dyn.ev, Dyn.wr]; congr 1, fun _ _ => rfl⟩
  case set d p =>
    simp only [Dyn.ev] at h
    rw [PX.ev_val] at h
    simp only [Option.bind_eq_some_iff, Option.some.injEq] at h
    obtain ⟨av, h1, rfl⟩ := h
    refine loc1 rfl rfl ?_
    simp only [Dyn.ev]
    rw [PX.ev_val, PX.agree (p := p) ha, h1]
    rfl
  case csp d p =>
    simp only [Dyn.ev] at h
    rw [PX.ev_val] at h
    simp only [Option.bind_eq_some_iff, Option.some.injEq] at h
    obtain ⟨av, h1, m, h2, rfl⟩ := h
    refine loc1 rfl rfl ?_
    simp only [Dyn.ev]
    rw [PX.ev_val, PX.agree (p := p) ha, h1]
    simp [h2]
  case cpy d s =>
    simp only [Dyn.ev, Option.some.injEq] at h
    subst h
    refine loc1 rfl rfl ?_
    simp only [Dyn.ev]
    rw [ha.head]
  case cst d c =>
    simp only [Dyn.ev, Option.some.injEq] at h
    subst h
    exact loc1 rfl rfl rfl
  case cs d ag n x =>
    simp only [Dyn.ev, CR.ev_val, Option.bind_eq_some_iff, Option.some.injEq] at h
    obtain ⟨av, h1, m, h2, rfl⟩ := h
    refine loc1 rfl rfl ?_
    simp only [Dyn.ev, CR.ev_val]
    rw [CR.agree (x := x) ha, h1]
    simp [h2]
  case stc t i x =>
    have ha' : Agree (t :: x.rd) e e2 := ha
    simp only [Dyn.ev, CR.ev_val, Option.bind_eq_some_iff, Option.some.injEq] at h
    obtain ⟨av, h1, m, h2, rfl⟩ := h
    refine loc1 rfl rfl ?_
    simp only [Dyn.ev, CR.ev_val]
    rw [CR.agree ha'.tail, h1, ha'.head]
    simp [h2]
  case stw t n x =>
    simp only [Dyn.ev, CR.ev_val, Option.bind_eq_some_iff, Option.some.injEq] at h
    obtain ⟨av, h1, m, h2, rfl⟩ := h
    refine loc1 rfl rfl ?_
    simp only [Dyn.ev, CR.ev_val]
    rw [CR.agree (x := x) ha, h1]
    simp [h2]
  case stm t i n x =>
    have ha' : Agree (t :: x.rd) e e2 := ha
    simp only [Dyn.ev, CR.ev_val, Option.bind_eq_some_iff, Option.some.injEq] at h
    obtain ⟨av, h1, m, h2, rfl⟩ := h
    refine loc1 rfl rfl ?_
    simp only [Dyn.ev, CR.ev_val]
    rw [CR.agree ha'.tail, h1, ha'.head]
    simp [h2]
  case sts t i s =>
    have ha' : Agree (t :: [s]) e e2 := ha
    simp only [Dyn.ev, Option.some.injEq] at h
    subst h
    refine loc1 rfl rfl ?_
    simp only [Dyn.ev]
    rw [ha'.head, ha'.tail.head]
  case ste t i bx sz off wh ag n j x =>
    have ha' : Agree (t :: (j.rd ++ x.rd)) e e2 := ha
    have hb : (if bx = true then CR.b t i else CR.c t).val e2 = (if bx = true then CR.b t i else CR.c t).val e := by cases bx <;> simp [CR.val, ha'.head]
    simp only [Dyn.ev, CR.ev_val, Option.bind_eq_some_iff, Option.some.injEq] at h
    obtain ⟨av, h1, aj, h2, ax, h3, r, h4, rfl⟩ := h
    refine loc1 rfl rfl ?_
    simp only [Dyn.ev, CR.ev_val]
    rw [hb, h1, CR.agree ha'.tail.left, h2, CR.agree ha'.tail.right, h3, ha'.head]
    simp [h4]
  case frz d s =>
    have ha' : Agree [s] e e2 := ha
    simp only [Dyn.ev, Option.some.injEq] at h
    subst h
    refine ⟨?_, fun t ht => ?_⟩
    · simp only [Dyn.ev, Dyn.wr]
      rw [ha'.head, over2 (e := e)]
    · simp only [Dyn.wr, List.mem_cons, List.not_mem_nil, or_false, not_or] at ht
      rw [set_other _ _ _ _ ht.2, set_other _ _ _ _ ht.1]
  case hnew d ag x =>
    have ha' : Agree (HS :: x.rd) e e2 := ha
    simp only [Dyn.ev, CR.ev_val, Option.bind_eq_some_iff] at h
    obtain ⟨av, h1, h⟩ := h
    split at h
    · rename_i hh tl heq
      simp only [Option.bind_eq_some_iff, Option.some.injEq] at h
      obtain ⟨r, h2, rfl⟩ := h
      refine ⟨?_, fun t ht => ?_⟩
      · simp only [Dyn.ev, Dyn.wr, CR.ev_val]
        rw [CR.agree ha'.tail, h1, ha'.head, heq]
        simp only [Option.bind_some, h2]
        rw [over2 (e := e)]
      · simp only [Dyn.wr, List.mem_cons, List.not_mem_nil, or_false, not_or] at ht
        rw [set_other _ _ _ _ ht.2, set_other _ _ _ _ ht.1]
    · cases h
  case hst ag n p x =>
    have ha' : Agree (HS :: (p.rd ++ x.rd)) e e2 := ha
    simp only [Dyn.ev, CR.ev_val, Option.bind_eq_some_iff] at h
    obtain ⟨av, h1, ax, h2, h⟩ := h
    split at h
    · rename_i hh tl heq
      simp only [Option.bind_eq_some_iff, Option.some.injEq] at h
      obtain ⟨r, h3, rfl⟩ := h
      refine loc1 rfl rfl ?_
      simp only [Dyn.ev, CR.ev_val]
      rw [CR.agree ha'.tail.left, h1, CR.agree ha'.tail.right, h2, ha'.head, heq]
      simp [h3]
    · cases h
  case hcall d f xs =>
    have ha' : Agree (HS :: rdCRs xs) e e2 := ha
    simp only [Dyn.ev, evCRs_val, Option.bind_eq_some_iff] at h
    obtain ⟨av, h1, h⟩ := h
    split at h
    · rename_i hh tl heq
      simp only [Option.bind_eq_some_iff, Option.some.injEq] at h
      obtain ⟨r, ⟨rr, h2, h3⟩, rfl⟩ := h
      refine ⟨?_, fun t ht => ?_⟩
      · simp only [Dyn.ev, Dyn.wr, evCRs_val]
        rw [crs_agree ha'.tail, h1, ha'.head, heq]
        simp only [Option.bind_some, h2, h3]
        rw [over2 (e := e)]
      · simp only [Dyn.wr, List.mem_cons, List.not_mem_nil, or_false, not_or] at ht
        rw [set_other _ _ _ _ ht.2, set_other _ _ _ _ ht.1]
    · cases h
  case hcallv d x xs =>
    have ha' : Agree (HS :: (x.rd ++ rdCRs xs)) e e2 := ha
    simp only [Dyn.ev, CR.ev_val, evCRs_val, Option.bind_eq_some_iff] at h
    obtain ⟨ax, h0, av, h1, h⟩ := h
    split at h
    · rename_i hh tl heq
      simp only [Option.bind_eq_some_iff, Option.some.injEq] at h
      obtain ⟨r, h2, rfl⟩ := h
      refine ⟨?_, fun t ht => ?_⟩
      · simp only [Dyn.ev, Dyn.wr, CR.ev_val, evCRs_val]
        rw [CR.agree ha'.tail.left, h0, crs_agree ha'.tail.right, h1, ha'.head, heq]
        simp only [Option.bind_some, h2]
        rw [over2 (e := e)]
      · simp only [Dyn.wr, List.mem_cons, List.not_mem_nil, or_false, not_or] at ht
        rw [set_other _ _ _ _ ht.2, set_other _ _ _ _ ht.1]
    · cases h
  case fnc d f first caps => exact absurd rfl (hf d f first caps)

end
end Tr

namespace Tr
open Go

def AgreeOff (D : Nat → Prop) (e e2 : Env) : Prop := ∀ t, ¬ D t → e2 t = e t

section
variable {S : Fns} {e e' e2 : Env} {D : Nat → Prop}

theorem evDs_val {R : Type} : ∀ (ds : List Dyn) (e : Env) (k : Env → Option R), evDs S ds e k = (evDs S ds e some).bind k
  | [], e, k => rfl
  | d :: ds, e, k => by
    simp only [evDs]
    have h1 : ∀ {R : Type} (k : Env → Option R), d.ev S e k = (d.ev S e some).bind k := by
      intro R k
      cases d
      case set d p => simp only [Dyn.ev]; rw [PX.ev_val, PX.ev_val S e p (fun a => some (e.set d [a]))]; cases p.ev S e some <;> rfl
      case csp d p => simp only [Dyn.ev]; rw [PX.ev_val, PX.ev_val S e p (fun a => (A.cs true a).bind fun m => some (e.set d m))]; cases p.ev S e some <;> simp [Option.bind_assoc]
      case hnew d ag x => simp only [Dyn.ev, CR.ev_val]; cases x.val e <;> simp <;> split <;> simp [Option.bind_assoc]
      case hst ag n p x => simp only [Dyn.ev, CR.ev_val]; cases p.val e <;> simp <;> cases x.val e <;> simp <;> split <;> simp [Option.bind_assoc]
      case hcall d f xs => simp only [Dyn.ev, evCRs_val]; cases valCRs e xs <;> simp <;> split <;> simp [Option.bind_assoc]
      case hcallv d x xs => simp only [Dyn.ev, CR.ev_val, evCRs_val]; cases x.val e <;> simp <;> cases valCRs e xs <;> simp <;> split <;> simp [Option.bind_assoc]
      all_goals simp [Dyn.ev, CR.ev_val, evCRs_val, Option.bind_assoc]
    rw [h1, h1 (fun e => evDs S ds e some)]
    cases d.ev S e some with
    | none => rfl
    | some e1 => simp only [Option.bind_some]; exact evDs_val ds e1 k

/-- Captured variables turned, wherever. -/
theorem capE_out : ∀ (q : List (Nat × Bool)) (e : Env) (t : Nat), t ∉ q.map (·.1) → capE e q t = e t
  | [], _, _, _ => rfl
  | (s, true) :: r, e, t, h => by
    simp only [List.map_cons, List.mem_cons, not_or] at h
    simp only [capE]
    rw [set_other _ _ _ _ h.1]
    exact capE_out r e t h.2
  | (s, false) :: r, e, t, h => by
    simp only [List.map_cons, List.mem_cons, not_or] at h
    exact capE_out r e t h.2

theorem capE_in : ∀ (q : List (Nat × Bool)) (e e2 : Env), Agree (q.map (·.1)) e e2 → ∀ t, t ∈ q.map (·.1) → capE e2 q t = capE e q t
  | [], _, _, _, t, h => by simp at h
  | (s, b) :: r, e, e2, ha, t, h => by
    have ha' : Agree (s :: r.map (·.1)) e e2 := ha
    have rest : ∀ t, t = s ∨ t ∈ r.map (·.1) → capE e2 r t = capE e r t := fun t ht => by
      by_cases hr : t ∈ r.map (·.1)
      · exact capE_in r e e2 ha'.tail t hr
      · rw [capE_out r e2 t hr, capE_out r e t hr]
        rcases ht with rfl | ht
        · exact ha'.head
        · exact absurd ht hr
    have ht : t = s ∨ t ∈ r.map (·.1) := by simpa using h
    cases b with
    | false => exact rest t ht
    | true =>
      simp only [capE]
      by_cases hts : t = s
      · subst hts; rw [set_same, set_same, ha'.head]
      · rw [set_other _ _ _ _ hts, set_other _ _ _ _ hts]; exact rest t ht

theorem capV_agree : ∀ (q : List (Nat × Bool)) (e e2 : Env), Agree (q.map (·.1)) e e2 → capV e2 q = capV e q
  | [], _, _, _ => rfl
  | (s, b) :: r, e, e2, ha => by
    have ha' : Agree (s :: r.map (·.1)) e e2 := ha
    cases b <;> simp only [capV] <;> rw [ha'.head, capV_agree r e e2 ha'.tail]

theorem Dyn.locF {d f : Nat} {first : List CR} {caps : List (Nat × Bool)} (h : (Dyn.fnc d f first caps).ev S e some = some e') (ha : Agree (Dyn.fnc d f first caps).rd e e2) : Loc S (.fnc d f first caps) e e' e2 := by
  have ha' : Agree (rdCRs first ++ caps.map (·.1)) e e2 := ha
  simp only [Dyn.ev, evCRs_val, Option.bind_eq_some_iff, Option.some.injEq] at h
  obtain ⟨av, h1, rfl⟩ := h
  refine ⟨?_, fun t ht => ?_⟩
  · simp only [Dyn.ev, evCRs_val]
    rw [crs_agree ha'.left, h1, capV_agree caps e e2 ha'.right]
    simp only [Option.bind_some, Option.some.injEq]
    funext t
    simp only [Env.over, Dyn.wr, List.mem_cons]
    by_cases htd : t = d
    · subst htd; simp [set_same]
    · rw [set_other _ _ _ _ htd, set_other _ _ _ _ htd]
      by_cases hc : t ∈ caps.map (·.1)
      · rw [if_pos (.inr hc)]; exact capE_in caps e e2 ha'.right t hc
      · rw [if_neg (by rintro (h | h); exact htd h; exact hc h)]; exact capE_out caps e2 t hc
  · simp only [Dyn.wr, List.mem_cons, not_or] at ht
    rw [set_other _ _ _ _ ht.1]
    exact capE_out caps e t ht.2

theorem Dyn.locA {dy : Dyn} (h : dy.ev S e some = some e') (ha : Agree dy.rd e e2) : Loc S dy e e' e2 := by
  by_cases hf : ∃ d f first caps, dy = .fnc d f first caps
  · obtain ⟨d, f, first, caps, rfl⟩ := hf
    exact Dyn.locF h ha
  · exact Dyn.loc (fun d f first caps h => hf ⟨d, f, first, caps, h⟩) h ha

theorem step_off {dy : Dyn} (h : dy.ev S e some = some e') (ha : AgreeOff D e e2) (hd : ∀ t ∈ dy.rd, ¬ D t) : ∃ e3, dy.ev S e2 some = some e3 ∧ AgreeOff D e' e3 := by
  have hl := Dyn.locA h (fun t ht => ha t (hd t ht))
  refine ⟨_, hl.ev, fun t ht => ?_⟩
  simp only [Env.over]
  split
  · rfl
  · rename_i hw
    rw [ha t ht, hl.out t hw]

theorem evDs_off : ∀ (ds : List Dyn) {e e' e2 : Env}, evDs S ds e some = some e' → AgreeOff D e e2 → (∀ dy ∈ ds, ∀ t ∈ dy.rd, ¬ D t) → ∃ e3, evDs S ds e2 some = some e3 ∧ AgreeOff D e' e3
  | [], e, e', e2, h, ha, _ => by cases h; exact ⟨e2, rfl, ha⟩
  | dy :: ds, e, e', e2, h, ha, hd => by
    have hv := evDs_val (S := S) [dy] e some
    simp only [evDs] at h
    have h1 : ∀ (e : Env) (k : Env → Option Env), dy.ev S e k = (dy.ev S e some).bind k := fun e k => by
      have := evDs_val (S := S) [dy] e k
      simpa [evDs] using this
    rw [h1] at h
    simp only [Option.bind_eq_some_iff] at h
    obtain ⟨e1, h2, h3⟩ := h
    obtain ⟨e4, q1, q2⟩ := step_off h2 ha (hd dy (by simp))
    obtain ⟨e5, q3, q4⟩ := evDs_off ds h3 q2 (fun dy' hm => hd dy' (by simp [hm]))
    refine ⟨e5, ?_, q4⟩
    simp only [evDs]
    rw [h1, q1]
    exact q3

end
end Tr

namespace Tr
open Go

section
variable {S : Fns}

theorem dyn_bind {R : Type} (dy : Dyn) (e : Env) (k : Env → Option R) : dy.ev S e k = (dy.ev S e some).bind k := by
  have := evDs_val (S := S) [dy] e k
  simpa [evDs] using this

theorem evGs_one : ∀ (xs : List GP) (r : List DG) (e : Env) (k : Env → Option Env), evGs S (xs.map (fun x => .one x.p.dyn) ++ r) e k = (evDs S (xs.map fun x => x.p.dyn) e some).bind fun e => evGs S r e k
  | [], r, e, k => rfl
  | x :: xs, r, e, k => by
    simp only [List.map_cons, List.cons_append, evGs, evDs]
    rw [dyn_bind, dyn_bind x.p.dyn e (fun e => evDs S (xs.map fun x => x.p.dyn) e some)]
    cases x.p.dyn.ev S e some with
    | none => rfl
    | some e1 => simp only [Option.bind_some]; exact evGs_one xs r e1 k

/-- Unguarded steps. -/
theorem stepsG_none : ∀ (xs : List GP) (os : List Oper) (e : Env), xs.length = os.length → (∀ x ∈ xs, x.gd = none) → stepsG S xs os e = evDs S (xs.map fun x => x.p.dyn) e some
  | [], [], e, _, _ => rfl
  | x :: xs, o :: os, e, hl, hg => by
    simp only [stepsG, List.map_cons, evDs]
    rw [dyn_bind x.p.dyn e (fun e => evDs S (xs.map fun x => x.p.dyn) e some)]
    have h1 : stepG S x o.dst e = x.p.dyn.ev S e some := by simp only [stepG, hg x (by simp)]
    rw [h1]
    cases x.p.dyn.ev S e some with
    | none => rfl
    | some e1 => simp only [Option.bind_some]; exact stepsG_none xs os e1 (by simpa using hl) (fun y hy => hg y (by simp [hy]))
  | [], _ :: _, _, hl, _ => by simp at hl
  | _ :: _, [], _, hl, _ => by simp at hl

theorem stepsG_true {s : Nat} {b : Bool} : ∀ (xs : List GP) (os : List Oper) (e e' : Env), xs.length = os.length → (∀ x ∈ xs, ∃ g, x.gd = some (s, g, b)) → (∀ x ∈ xs, s ∉ x.p.dyn.wr) → (e s)[0]? = some (.bool b) →
    evDs S (xs.map fun x => x.p.dyn) e some = some e' → stepsG S xs os e = some e'
  | [], [], e, e', _, _, _, _, h => h
  | x :: xs, o :: os, e, e', hl, hg, hw, hs, h => by
    simp only [List.map_cons, evDs] at h
    rw [dyn_bind] at h
    simp only [Option.bind_eq_some_iff] at h
    obtain ⟨e1, h1, h2⟩ := h
    obtain ⟨g, hx⟩ := hg x (by simp)
    have hst : stepG S x o.dst e = some e1 := by simp [stepG, hx, CR.val, hs, A.isB, h1]
    have he1 : e1 s = e s := (Dyn.locA h1 (fun _ _ => rfl)).out s (hw x (by simp))
    simp only [stepsG, hst, Option.bind_some]
    exact stepsG_true xs os e1 e' (by simpa using hl) (fun y hy => hg y (by simp [hy])) (fun y hy => hw y (by simp [hy])) (by rw [he1]; exact hs) h2
  | [], _ :: _, _, _, hl, _, _, _, _ => by simp at hl
  | _ :: _, [], _, _, hl, _, _, _, _ => by simp at hl

def und1 (dst : Option Nat) (e : Env) : Env := match dst with | some d => e.set d [.undef] | none => e

theorem stepsG_false {s : Nat} {b : Bool} {cv : AV} (hcv : A.isB b cv = some false) : ∀ (xs : List GP) (os : List Oper) (e : Env), xs.length = os.length → (∀ x ∈ xs, ∃ g, x.gd = some (s, g, b)) → (∀ o ∈ os, o.dst ≠ some s) → (e s)[0]? = some cv →
    ∃ e', stepsG S xs os e = some e' ∧ ∀ t, e' t = if (∃ o ∈ os, o.dst = some t) then [.undef] else e t
  | [], [], e, _, _, _, _ => ⟨e, rfl, fun t => by simp⟩
  | x :: xs, o :: os, e, hl, hg, hw, hs => by
    obtain ⟨g, hx⟩ := hg x (by simp)
    have hst : stepG S x o.dst e = some (und1 o.dst e) := by unfold und1; cases o.dst <;> simp [stepG, hx, CR.val, hs, hcv]
    have hs1 : und1 o.dst e s = e s := by
      unfold und1
      cases hd : o.dst with
      | none => rfl
      | some d => exact set_other _ _ _ _ (fun h => hw o (by simp) (by rw [hd, h]))
    obtain ⟨e', q1, q2⟩ := stepsG_false hcv xs os (und1 o.dst e) (by simpa using hl) (fun y hy => hg y (by simp [hy])) (fun y hy => hw y (by simp [hy])) (by rw [hs1]; exact hs)
    refine ⟨e', by simp only [stepsG, hst, Option.bind_some]; exact q1, fun t => ?_⟩
    rw [q2 t]
    by_cases h1 : ∃ o' ∈ os, o'.dst = some t
    · rw [if_pos h1, if_pos]
      obtain ⟨o', h2, h3⟩ := h1
      exact ⟨o', by simp [h2], h3⟩
    · rw [if_neg h1]
      unfold und1
      cases hd : o.dst with
      | none =>
        rw [if_neg]
        rintro ⟨o', h2, h3⟩
        rcases List.mem_cons.1 h2 with rfl | h2
        · rw [hd] at h3; cases h3
        · exact h1 ⟨o', h2, h3⟩
      | some d =>
        by_cases htd : t = d
        · subst htd
          rw [if_pos ⟨o, by simp, hd⟩]
          exact set_same _ _ _
        · rw [if_neg]
          · exact set_other _ _ _ _ htd
          · rintro ⟨o', h2, h3⟩
            rcases List.mem_cons.1 h2 with rfl | h2
            · rw [hd] at h3; cases h3; exact htd rfl
            · exact h1 ⟨o', h2, h3⟩
  | [], _ :: _, _, hl, _, _, _ => by simp at hl
  | _ :: _, [], _, hl, _, _, _ => by simp at hl

end
end Tr

namespace Tr
open Go

def flatG (gs : List (Option (Nat × Nat × Bool) × List GP)) : List GP := gs.flatMap (·.2)

/-- An operation under a guard writes its own slot, not the guard's. -/
def PairOk (x : GP) (o : Oper) : Prop := ∀ s g b, x.gd = some (s, g, b) → o.dst = some (gpD x) ∧ gpD x ≠ s ∧ s ∉ x.p.dyn.wr

inductive PairsOk : List GP → List Oper → Prop
  | nil : PairsOk [] []
  | cons {x xs o os} (h : PairOk x o) (hs : PairsOk xs os) : PairsOk (x :: xs) (o :: os)

theorem PairsOk.len {xs : List GP} {os : List Oper} (h : PairsOk xs os) : xs.length = os.length := by induction h <;> simp_all

theorem PairsOk.split : ∀ {xs ys : List GP} {os : List Oper}, PairsOk (xs ++ ys) os → ∃ o1 o2, os = o1 ++ o2 ∧ PairsOk xs o1 ∧ PairsOk ys o2
  | [], ys, os, h => ⟨[], os, rfl, .nil, h⟩
  | x :: xs, ys, os, h => by
    cases h with
    | cons h hs =>
      obtain ⟨o1, o2, rfl, h1, h2⟩ := PairsOk.split hs
      exact ⟨_ :: o1, o2, rfl, .cons h h1, h2⟩

section
variable {S : Fns}

theorem stepsG_app : ∀ (xs ys : List GP) (o1 o2 : List Oper) (e : Env), xs.length = o1.length → stepsG S (xs ++ ys) (o1 ++ o2) e = (stepsG S xs o1 e).bind fun e => stepsG S ys o2 e
  | [], ys, [], o2, e, _ => rfl
  | x :: xs, ys, o :: o1, o2, e, h => by
    simp only [List.cons_append, stepsG]
    cases stepG S x o.dst e with
    | none => rfl
    | some e1 => simp only [Option.bind_some]; exact stepsG_app xs ys o1 o2 e1 (by simpa using h)
  | [], _, _ :: _, _, _, h => by simp at h
  | _ :: _, _, [], _, _, h => by simp at h

theorem sets_get : ∀ (ds : List Nat) (e : Env) (f : Nat → AV) (u : Nat), (e.sets ds (ds.map f)) u = if u ∈ ds then [f u] else e u
  | [], _, _, _ => rfl
  | d :: ds, e, f, u => by
    simp only [List.map_cons, Env.sets, List.headD_cons, List.tail_cons]
    rw [sets_get ds _ f u]
    by_cases h : u ∈ ds
    · simp [h]
    · by_cases h2 : u = d
      · subst h2; simp [h, set_same]
      · simp [h, h2, set_other _ _ _ _ h2]

theorem outsOf_map (e : Env) : ∀ (ds : List Nat), outsOf e ds = ds.map (outOf e)
  | [] => rfl
  | d :: ds => by simp [outsOf, outsOf_map e ds]

theorem undefs_map : ∀ (ds : List Nat), undefs ds = ds.map fun _ => AV.undef
  | [] => rfl
  | d :: ds => by simp [undefs, undefs_map ds]

theorem evGs_grp {s : Nat} {w : Bool} {ds : List Dyn} {outs : List Nat} {r : List DG} {e e' : Env} (h : evGs S (.grp s w ds outs :: r) e some = some e') :
    ∃ c t e1, (e s)[0]? = some c ∧ A.isB w c = some t ∧ evGs S r e1 some = some e' ∧ (t = true → ∃ e2, evDs S ds e some = some e2 ∧ ∀ u, e1 u = if u ∈ outs then [outOf e2 u] else e u) ∧
      (t = false → ∀ u, e1 u = if u ∈ outs then [.undef] else e u) := by
  simp only [evGs, CR.ev_val, CR.val, Option.bind_eq_some_iff] at h
  obtain ⟨c, hc, t, ht, h⟩ := h
  have key : ∃ e1, evGs S r e1 some = some e' ∧ (t = true → ∃ e2, evDs S ds e some = some e2 ∧ ∀ u, e1 u = if u ∈ outs then [outOf e2 u] else e u) ∧ (t = false → ∀ u, e1 u = if u ∈ outs then [.undef] else e u) := by
    split at h
    · rename_i d
      simp only [Option.bind_eq_some_iff] at h
      obtain ⟨o, ho, h⟩ := h
      refine ⟨_, h, fun htt => ?_, fun htt u => ?_⟩
      · subst htt
        simp only [if_true] at ho
        rw [evDs_val] at ho
        simp only [Option.bind_eq_some_iff, Option.some.injEq] at ho
        obtain ⟨e2, h2, rfl⟩ := ho
        refine ⟨e2, h2, fun u => ?_⟩
        by_cases hu : u = d
        · subst hu; simp [set_same]
        · simp [hu, set_other _ _ _ _ hu]
      · subst htt
        simp only [Bool.false_eq_true, if_false, Option.some.injEq] at ho
        subst ho
        by_cases hu : u = d
        · subst hu; simp [set_same]
        · simp [hu, set_other _ _ _ _ hu]
    · simp only [Option.bind_eq_some_iff] at h
      obtain ⟨os, ho, h⟩ := h
      refine ⟨_, h, fun htt => ?_, fun htt u => ?_⟩
      · subst htt
        simp only [if_true] at ho
        rw [evDs_val] at ho
        simp only [Option.bind_eq_some_iff, Option.some.injEq] at ho
        obtain ⟨e2, h2, rfl⟩ := ho
        refine ⟨e2, h2, fun u => ?_⟩
        rw [outsOf_map, sets_get]
      · subst htt
        simp only [Bool.false_eq_true, if_false, Option.some.injEq] at ho
        subst ho
        rw [undefs_map, sets_get]
  obtain ⟨e1, k1, k2, k3⟩ := key
  exact ⟨c, t, e1, hc, ht, k1, k2, k3⟩

end
end Tr

namespace Tr
open Go

section
variable {S : Fns}

/-- What a guarded operation of a group does to slots. -/
theorem gp_slots {later : List Nat} : ∀ (xs : List GP) (e e' : Env), xs.all (gpOk later) = true → evDs S (xs.map fun x => x.p.dyn) e some = some e' →
    (∀ u, u ∉ xs.map gpD → e' u = e u) ∧ (∀ u, later.any (· == u) = true → (u ∈ xs.map gpD ∨ ∃ v, e u = [v]) → ∃ v, e' u = [v])
  | [], e, e', _, h => by cases h; exact ⟨fun _ _ => rfl, fun u _ hu => by simpa using hu⟩
  | x :: xs, e, e', hx, h => by
    simp only [List.all_cons, Bool.and_eq_true] at hx
    simp only [List.map_cons, evDs] at h
    rw [dyn_bind] at h
    simp only [Option.bind_eq_some_iff] at h
    obtain ⟨e1, h1, h2⟩ := h
    obtain ⟨i1, i2⟩ := gp_slots xs e1 e' hx.2 h2
    have hloc := Dyn.locA h1 (fun _ _ => rfl)
    have hout : ∀ u, u ≠ gpD x → e1 u = e u := fun u hu => hloc.out u (by
      have := hx.1
      unfold gpOk at this
      cases hd : x.p.dyn <;> rw [hd] at this <;> simp [Dyn.wr] at this ⊢
      · rw [this]; exact hu
      · rw [this.1]; exact hu)
    refine ⟨fun u hu => ?_, fun u hl hu => ?_⟩
    · simp only [List.map_cons, List.mem_cons, not_or] at hu
      rw [i1 u hu.2, hout u hu.1]
    · refine i2 u hl ?_
      by_cases hm : u ∈ xs.map gpD
      · exact .inl hm
      · right
        by_cases hud : u = gpD x
        · have := hx.1
          unfold gpOk at this
          cases hd : x.p.dyn <;> rw [hd] at this h1 <;> simp at this
          · exfalso
            obtain ⟨z, hz, hzu⟩ := List.any_eq_true.1 hl
            have hzu : z = u := by simpa using hzu
            exact this z hz (hzu.trans hud)
          · simp only [Dyn.ev] at h1
            rw [PX.ev_val] at h1
            simp only [Option.bind_eq_some_iff, Option.some.injEq] at h1
            obtain ⟨av, _, rfl⟩ := h1
            exact ⟨av, by rw [hud, ← this]; exact set_same _ _ _⟩
          · exfalso
            obtain ⟨h4, h5⟩ := this
            obtain ⟨z, hz, hzu⟩ := List.any_eq_true.1 hl
            have hzu : z = u := by simpa using hzu
            exact h5 z hz (by rw [hzu, hud, h4])
        · rw [hout u hud]
          rcases hu with hu | hu
          · simp only [List.map_cons, List.mem_cons] at hu
            rcases hu with hu | hu
            · exact absurd hu hud
            · exact absurd hu hm
          · exact hu

end
end Tr

namespace Tr
open Go

def GrpOk (y : Option (Nat × Nat × Bool) × List GP) : Prop :=
  y.2 ≠ [] ∧ ∀ x ∈ y.2, match y.1 with | none => x.gd = none | some (s, _, b) => ∃ g, x.gd = some (s, g, b)

section
variable {S : Fns}

theorem PairsOk.guard {s : Nat} {b : Bool} : ∀ {xs : List GP} {os : List Oper}, PairsOk xs os → (∀ x ∈ xs, ∃ g, x.gd = some (s, g, b)) →
    (∀ x ∈ xs, s ∉ x.p.dyn.wr) ∧ (∀ o ∈ os, o.dst ≠ some s) ∧ ∀ u, (∃ o ∈ os, o.dst = some u) ↔ u ∈ xs.map gpD
  | _, _, .nil, _ => ⟨by simp, by simp, by simp⟩
  | _, _, .cons (x := x) (xs := xs) (o := o) (os := os) h hs, hg => by
    obtain ⟨g, hx⟩ := hg x (by simp)
    obtain ⟨h1, h2, h3⟩ := h s g b hx
    obtain ⟨i1, i2, i3⟩ := hs.guard (fun y hy => hg y (by simp [hy]))
    refine ⟨fun y hy => ?_, fun p hp => ?_, fun u => ?_⟩
    · rcases List.mem_cons.1 hy with rfl | hy
      · exact h3
      · exact i1 y hy
    · rcases List.mem_cons.1 hp with rfl | hp
      · rw [h1]; intro h; cases h; exact h2 rfl
      · exact i2 p hp
    · simp only [List.map_cons, List.mem_cons]
      constructor
      · rintro ⟨p, hp | hp, hpd⟩
        · subst hp; rw [h1] at hpd; cases hpd; exact .inl rfl
        · exact .inr ((i3 u).1 ⟨p, hp, hpd⟩)
      · rintro (hu | hu)
        · exact ⟨o, .inl rfl, by rw [h1, hu]⟩
        · obtain ⟨p, hp, hpd⟩ := (i3 u).2 hu
          exact ⟨p, .inr hp, hpd⟩

theorem later_cons (y : Option (Nat × Nat × Bool) × List GP) (r : List (Option (Nat × Nat × Bool) × List GP)) : laterOf (y :: r) = y.2.flatMap GP.cr ++ laterOf r := by simp [laterOf]

theorem cr_rd (x : GP) : ∀ t ∈ x.p.dyn.rd, t ∈ x.cr := fun t ht => by
  unfold GP.cr
  split
  · exact ht
  · exact List.mem_cons_of_mem _ ht

theorem grp_sound : ∀ (gs : List (Option (Nat × Nat × Bool) × List GP)) (os : List Oper) (eg es e' : Env) (D : Nat → Prop), (∀ y ∈ gs, GrpOk y) → PairsOk (flatG gs) os → grpsOk gs = true → AgreeOff D eg es → (∀ t ∈ laterOf gs, ¬ D t) →
    evGs S (toDG gs).1 eg some = some e' → ∃ e2, stepsG S (flatG gs) os es = some e2 ∧ ∀ t, ¬ D t → t ∉ (toDG gs).2 → e2 t = e' t
  | [], os, eg, es, e', D, _, hp, _, ha, _, h => by
    cases hp
    cases h
    exact ⟨es, rfl, fun t ht _ => ha t ht⟩
  | (none, xs) :: r, os, eg, es, e', D, hG, hp, hk, ha, hD, h => by
    have hp' : PairsOk (xs ++ flatG r) os := by simpa [flatG] using hp
    obtain ⟨o1, o2, rfl, p1, p2⟩ := hp'.split
    simp only [toDG] at h ⊢
    rw [evGs_one] at h
    simp only [Option.bind_eq_some_iff] at h
    obtain ⟨e1, h1, h2⟩ := h
    rw [later_cons] at hD
    obtain ⟨e3, q1, q2⟩ := evDs_off (D := D) _ h1 ha (fun dy hdy t ht => by
      obtain ⟨x, hx, rfl⟩ := List.mem_map.1 hdy
      exact hD t (List.mem_append_left _ (List.mem_flatMap.2 ⟨x, hx, cr_rd x t ht⟩)))
    have hg := (hG (none, xs) (by simp)).2
    obtain ⟨e2, k1, k2⟩ := grp_sound r o2 e1 e3 e' D (fun y hy => hG y (by simp [hy])) p2 (by simpa [grpsOk] using hk) q2 (fun t ht => hD t (List.mem_append_right _ ht)) h2
    refine ⟨e2, ?_, k2⟩
    have : flatG ((none, xs) :: r) = xs ++ flatG r := by simp [flatG]
    rw [this, stepsG_app xs (flatG r) o1 o2 es p1.len, stepsG_none xs o1 es p1.len (fun x hx => hg x hx), q1]
    exact k1
  | (some (s, g, w), xs) :: r, os, eg, es, e', D, hG, hp, hk, ha, hD, h => by
    have hp' : PairsOk (xs ++ flatG r) os := by simpa [flatG] using hp
    obtain ⟨o1, o2, rfl, p1, p2⟩ := hp'.split
    have hflat : flatG ((some (s, g, w), xs) :: r) = xs ++ flatG r := by simp [flatG]
    simp only [grpsOk, Bool.and_eq_true] at hk
    obtain ⟨hk1, hk2⟩ := hk
    obtain ⟨hne, hg⟩ := hG (some (s, g, w), xs) (by simp)
    simp only at hg hne
    rw [later_cons] at hD
    simp only [toDG] at h ⊢
    obtain ⟨c, t, e1, hc, ht, h2, htrue, hfalse⟩ := evGs_grp h
    obtain ⟨w1, w2, w3⟩ := p1.guard (s := s) (b := w) hg
    -- the guard's slot is read by every one
    have hsD : ¬ D s := by
      cases xs with
      | nil => exact absurd rfl hne
      | cons x xs =>
        obtain ⟨g', hx⟩ := hg x (by simp)
        exact hD s (List.mem_append_left _ (List.mem_flatMap.2 ⟨x, by simp, by unfold GP.cr; rw [hx]; simp⟩))
    have hes : (es s)[0]? = some c := by rw [ha s hsD]; exact hc
    have hmemo : ∀ u, u ∈ (xs.map gpD).filter (fun d => (laterOf r).any (· == d)) ↔ u ∈ xs.map gpD ∧ (laterOf r).any (· == u) = true := fun u => by rw [List.mem_filter]
    -- what is dead from now on
    let D' : Nat → Prop := fun u => D u ∨ (u ∈ xs.map gpD ∧ (laterOf r).any (· == u) = false)
    have step : ∃ es1, stepsG S xs o1 es = some es1 ∧ AgreeOff D' e1 es1 := by
      cases t with
      | true =>
        obtain ⟨eg2, h3, h4⟩ := htrue rfl
        obtain ⟨es1, q1, q2⟩ := evDs_off (D := D) _ h3 ha (fun dy hdy u hu => by
          obtain ⟨x, hx, rfl⟩ := List.mem_map.1 hdy
          exact hD u (List.mem_append_left _ (List.mem_flatMap.2 ⟨x, hx, cr_rd x u hu⟩)))
        have hcw : c = .bool w := by
          unfold A.isB at ht
          split at ht
          · simp only [Option.some.injEq, beq_iff_eq] at ht; rw [ht]
          · cases ht
          · cases ht
        obtain ⟨s1, s2⟩ := gp_slots xs eg eg2 hk1 h3
        refine ⟨es1, stepsG_true xs o1 es es1 p1.len hg w1 (by rw [← hcw]; exact hes) q1, fun u hu => ?_⟩
        simp only [D', not_or, not_and, Bool.not_eq_false] at hu
        rw [h4 u, q2 u hu.1]
        by_cases hm : u ∈ xs.map gpD
        · rw [if_pos ((hmemo u).2 ⟨hm, hu.2 hm⟩)]
          obtain ⟨v, hv⟩ := s2 u (hu.2 hm) (.inl hm)
          simp [outOf, hv]
        · rw [if_neg (fun h => hm ((hmemo u).1 h).1)]
          exact s1 u hm
      | false =>
        obtain ⟨es1, q1, q2⟩ := stepsG_false ht xs o1 es p1.len hg w2 hes
        refine ⟨es1, q1, fun u hu => ?_⟩
        simp only [D', not_or, not_and, Bool.not_eq_false] at hu
        rw [hfalse rfl u, q2 u]
        by_cases hm : u ∈ xs.map gpD
        · rw [if_pos ((hmemo u).2 ⟨hm, hu.2 hm⟩), if_pos ((w3 u).2 hm)]
        · rw [if_neg (fun h => hm ((hmemo u).1 h).1), if_neg (fun h => hm ((w3 u).1 h))]
          exact ha u hu.1
    obtain ⟨es1, k1, k2⟩ := step
    obtain ⟨e2, r1, r2⟩ := grp_sound r o2 e1 es1 e' D' (fun y hy => hG y (by simp [hy])) p2 hk2 k2 (fun u hu => by
      simp only [D', not_or, not_and, Bool.not_eq_false]
      exact ⟨hD u (List.mem_append_right _ hu), fun _ => List.any_eq_true.2 ⟨u, hu, by simp⟩⟩) h2
    refine ⟨e2, ?_, fun u hu hk => ?_⟩
    · rw [hflat, stepsG_app xs (flatG r) o1 o2 es p1.len, k1]
      exact r1
    · simp only [List.mem_append, not_or, List.mem_filter, not_and, Bool.not_eq_true', Bool.not_eq_false] at hk
      refine r2 u ?_ hk.2
      simp only [D', not_or, not_and, Bool.not_eq_false]
      exact ⟨hu, fun hm => hk.1 hm⟩

end
end Tr

namespace Tr
open Go

theorem sameG_spec {a b : Option (Nat × Nat × Bool)} (h : sameG a b = true) : a = b := by
  unfold sameG at h
  split at h
  · simp only [Bool.and_eq_true, beq_iff_eq] at h
    obtain ⟨⟨rfl, rfl⟩, rfl⟩ := h
    rfl
  · cases h

theorem groups_flat : ∀ (xs : List GP), flatG (groups xs) = xs
  | [] => rfl
  | x :: xs => by
    have ih := groups_flat xs
    unfold groups
    split
    · rename_i g ys rest hgr
      rw [hgr] at ih
      split
      · simp only [flatG, List.flatMap_cons] at ih ⊢
        simp [ih]
      · simp only [flatG, List.flatMap_cons] at ih ⊢
        simp [ih]
    · rename_i hgr
      rw [hgr] at ih
      simp only [flatG, List.flatMap_nil] at ih
      simp [flatG, ← ih]

theorem groups_ok : ∀ (xs : List GP), ∀ y ∈ groups xs, y.2 ≠ [] ∧ ∀ x ∈ y.2, x.gd = y.1
  | [], y, hy => by simp [groups] at hy
  | x :: xs, y, hy => by
    have ih := groups_ok xs
    unfold groups at hy
    split at hy
    · rename_i g ys rest hgr
      rw [hgr] at ih
      split at hy
      · rename_i hs
        rcases List.mem_cons.1 hy with rfl | hy
        · refine ⟨by simp, fun z hz => ?_⟩
          rcases List.mem_cons.1 hz with rfl | hz
          · exact sameG_spec hs
          · exact (ih (g, ys) (by simp)).2 z hz
        · exact ih y (by simp [hy])
      · rcases List.mem_cons.1 hy with rfl | hy
        · exact ⟨by simp, fun z hz => by simp at hz; rw [hz]⟩
        · exact ih y hy
    · simp at hy
      subst hy
      exact ⟨by simp, fun z hz => by simp at hz; rw [hz]⟩

theorem groups_grp (xs : List GP) : ∀ y ∈ groups xs, GrpOk y := fun y hy => by
  obtain ⟨h1, h2⟩ := groups_ok xs y hy
  refine ⟨h1, fun x hx => ?_⟩
  have := h2 x hx
  cases hg : y.1 with
  | none => rw [hg] at this; exact this
  | some q => obtain ⟨s, g, b⟩ := q; rw [hg] at this; exact ⟨g, this⟩

end Tr

namespace Tr
open Go

theorem kill_out : ∀ (l : List Nat) (T : Tags) (t : Nat), t ∉ l → killT T l t = T t
  | [], _, _, _ => rfl
  | d :: l, T, t, h => by
    simp only [List.mem_cons, not_or] at h
    simp only [killT]
    rw [kill_out l _ t h.2, up_other _ _ _ _ h.1]

theorem kill_in : ∀ (l : List Nat) (T : Tags) (t : Nat), t ∈ l → (killT T l t).tag = .dead ∧ (killT T l t).gd = none ∧ (T t).g < (killT T l t).g
  | [], _, _, h => by simp at h
  | d :: l, T, t, h => by
    simp only [killT]
    by_cases hl : t ∈ l
    · obtain ⟨h1, h2, h3⟩ := kill_in l (T.up d ⟨(T d).g + 1, .dead, none⟩) t hl
      refine ⟨h1, h2, Nat.lt_of_le_of_lt ?_ h3⟩
      by_cases htd : t = d
      · subst htd; rw [up_same]; simp
      · rw [up_other _ _ _ _ htd]; exact Nat.le_refl _
    · have htd : t = d := by rcases List.mem_cons.1 h with h | h; exact h; exact absurd h hl
      subst htd
      rw [kill_out l _ t hl, up_same]
      exact ⟨rfl, rfl, Nat.lt_succ_self _⟩

section
variable {P : Program} {F : Fm} {gh gh' : Gh} {T T' : Tags} {e e' : Env} {a : Act} {w w' : World} {o : Oper} {hn : Hn} {S : Fns} {sig : Nat → Option Sg} {own n reg i : Nat} {ops : Array Oper} {Q : Exit → Act → World → Prop}

theorem Rel.kill (R : Rel F gh T e a w) (l : List Nat) (hl : ∀ t ∈ l, t < F.n) (he : ∀ t, t ∉ l → e' t = e t) : Rel F gh (killT T l) e' a w := by
  have hHS : HS ∉ l := fun h => by have := hl _ h; have := R.le; omega
  have ref : ∀ {tag : Tag}, RefOk T tag → RefOk (killT T l) tag := fun {tag} h => by
    have key : ∀ s k g u, (g ≤ (T s).g ∧ (g = (T s).g → ∀ c, (T s).tag.ck k = some c → u ≤ c.u)) → (g ≤ (killT T l s).g ∧ (g = (killT T l s).g → ∀ c, (killT T l s).tag.ck k = some c → u ≤ c.u)) := by
      intro s k g u ⟨h1, h2⟩
      by_cases hs : s ∈ l
      · obtain ⟨k1, k2, k3⟩ := kill_in l T s hs
        exact ⟨by omega, fun _ c hc => by rw [k1] at hc; simp [Tag.ck] at hc⟩
      · rw [kill_out l T s hs]; exact ⟨h1, h2⟩
    cases tag with
    | al s k g u => exact key s k g u h
    | ep s k o g u => exact key s k g u h
    | bp s o g =>
      show g ≤ (killT T l s).g
      have h' : g ≤ (T s).g := h
      by_cases hs : s ∈ l
      · have := (kill_in l T s hs).2.2; omega
      · rw [kill_out l T s hs]; exact h'
    | _ => trivial
  refine ⟨R.base, ⟨fun t => ?_, fun t ht => ?_, fun t s g b hg => ?_, fun t hh => ?_⟩, R.n, R.le, R.df, fun t hg => ?_, fun h => (R.hp h).monoK (Pers.refl gh w (fun _ => True)) (fun _ => trivial) (he _ hHS) rfl, fun h => by rw [he _ hHS]; exact R.nh h⟩
  · by_cases ht : t ∈ l
    · rw [(kill_in l T t ht).1]; trivial
    · rw [kill_out l T t ht]; exact ref (R.tok.ref t)
  · by_cases ht' : t ∈ l
    · exact (kill_in l T t ht').1
    · rw [kill_out l T t ht']; exact R.tok.big t ht
  · by_cases ht : t ∈ l
    · rw [(kill_in l T t ht).2.1] at hg; cases hg
    · rw [kill_out l T t ht] at hg
      have := R.tok.gd t s g b hg
      by_cases hs : s ∈ l
      · have := (kill_in l T s hs).2.2; omega
      · rw [kill_out l T s hs]; exact this
  · by_cases ht : t ∈ l
    · exact (kill_in l T t ht).2.1
    · rw [kill_out l T t ht] at hh ⊢; exact R.tok.ck t hh
  · by_cases ht : t ∈ l
    · rw [(kill_in l T t ht).1]; trivial
    · rw [kill_out l T t ht] at hg ⊢
      have hg' : gdOn T e (T t).gd := by
        cases hq : (T t).gd with
        | none => trivial
        | some q =>
          obtain ⟨s, g, b⟩ := q
          rw [hq] at hg
          obtain ⟨h1, h2, h3⟩ := hg
          have hs : s ∉ l := fun h => by rw [(kill_in l T s h).1] at h3; cases h3
          rw [kill_out l T s hs] at h1 h3
          rw [he s hs] at h2
          exact ⟨h1, h2, h3⟩
      refine SlotOk.mono (Pers.refl gh w (fun _ => True)) trivial (fun _ _ => trivial) (he t ht) rfl ?_ ?_ (R.slot t hg')
      · intro t' k g u y _ hy
        have hs : t' ∉ l := fun h => by have := (alOk_g hy).2; rw [(kill_in l T t' h).1] at this; simp [Tag.ck] at this
        rw [kill_out l T t' hs]
        unfold alOk at hy ⊢
        rw [kill_out l T t' hs] at hy
        exact ⟨hy, rfl⟩
      · intro t' off g htag hgg
        have hro := R.tok.ref t
        rw [htag] at hro
        have hle : g ≤ (T t').g := hro
        have hs : t' ∉ l := fun h => by have := (kill_in l T t' h).2.2; omega
        rw [kill_out l T t' hs] at hgg
        exact ⟨hgg, rfl, fun B hB => hB⟩

end
end Tr

namespace Tr
open Go

theorem gfOk_last {gd : Option (Nat × Nat × Bool)} {d : Nat} : ∀ (ups : List (Nat × Tg)) (T : Tags), gfOk gd d T ups = true → ∃ y, ups.getLast? = some y ∧ y.1 = d
  | [], _, h => by simp [gfOk] at h
  | [(t, x)], T, h => by
    simp only [gfOk, Bool.and_eq_true, beq_iff_eq] at h
    exact ⟨(t, x), rfl, h.1.1⟩
  | (t, x) :: y :: r, T, h => by
    simp only [gfOk, Bool.and_eq_true] at h
    obtain ⟨z, h1, h2⟩ := gfOk_last (y :: r) _ h.2
    exact ⟨z, by rw [List.getLast?_cons_cons]; exact h1, h2⟩

section
variable {P : Program} {F : Fm} {gh gh' : Gh} {T T' : Tags} {e e' : Env} {a : Act} {w w' : World} {o : Oper} {hn : Hn} {S : Fns} {sig : Nat → Option Sg} {own n reg i : Nat} {ops : Array Oper} {Q : Exit → Act → World → Prop}

theorem planAt_pair {x : GP} (h : planAt P sig hn own n reg ops i o T = some x) : PairOk x o ∧ (x.gd ≠ none → gpD x < n) := by
  unfold planAt at h
  simp only [Option.bind_eq_some_iff] at h
  obtain ⟨gd, _, p, _, h⟩ := h
  rw [Option.ite_none_right_eq_some] at h
  obtain ⟨hc, h⟩ := h
  cases h
  simp only [Bool.and_eq_true] at hc
  obtain ⟨⟨_, c2⟩, c3⟩ := hc
  have key : ∀ s g b, gd = some (s, g, b) → ∃ d, o.dst = some d ∧ gpD ⟨gd, p⟩ = d ∧ d ≠ s ∧ s ∉ p.dyn.wr := by
    intro s g b hgd
    subst hgd
    simp only [okGf, Bool.and_eq_true, Bool.not_eq_true', Bool.or_eq_false_iff] at c2
    obtain ⟨c4, c5, c6⟩ := c2
    cases hd : o.dst with
    | none => rw [hd] at c4; simp at c4
    | some d =>
      rw [hd] at c4
      obtain ⟨y, h1, h2⟩ := gfOk_last p.ups T c4
      refine ⟨d, rfl, ?_, ?_, fun hs => ?_⟩
      · unfold gpD
        simp only [h1]
        exact h2
      · rw [List.any_eq_false] at c5
        intro hds
        exact c5 y (List.mem_of_getLast? h1) (by simp [h2, hds])
      · rw [List.any_eq_false] at c6
        exact c6 s hs (by simp)
  refine ⟨fun s g b hg => ?_, fun hg => ?_⟩
  · obtain ⟨d, h1, h2, h3, h4⟩ := key s g b hg
    exact ⟨by rw [h1, h2], by rw [h2]; exact h3, h4⟩
  · cases hgd : gd with
    | none => exact absurd hgd hg
    | some q =>
      obtain ⟨s, g, b⟩ := q
      obtain ⟨d, h1, h2, _⟩ := key s g b hgd
      rw [h1] at c3
      rw [← hgd, h2]
      exact of_decide_eq_true c3

theorem planOps_pairs : ∀ (r : List Oper) (i : Nat) (T : Tags) (q : List GP × Tags), planOps P sig hn own n reg ops i r T = some q → PairsOk q.1 r ∧ ∀ x ∈ q.1, x.gd ≠ none → gpD x < n
  | [], i, T, q, h => by cases h; exact ⟨.nil, by simp⟩
  | o :: r, i, T, q, h => by
    obtain ⟨x, q', hx, hq', rfl⟩ := planOps_cons h
    obtain ⟨h1, h2⟩ := planAt_pair hx
    obtain ⟨i1, i2⟩ := planOps_pairs r (i + 1) _ q' hq'
    refine ⟨.cons h1 i1, fun y hy => ?_⟩
    rcases List.mem_cons.1 hy with rfl | hy
    · exact h2
    · exact i2 y hy

theorem toDG_kills : ∀ (gs : List (Option (Nat × Nat × Bool) × List GP)), (∀ y ∈ gs, GrpOk y) → ∀ t ∈ (toDG gs).2, ∃ x ∈ flatG gs, x.gd ≠ none ∧ t = gpD x
  | [], _, t, h => by simp [toDG] at h
  | (none, xs) :: r, hG, t, h => by
    simp only [toDG] at h
    obtain ⟨x, h1, h2⟩ := toDG_kills r (fun y hy => hG y (by simp [hy])) t h
    exact ⟨x, by simp [flatG] at h1 ⊢; exact .inr h1, h2⟩
  | (some (s, g, w), xs) :: r, hG, t, h => by
    simp only [toDG, List.mem_append, List.mem_filter, List.mem_map] at h
    rcases h with ⟨⟨x, hx, hxt⟩, _⟩ | h
    · obtain ⟨g', hg'⟩ := (hG (some (s, g, w), xs) (by simp)).2 x hx
      exact ⟨x, by simp [flatG, hx], by rw [hg']; simp, hxt.symm⟩
    · obtain ⟨x, h1, h2⟩ := toDG_kills r (fun y hy => hG y (by simp [hy])) t h
      exact ⟨x, by simp [flatG] at h1 ⊢; exact .inr h1, h2⟩

theorem region_text (hS : FnsOk P sig S) (hhp : own ≠ 0 → F.hp = true) (hnn : F.n = n) {r : IC × Tags} (hr : cReg P sig hn own n reg ops false T = some r) (R : Rel F gh T e a w) {ics : List DG} (hic : r.1 = .reg ics)
    (he : evGs S ics e some = some e') (hQ : ∀ gh' a' w', Rel F gh' r.2 e' a' w' → Q .normal a' w') : (Code.region reg ops false).wp P Q a w := by
  unfold cReg at hr
  simp only [Option.bind_eq_some_iff, Bool.false_and, Bool.false_eq_true, if_false] at hr
  obtain ⟨q, hq, hr⟩ := hr
  split at hr
  · cases hr
  · rename_i hk
    cases hr
    cases hic
    have hk : grpsOk (groups q.1) = true := by simpa using hk
    obtain ⟨p1, p2⟩ := planOps_pairs _ _ _ _ hq
    have hf := groups_flat q.1
    obtain ⟨e2, h1, h2⟩ := grp_sound (S := S) (groups q.1) ops.toList e e e' (fun _ => False) (groups_grp q.1) (by rw [hf]; exact p1) hk (fun _ _ => rfl) (fun _ _ h => h) he
    rw [hf] at h1
    have := wpOps_text (Q := Q) hS hhp hnn ops.toList 0 T gh e a w q e2 (by simp) hq h1 R (fun gh' a' w' R' => hQ gh' a' w' (R'.kill _ (fun t ht => by
      obtain ⟨x, hx, hg, rfl⟩ := toDG_kills _ (groups_grp q.1) t ht
      rw [hf] at hx
      rw [hnn]; exact p2 x hx hg) (fun t ht => (h2 t (fun h => h) ht).symm)))
    refine wp_region ?_
    rw [List.range_eq_range']
    simpa using this

end
end Tr

namespace Tr
open Go

def AgT (l : List Nat) (T T2 : Tags) : Prop := ∀ t ∈ l, T2 t = T t

theorem AgT.left {l m : List Nat} {T T2 : Tags} (h : AgT (l ++ m) T T2) : AgT l T T2 := fun t ht => h t (List.mem_append_left _ ht)
theorem AgT.right {l m : List Nat} {T T2 : Tags} (h : AgT (l ++ m) T T2) : AgT m T T2 := fun t ht => h t (List.mem_append_right _ ht)
theorem AgT.head {t : Nat} {m : List Nat} {T T2 : Tags} (h : AgT (t :: m) T T2) : T2 t = T t := h t (by simp)
theorem AgT.tail {t : Nat} {m : List Nat} {T T2 : Tags} (h : AgT (t :: m) T T2) : AgT m T T2 := fun s hs => h s (by simp [hs])

theorem AgT.ups {l : List Nat} : ∀ (u : List (Nat × Tg)) {T T2 : Tags}, AgT l T T2 → AgT l (T.ups u) (T2.ups u)
  | [], _, _, h => h
  | (s, x) :: u, T, T2, h => AgT.ups u (fun t ht => by
      by_cases e : t = s
      · subst e; rw [up_same, up_same]
      · rw [up_other _ _ _ _ e, up_other _ _ _ _ e]; exact h t ht)

section
variable {P : Program} {T T2 : Tags} {hn : Hn} {gd : Option (Nat × Nat × Bool)}

theorem tagAt_ag {t : Nat} (h : T2 t = T t) : tagAt T2 gd t = tagAt T gd t := by unfold tagAt; rw [h]
theorem alOk_ag {t k g u : Nat} (h : T2 t = T t) : alOk T2 t k g u = alOk T t k g u := by unfold alOk; rw [h]
theorem crAt_ag {t k : Nat} (h : T2 t = T t) : crAt T2 t k = crAt T t k := by unfold crAt; rw [h]
theorem dstT_ag {d : Nat} {tag : Tag} (h : T2 d = T d) : dstT T2 gd d tag = dstT T gd d tag := by unfold dstT; rw [h]

theorem rdO_ag {x : Operand} {r : CR × List Nat} (h : rdO hn T gd x = some r) (ha : AgT r.2 T T2) : rdO hn T2 gd x = some r := by
  cases x with
  | tmp t =>
    have ht : T2 t = T t := by
      unfold rdO at h
      simp only at h
      repeat' split at h
      all_goals first
        | (cases h; exact ha.head)
        | (simp only [Option.bind_eq_some_iff] at h; obtain ⟨_, _, h⟩ := h; cases h; exact ha.head)
        | cases h
    unfold rdO at h ⊢
    simp only at h ⊢
    rw [tagAt_ag ht]
    split at h
    · exact h
    · exact h
    · simp only [Option.bind_eq_some_iff] at h ⊢
      obtain ⟨y, hy, h⟩ := h
      cases h
      have h2 := ha.tail.head
      exact ⟨y, by rw [alOk_ag h2]; exact hy, by rw [crAt_ag h2]⟩
    · cases h
  | _ => exact h

theorem rdV_ag {x : Operand} {r : CR × List Nat} (h : rdV hn T gd x = some r) (ha : AgT r.2 T T2) : rdV hn T2 gd x = some r := by
  cases x with
  | tmp t =>
    have ht : T2 t = T t := by
      unfold rdV at h
      simp only at h
      repeat' split at h
      all_goals first
        | (cases h; exact ha.head)
        | cases h
    unfold rdV at h ⊢
    simp only at h ⊢
    rw [tagAt_ag ht]
    exact h
  | _ => exact h

theorem useO_ag {x : Operand} {r : CR × List (Nat × Tg) × List Nat} (h : useO hn T gd x = some r) (ha : AgT r.2.2 T T2) : useO hn T2 gd x = some r := by
  cases x with
  | tmp t =>
    have ht : T2 t = T t := by
      unfold useO at h
      simp only at h
      repeat' split at h
      all_goals first
        | (cases h; exact ha.head)
        | (simp only [Option.bind_eq_some_iff] at h; obtain ⟨_, _, h⟩ := h; cases h; exact ha.head)
        | cases h
    unfold useO at h ⊢
    simp only at h ⊢
    rw [tagAt_ag ht, ht]
    split at h
    · exact h
    · exact h
    · simp only [Option.bind_eq_some_iff] at h ⊢
      obtain ⟨y, hy, h⟩ := h
      cases h
      have h2 := ha.tail.head
      exact ⟨y, by rw [alOk_ag h2]; exact hy, by rw [crAt_ag h2, h2]⟩
    · cases h
  | _ => exact h

theorem takeO_ag {ee ss : Nat} {x : Operand} {r : CR × List (Nat × Tg) × List Nat} (h : takeO T gd ee ss x = some r) (ha : AgT r.2.2 T T2) : takeO T2 gd ee ss x = some r := by
  cases x with
  | tmp t =>
    have ht : T2 t = T t := by
      unfold takeO at h
      simp only at h
      repeat' split at h
      all_goals first
        | (cases h; exact ha.head)
        | (simp only [Option.bind_eq_some_iff] at h; obtain ⟨_, _, h⟩ := h; split at h <;> first | (cases h; exact ha.head) | cases h)
        | cases h
    unfold takeO at h ⊢
    simp only at h ⊢
    rw [tagAt_ag ht, ht]
    split at h
    · exact h
    · simp only [Option.bind_eq_some_iff] at h ⊢
      obtain ⟨y, hy, h⟩ := h
      split at h
      · rename_i hc
        cases h
        have h2 := ha.tail.head
        exact ⟨y, by rw [alOk_ag h2]; exact hy, by rw [if_pos hc, crAt_ag h2, h2]⟩
      · cases h
    · cases h
  | const v =>
    unfold takeO at h ⊢
    split at h
    · rename_i hx; cases hx
    · exact h
    · cases h
  | _ => exact h

theorem argO_ag {m : Md} {bor : Bool} {x : Operand} {r : CR × List (Nat × Tg) × List Nat} (h : argO hn T gd m bor x = some r) (ha : AgT r.2.2 T T2) : argO hn T2 gd m bor x = some r := by
  cases m with
  | dead => cases h
  | v =>
    simp only [argO] at h ⊢
    split at h
    · rename_i hb
      rw [if_pos hb]
      simp only [Option.bind_eq_some_iff] at h ⊢
      obtain ⟨q, hq, h⟩ := h
      cases h
      exact ⟨q, rdO_ag hq ha, rfl⟩
    · rename_i hb
      rw [if_neg hb]
      exact useO_ag h ha
  | own ee ss => exact takeO_ag h ha
  | agg ks =>
    simp only [argO] at h ⊢
    split at h
    · rename_i t
      have ht : T2 t = T t := by
        repeat' split at h
        all_goals first
          | (cases h; exact ha.head)
          | cases h
      rw [tagAt_ag ht, ht]
      exact h
    · cases h

theorem argsO_ag {bor : Bool} : ∀ {ms : List Md} {xs : List Operand} {T T2 : Tags} {r : List CR × List (Nat × Tg) × List Nat}, argsO hn T gd bor ms xs = some r → AgT r.2.2 T T2 → argsO hn T2 gd bor ms xs = some r
  | [], [], _, _, _, h, _ => h
  | m :: ms, x :: xs, T, T2, r, h, ha => by
    simp only [argsO, Option.bind_eq_some_iff] at h ⊢
    obtain ⟨q, hq, s, hs, h⟩ := h
    cases h
    exact ⟨q, argO_ag hq ha.left, s, argsO_ag hs (ha.right.ups _), rfl⟩
  | [], _ :: _, _, _, _, h, _ => by cases h
  | _ :: _, [], _, _, _, h, _ => by cases h

theorem usesO_ag : ∀ {xs : List Operand} {T T2 : Tags} {r : List CR × List (Nat × Tg) × List Nat}, usesO hn T gd xs = some r → AgT r.2.2 T T2 → usesO hn T2 gd xs = some r
  | [], _, _, _, h, _ => h
  | x :: xs, T, T2, r, h, ha => by
    simp only [usesO, Option.bind_eq_some_iff] at h ⊢
    obtain ⟨q, hq, s, hs, h⟩ := h
    cases h
    exact ⟨q, useO_ag hq ha.left, s, usesO_ag hs (ha.right.ups _), rfl⟩

theorem lowHigh_ag {x : Option Operand} {r : Option CR × List Nat} (h : lowHigh hn T gd x = some r) (ha : AgT r.2 T T2) : lowHigh hn T2 gd x = some r := by
  cases x with
  | none => exact h
  | some x =>
    simp only [lowHigh, Option.bind_eq_some_iff] at h ⊢
    obtain ⟨q, hq, h⟩ := h
    cases h
    exact ⟨q, rdO_ag hq ha, rfl⟩

theorem capsO_ag : ∀ {xs : List Operand} {r : List (Nat × Bool) × List (Nat × Tg)}, capsO T xs = some r → AgT (r.1.map (·.1)) T T2 → capsO T2 xs = some r
  | [], _, h, _ => h
  | x :: xs, r, h, ha => by
    cases x with
    | tmp t =>
      have ht : T2 t = T t := by
        unfold capsO at h
        repeat' split at h
        all_goals first
          | (simp only [Option.bind_eq_some_iff] at h; obtain ⟨_, _, h⟩ := h; split at h <;> first | cases h; done | (cases h; exact ha.head))
          | cases h
      unfold capsO at h ⊢
      rw [ht]
      split at h
      · split at h
        · rename_i hl
          rw [if_pos hl]
          simp only [Option.bind_eq_some_iff] at h ⊢
          obtain ⟨q, hq, h⟩ := h
          split at h
          · cases h
          · rename_i hn
            cases h
            exact ⟨q, capsO_ag hq ha.tail, by rw [if_neg hn]⟩
        · cases h
      · split at h
        · rename_i hl
          rw [if_pos hl]
          simp only [Option.bind_eq_some_iff] at h ⊢
          obtain ⟨q, hq, h⟩ := h
          split at h
          · cases h
          · rename_i hn
            cases h
            exact ⟨q, capsO_ag hq ha.tail, by rw [if_neg hn]⟩
        · cases h
      · cases h
    | _ => exact h

theorem set1_ag {d : Nat} {p : PX} {tag : Tag} {ups : List (Nat × Tg)} {tr : List Nat} {plan : Plan} (h : set1 T gd d p tag ups tr = some plan) (ha : T2 d = T d) : set1 T2 gd d p tag ups tr = some plan := by
  unfold set1 at h ⊢
  rw [dstT_ag (T := T.ups ups) (T2 := T2.ups ups)]
  · exact h
  · exact AgT.ups (l := [d]) ups (fun t ht => by simp at ht; rw [ht]; exact ha) d (by simp)

theorem boxOf_ag {t b off : Nat} {ks : List CK} (h : boxOf T gd t = some (b, off, ks)) (ht : T2 t = T t) (hb : T2 b = T b) : boxOf T2 gd t = some (b, off, ks) := by
  unfold boxOf at h ⊢
  rw [tagAt_ag ht]
  split at h
  · exact h
  · split at h
    · rename_i hg
      split at h
      · rename_i hks
        cases h
        rw [hb, if_pos hg, hks]
      · cases h
    · cases h
  · cases h

end
end Tr

namespace Tr
open Go

section
variable {P : Program} {T T2 : Tags} {hn : Hn} {gd : Option (Nat × Nat × Bool)} {sig : Nat → Option Sg} {own pol d : Nat} {p : Plan}

theorem set1_tr {px : PX} {tag : Tag} {ups : List (Nat × Tg)} {tr : List Nat} (h : set1 T gd d px tag ups tr = some p) : p.tr = d :: tr := by
  unfold set1 at h; cases h; rfl

theorem set1_A {px : PX} {tag : Tag} {ups : List (Nat × Tg)} {tr : List Nat} (h : set1 T gd d px tag ups tr = some p) (ha : AgT p.tr T T2) : set1 T2 gd d px tag ups tr = some p := by
  have := ha
  rw [set1_tr h] at this
  exact set1_ag h this.head

theorem set1_S {px : PX} {tag : Tag} {ups : List (Nat × Tg)} {tr : List Nat} (h : set1 T gd d px tag ups tr = some p) (ha : AgT p.tr T T2) : AgT tr T T2 := by
  rw [set1_tr h] at ha
  exact ha.tail

theorem planMv_ag {x : Operand} (h : planMv P hn T gd d pol x = some p) (ha : AgT p.tr T T2) : planMv P hn T2 gd d pol x = some p := by
  cases x with
  | tmp t =>
    unfold planMv at h ⊢
    simp only at h ⊢
    split at h
    · rename_i c htag
      split at h
      · rename_i hk
        have ht := (set1_S h ha).head
        simp only [tagAt_ag ht, htag, hk]
        exact set1_A h ha
      · rename_i e s hk
        split at h
        · cases h
          have ht : T2 t = T t := ha t (by simp)
          have hd : T2 d = T d := ha d (by simp)
          simp only [tagAt_ag ht, htag, hk, dstT_ag hd, ht]
        · have ht := (set1_S h ha).head
          simp only [tagAt_ag ht, htag, hk, ht]
          exact set1_A h ha
        · rename_i n0 n1
          have ht := (set1_S h ha).head
          simp only [tagAt_ag ht, htag, hk, ht]
          exact set1_A h ha
      · cases h
    · rename_i ks htag
      split at h
      · split at h
        · rename_i hv
          cases h
          have ht : T2 t = T t := ha t (by simp)
          have hd : T2 d = T d := ha d (by simp)
          simp only [tagAt_ag ht, htag, dstT_ag hd, hv, if_true]
        · cases h
      · rename_i n0
        cases h
        have ht : T2 t = T t := ha t (by simp)
        have hd : T2 d = T d := ha d (by simp)
        simp only [tagAt_ag ht, htag, dstT_ag hd, ht]
    · rename_i ms htag
      cases h
      have ht : T2 t = T t := ha t (by simp)
      have hd : T2 d = T d := ha d (by simp)
      simp only [tagAt_ag ht, htag, dstT_ag hd, ht]
    · rename_i t' k g u htag
      simp only [Option.bind_eq_some_iff] at h
      obtain ⟨x, hx, h⟩ := h
      split at h
      · cases h
        have ht : T2 t = T t := ha t (by simp)
        have ht' : T2 t' = T t' := ha t' (by simp)
        have hd : T2 d = T d := ha d (by simp)
        simp only [tagAt_ag ht, htag, alOk_ag ht', hx, dstT_ag hd, Option.bind_some]
      · have hs := set1_S h ha
        have ht := hs.head
        have ht' := hs.tail.head
        simp only [tagAt_ag ht, htag, alOk_ag ht', crAt_ag ht', hx, Option.bind_some, ht']
        exact set1_A h ha
      · rename_i n0 n1
        have hs := set1_S h ha
        have ht := hs.head
        have ht' := hs.tail.head
        simp only [tagAt_ag ht, htag, alOk_ag ht', crAt_ag ht', hx, Option.bind_some, ht']
        exact set1_A h ha
    · rename_i t' off g htag
      cases h
      have ht : T2 t = T t := ha t (by simp)
      have hd : T2 d = T d := ha d (by simp)
      simp only [tagAt_ag ht, htag, dstT_ag hd]
    · rename_i t' k off g u htag
      cases h
      have ht : T2 t = T t := ha t (by simp)
      have hd : T2 d = T d := ha d (by simp)
      simp only [tagAt_ag ht, htag, dstT_ag hd]
    · cases h
  | const v =>
    unfold planMv at h ⊢
    split at h
    · rename_i hx; cases hx
    · split at h
      · exact set1_A h ha
      · split at h
        · cases h
        · rename_i hz
          simp only [if_neg hz]
          exact set1_A h ha
    · simp only [Option.bind_eq_some_iff] at h ⊢
      obtain ⟨r, hr, h⟩ := h
      exact ⟨r, rdV_ag hr (set1_S h ha), set1_A h ha⟩
  | func f =>
    unfold planMv at h ⊢
    simp only [Option.bind_eq_some_iff] at h ⊢
    obtain ⟨r, hr, h⟩ := h
    exact ⟨r, rdV_ag hr (set1_S h ha), set1_A h ha⟩
  | global g =>
    unfold planMv at h ⊢
    simp only [Option.bind_eq_some_iff] at h ⊢
    obtain ⟨r, hr, h⟩ := h
    exact ⟨r, rdV_ag hr (set1_S h ha), set1_A h ha⟩

theorem planFa_ag {s : TypeId} {x : Operand} {f : Nat} (h : planFa P T gd d s x f = some p) (ha : AgT p.tr T T2) : planFa P T2 gd d s x f = some p := by
  unfold planFa at h ⊢
  simp only [Option.bind_eq_some_iff] at h ⊢
  obtain ⟨fl, hfl, h⟩ := h
  refine ⟨fl, hfl, ?_⟩
  split at h
  · cases h
  · rename_i hz
    rw [if_neg hz]
    split at h
    · rename_i t
      split at h
      · rename_i ks htag
        cases h
        have ht : T2 t = T t := ha t (by simp)
        have hd : T2 d = T d := ha d (by simp)
        simp only [tagAt_ag ht, htag, dstT_ag hd, ht]
      · rename_i t' off g htag
        split at h
        · rename_i hg
          cases h
          have ht : T2 t = T t := ha t (by simp)
          have ht' : T2 t' = T t' := ha t' (by simp)
          have hd : T2 d = T d := ha d (by simp)
          simp only [tagAt_ag ht, htag, dstT_ag hd, ht', hg, if_true]
        · cases h
      · rename_i t' k off g u htag
        simp only [Option.bind_eq_some_iff] at h
        obtain ⟨y, hy, h⟩ := h
        cases h
        have ht : T2 t = T t := ha t (by simp)
        have ht' : T2 t' = T t' := ha t' (by simp)
        have hd : T2 d = T d := ha d (by simp)
        simp only [tagAt_ag ht, htag, dstT_ag hd, alOk_ag ht', hy, Option.bind_some]
      · rename_i c htag
        split at h
        · rename_i hv
          have ht := (set1_S h ha).head
          simp only [tagAt_ag ht, htag, hv, if_true]
          exact set1_A h ha
        · cases h
      · cases h
    · cases h

theorem boxOf_ep {t t' k off g u : Nat} (h : tagAt T gd t = .ep t' k off g u) : boxOf T gd t = none := by unfold boxOf; rw [h]
theorem boxOf_one {t : Nat} {c : CK} (h : tagAt T gd t = .one c) : boxOf T gd t = none := by unfold boxOf; rw [h]

theorem planLd_ag {ty : TypeId} {x : Operand} (h : planLd P T gd d pol ty x = some p) (ha : AgT p.tr T T2) : planLd P T2 gd d pol ty x = some p := by
  unfold planLd at h ⊢
  simp only at h ⊢
  split at h
  · rename_i t
    split at h
    · rename_i b off ks hbox
      split at h
      · rename_i hag
        split at h
        · cases h
        · rename_i hlen
          split at h
          · rename_i hv
            have hs := set1_S h ha
            simp only [boxOf_ag hbox hs.head hs.tail.head, hag, if_true, hlen, if_false, hv]
            exact set1_A h ha
          · rename_i hv
            split at h
            · rename_i hl
              split at h
              · split at h
                · rename_i hc
                  cases h
                  have ht : T2 t = T t := ha t (by simp)
                  have hb : T2 b = T b := ha b (by simp)
                  have hd : T2 d = T d := ha d (by simp)
                  simp only [boxOf_ag hbox ht hb, hag, if_true, hlen, if_false, hv, hl, dstT_ag hd, hb]
                  rw [if_pos hc]
                  rfl
                · cases h
              · rename_i n1
                have hs := set1_S h ha
                simp only [boxOf_ag hbox hs.head hs.tail.head, hag, if_true, hlen, if_false, hv, hl, hs.tail.head]
                exact set1_A h ha
            · cases h
      · rename_i hag
        split at h
        · rename_i c hc
          split at h
          · rename_i hk
            have hs := set1_S h ha
            simp only [boxOf_ag hbox hs.head hs.tail.head, hag, if_false, hc, hk]
            exact set1_A h ha
          · rename_i e s hk
            split at h
            · cases h
              have ht : T2 t = T t := ha t (by simp)
              have hb : T2 b = T b := ha b (by simp)
              have hd : T2 d = T d := ha d (by simp)
              simp only [boxOf_ag hbox ht hb, hag, if_false, hc, hk, dstT_ag hd, hb]
              simp
            · have hs := set1_S h ha
              simp only [boxOf_ag hbox hs.head hs.tail.head, hag, if_false, hc, hk, hs.tail.head]
              exact set1_A h ha
            · rename_i n0 n1
              have hs := set1_S h ha
              simp only [boxOf_ag hbox hs.head hs.tail.head, hag, if_false, hc, hk, hs.tail.head]
              exact set1_A h ha
          · cases h
        · cases h
    · split at h
      · rename_i t' k off g u htag
        simp only [Option.bind_eq_some_iff] at h
        obtain ⟨y, hy, h⟩ := h
        have hs := set1_S h ha
        have htag2 : tagAt T2 gd t = .ep t' k off g u := (tagAt_ag hs.head).trans htag
        have ht' := hs.tail.head
        simp only [boxOf_ep htag2, htag2, alOk_ag ht', hy, Option.bind_some, crAt_ag ht']
        exact set1_A h ha
      · rename_i c htag
        split at h
        · rename_i hv
          have hs := set1_S h ha
          have htag2 : tagAt T2 gd t = .one c := (tagAt_ag hs.head).trans htag
          simp only [boxOf_one htag2, htag2, hv, if_true]
          exact set1_A h ha
        · cases h
      · cases h
  · cases h

theorem planSt_ag {ty : TypeId} {x y : Operand} (h : planSt P hn T gd pol ty x y = some p) (ha : AgT p.tr T T2) : planSt P hn T2 gd pol ty x y = some p := by
  unfold planSt at h ⊢
  simp only at h ⊢
  split at h
  · rename_i t
    split at h
    · rename_i b off ks hbox
      split at h
      · rename_i hle
        split at h
        · rename_i hag
          split at h
          · rename_i s
            split at h
            · rename_i cs htag
              split at h
              · rename_i hc
                cases h
                have ht : T2 t = T t := ha t (by simp)
                have hb : T2 b = T b := ha b (by simp)
                have hs : T2 s = T s := ha s (by simp)
                simp only [boxOf_ag hbox ht hb, hag, if_true, hle, tagAt_ag hs, htag, hs, hb]
                rw [if_pos hc]
              · cases h
            · cases h
          · rename_i n1
            simp only [Option.bind_eq_some_iff] at h
            obtain ⟨r, hr, h⟩ := h
            split at h
            · rename_i ks' hks
              cases h
              have ht : T2 t = T t := ha t (by simp)
              have hb : T2 b = T b := ha b (by simp)
              have har : AgT r.2.2 T T2 := fun s hs => ha s (by simp [hs])
              have hr2 := useO_ag hr har
              have hub : (T2.ups r.2.1) b = (T.ups r.2.1) b := AgT.ups (l := [b]) r.2.1 (fun z hz => by simp at hz; rw [hz]; exact hb) b (by simp)
              simp only [boxOf_ag hbox ht hb, hag, if_true, hle, hr2, Option.bind_some, hub, hks, hb]
            · cases h
        · rename_i hag
          split at h
          · cases h
          · rename_i hn1
            split at h
            · simp only [Option.bind_eq_some_iff] at h
              obtain ⟨r, hr, h⟩ := h
              split at h
              · rename_i ks' hks
                cases h
                have ht : T2 t = T t := ha t (by simp)
                have hb : T2 b = T b := ha b (by simp)
                have har : AgT r.2.2 T T2 := fun s hs => ha s (by simp [hs])
                have hr2 := useO_ag hr har
                have hub : (T2.ups r.2.1) b = (T.ups r.2.1) b := AgT.ups (l := [b]) r.2.1 (fun z hz => by simp at hz; rw [hz]; exact hb) b (by simp)
                simp only [boxOf_ag hbox ht hb, hag, if_true, if_false, hn1, hle, hr2, Option.bind_some, hub, hks, hb]
                simp
              · cases h
            · rename_i e
              split at h
              · cases h
              · rename_i hz
                simp only [Option.bind_eq_some_iff] at h
                obtain ⟨r, hr, h⟩ := h
                split at h
                · rename_i ks' hks
                  cases h
                  have ht : T2 t = T t := ha t (by simp)
                  have hb : T2 b = T b := ha b (by simp)
                  have har : AgT r.2.2 T T2 := fun s hs => ha s (by simp [hs])
                  have hr2 := takeO_ag hr har
                  have hub : (T2.ups r.2.1) b = (T.ups r.2.1) b := AgT.ups (l := [b]) r.2.1 (fun z hz => by simp at hz; rw [hz]; exact hb) b (by simp)
                  simp only [boxOf_ag hbox ht hb, hag, if_true, if_false, hn1, hle, hz, hr2, Option.bind_some, hub, hks, hb]
                  simp
                · cases h
      · cases h
    · split at h
      · rename_i t' k off g u htag
        simp only [Option.bind_eq_some_iff] at h
        obtain ⟨z, hz, r, hr, z', hz', h⟩ := h
        split at h
        · cases h
        · rename_i hne
          cases h
          have ht : T2 t = T t := ha t (by simp)
          have ht' : T2 t' = T t' := ha t' (by simp)
          have har : AgT r.2.2 T T2 := fun s hs => ha s (by simp [hs])
          have hr2 := useO_ag hr har
          have hub : (T2.ups r.2.1) t' = (T.ups r.2.1) t' := AgT.ups (l := [t']) r.2.1 (fun z hz => by simp at hz; rw [hz]; exact ht') t' (by simp)
          have htag2 : tagAt T2 gd t = .ep t' k off g u := (tagAt_ag ht).trans htag
          simp only [boxOf_ep htag2, htag2, alOk_ag ht', hz, Option.bind_some, hr2, alOk_ag hub, hz', hne, if_false, ht']
      · rename_i c htag
        split at h
        · rename_i hv
          simp only [Option.bind_eq_some_iff] at h
          obtain ⟨r, hr, h⟩ := h
          cases h
          have ht : T2 t = T t := ha t (by simp)
          have har : AgT r.2.2 T T2 := fun s hs => ha s (by simp [hs])
          have hr2 := useO_ag hr har
          have htag2 : tagAt T2 gd t = .one c := (tagAt_ag ht).trans htag
          simp only [boxOf_one htag2, htag2, hv, if_true, hr2, Option.bind_some]
        · cases h
      · cases h
  · cases h

end
end Tr

namespace Tr
open Go

section
variable {P : Program} {T T2 : Tags} {hn : Hn} {gd : Option (Nat × Nat × Bool)} {sig : Nat → Option Sg} {own pol d : Nat} {p : Plan}

theorem up1_ag (u : List (Nat × Tg)) {t : Nat} (h : T2 t = T t) : (T2.ups u) t = (T.ups u) t :=
  AgT.ups (l := [t]) u (fun z hz => by simp at hz; rw [hz]; exact h) t (by simp)

theorem planCall_ag {c : Call} (h : planCall P sig hn own T gd d pol c = some p) (ha : AgT p.tr T T2) : planCall P sig hn own T2 gd d pol c = some p := by
  unfold planCall at h ⊢
  split at h
  · rename_i f hc
    simp only [Option.bind_eq_some_iff] at h ⊢
    obtain ⟨sg, hsg, r, hr, h⟩ := h
    have fin : AgT r.2.2 T T2 → T2 d = T d → argsO hn T2 gd (decide (pol = 1)) sg.ps c.args.toList = some r ∧ ∀ tag, dstT (T2.ups r.2.1) gd d tag = dstT (T.ups r.2.1) gd d tag :=
      fun h1 h2 => ⟨argsO_ag hr h1, fun tag => dstT_ag (up1_ag _ h2)⟩
    split at h
    · rename_i hown
      split at h
      · cases h
      · rename_i hcc
        split at h
        · rename_i hrs
          cases h
          have hd : T2 d = T d := ha d (by simp)
          obtain ⟨f1, f2⟩ := fin (fun s hs => ha s (by simp [hs])) hd
          refine ⟨sg, hsg, r, f1, ?_⟩
          rw [if_pos hown, if_neg hcc, hrs]
          simp only [f2]
        · cases h
        · rename_i hn1 hn2
          split at h
          · rename_i hall
            cases h
            have hd : T2 d = T d := ha d (by simp)
            obtain ⟨f1, f2⟩ := fin (fun s hs => ha s (by simp [hs])) hd
            refine ⟨sg, hsg, r, f1, ?_⟩
            rw [if_pos hown, if_neg hcc]
            split
            · rename_i hrs; exact absurd hrs hn1
            · rename_i hrs; exact absurd hrs (hn2 _)
            · rw [if_pos hall]; simp only [f2]
          · cases h
    · rename_i hown
      split at h
      · rename_i hpol
        split at h
        · cases h
        · rename_i hcc
          have hs := set1_S h ha
          have hd : T2 d = T d := ha d (by rw [set1_tr h]; simp)
          refine ⟨sg, hsg, r, (fin hs hd).1, ?_⟩
          rw [if_neg hown, if_pos hpol, if_neg hcc]
          exact set1_A h ha
      · rename_i hpol
        split at h
        · rename_i ks hrs
          split at h
          · cases h
          · rename_i hgd
            cases h
            have hd : T2 d = T d := ha d (by simp)
            obtain ⟨f1, f2⟩ := fin (fun s hs => ha s (by simp [hs])) hd
            refine ⟨sg, hsg, r, f1, ?_⟩
            rw [if_neg hown, if_neg hpol, hrs]
            simp only [f2, if_neg hgd]
        · rename_i e s hrs
          have hs := set1_S h ha
          have hd : T2 d = T d := ha d (by rw [set1_tr h]; simp)
          refine ⟨sg, hsg, r, (fin hs hd).1, ?_⟩
          rw [if_neg hown, if_neg hpol, hrs]
          exact set1_A h ha
        · rename_i hrs
          have hs := set1_S h ha
          have hd : T2 d = T d := ha d (by rw [set1_tr h]; simp)
          refine ⟨sg, hsg, r, (fin hs hd).1, ?_⟩
          rw [if_neg hown, if_neg hpol, hrs]
          exact set1_A h ha
        · cases h
        · rename_i n1 n2 n3 n4
          have hs := set1_S h ha
          have hd : T2 d = T d := ha d (by rw [set1_tr h]; simp)
          refine ⟨sg, hsg, r, (fin hs hd).1, ?_⟩
          rw [if_neg hown, if_neg hpol]
          split
          · rename_i hrs; exact absurd hrs (n1 _)
          · rename_i hrs; exact absurd hrs (n2 _ _)
          · rename_i hrs; exact absurd hrs n3
          · rename_i hrs; exact absurd hrs n4
          · exact set1_A h ha
  · rename_i x hx hc
    simp only [Option.bind_eq_some_iff] at h ⊢
    obtain ⟨q, hq, r, hr, h⟩ := h
    split at h
    · rename_i hown
      have hs := set1_S h ha
      refine ⟨q, rdV_ag hq hs.left, r, usesO_ag hr hs.right, ?_⟩
      rw [if_pos hown]
      exact set1_A h ha
    · rename_i hown
      cases h
      have hd : T2 d = T d := ha d (by simp)
      refine ⟨q, rdV_ag hq (fun s hs => ha s (by simp [hs])), r, usesO_ag hr (fun s hs => ha s (by simp [hs])), ?_⟩
      rw [if_neg hown, dstT_ag (up1_ag r.2.1 hd)]
  · split at h
    · rename_i hc
      split at h
      · rename_i hcc
        simp only [Option.bind_eq_some_iff] at h
        obtain ⟨r, hr, h⟩ := h
        simp only [if_pos hcc, rdO_ag hr (set1_S h ha), Option.bind_some]
        exact set1_A h ha
      · cases h
    · cases h
  · split at h
    · simp only [Option.bind_eq_some_iff] at h
      obtain ⟨e, he, h⟩ := h
      split at h
      · cases h
      · rename_i hi
        simp only [Option.bind_eq_some_iff] at h
        obtain ⟨r, hr, q, hq, h⟩ := h
        split at h
        · cases h
        · rename_i hcc
          have hs := set1_S h ha
          simp only [he, Option.bind_some, if_neg hi, takeO_ag hr hs.left, rdO_ag hq (hs.right.ups r.2.1), if_neg hcc]
          exact set1_A h ha
    · cases h
  · split at h
    · simp only [Option.bind_eq_some_iff] at h
      obtain ⟨r, hr, q, hq, h⟩ := h
      have hs := set1_S h ha
      simp only [rdO_ag hr hs.left, rdO_ag hq hs.right, Option.bind_some]
      exact set1_A h ha
    · cases h
  · split at h
    · simp only [Option.bind_eq_some_iff] at h
      obtain ⟨r, hr, q, hq, h⟩ := h
      have hs := set1_S h ha
      simp only [rdO_ag hr hs.left, rdO_ag hq hs.right, Option.bind_some]
      exact set1_A h ha
    · cases h
  · cases h

end
end Tr

namespace Tr
open Go

section
variable {P : Program} {T T2 : Tags} {hn : Hn} {gd : Option (Nat × Nat × Bool)} {sig : Nat → Option Sg} {own pol d : Nat} {p : Plan}

theorem planOp_ag {o : Oper} (h : planOp P sig hn own T gd pol o = some p) (ha : AgT p.tr T T2) : planOp P sig hn own T2 gd pol o = some p := by
  unfold planOp at h ⊢
  split at h
  · exact planMv_ag h ha
  · exact planMv_ag h ha
  · -- pick
    simp only [Option.bind_eq_some_iff] at h ⊢
    obtain ⟨c, hc, a, hA, b, hB, h⟩ := h
    have hs := set1_S h ha
    exact ⟨c, rdO_ag hc hs.left.left, a, rdV_ag hA hs.left.right, b, rdV_ag hB hs.right, set1_A h ha⟩
  · -- binOp
    simp only [Option.bind_eq_some_iff] at h ⊢
    obtain ⟨x, hx, y, hy, h⟩ := h
    have hs : AgT (x.2 ++ y.2) T T2 := by
      split at h
      · split at h <;> exact set1_S h ha
      · split at h <;> exact set1_S h ha
      · exact set1_S h ha
    refine ⟨x, rdO_ag hx hs.left, y, rdO_ag hy hs.right, ?_⟩
    split at h
    · split at h
      · rename_i hc; simp only [if_pos hc]; exact set1_A h ha
      · rename_i hc; simp only [if_neg hc]; exact set1_A h ha
    · split at h
      · rename_i hc; simp only [if_pos hc]; exact set1_A h ha
      · rename_i hc; simp only [if_neg hc]; exact set1_A h ha
    · exact set1_A h ha
  · -- unOp
    simp only [Option.bind_eq_some_iff] at h ⊢
    obtain ⟨x, hx, h⟩ := h
    exact ⟨x, rdO_ag hx (set1_S h ha), set1_A h ha⟩
  · -- convert
    split at h
    · rename_i hc
      simp only [if_pos hc, Option.bind_eq_some_iff] at h ⊢
      obtain ⟨q, hq, h⟩ := h
      exact ⟨q, rdV_ag hq (set1_S h ha), set1_A h ha⟩
    · rename_i hc
      simp only [if_neg hc, Option.bind_eq_some_iff] at h ⊢
      obtain ⟨q, hq, h⟩ := h
      have key : AgT q.2 T T2 := by
        split at h
        · exact set1_S h ha
        · split at h
          · simp only [Option.bind_eq_some_iff] at h
            obtain ⟨e, he, h⟩ := h
            split at h
            · exact set1_S h ha
            · cases h
          · split at h
            · simp only [Option.bind_eq_some_iff] at h
              obtain ⟨e, he, h⟩ := h
              split at h
              · exact set1_S h ha
              · cases h
            · cases h
      refine ⟨q, rdO_ag hq key, ?_⟩
      split at h
      · exact set1_A h ha
      · split at h
        · rename_i h1
          simp only [if_pos h1, Option.bind_eq_some_iff] at h ⊢
          obtain ⟨e, he, h⟩ := h
          refine ⟨e, he, ?_⟩
          split at h
          · rename_i h2; rw [if_pos h2]; exact set1_A h ha
          · cases h
        · rename_i h1
          simp only [if_neg h1] at h ⊢
          split at h
          · rename_i h3
            simp only [if_pos h3, Option.bind_eq_some_iff] at h ⊢
            obtain ⟨e, he, h⟩ := h
            refine ⟨e, he, ?_⟩
            split at h
            · rename_i h2; rw [if_pos h2]; exact set1_A h ha
            · cases h
          · cases h
  · -- alloc
    simp only [Option.bind_eq_some_iff] at h ⊢
    obtain ⟨z, hz, h⟩ := h
    refine ⟨z, hz, ?_⟩
    split at h
    · cases h
    · rename_i hg
      rw [if_neg hg]
      split at h
      · rename_i hp
        rw [if_pos hp]
        split at h
        · cases h
        · rename_i ho
          cases h
          rw [if_neg ho, dstT_ag (ha _ (by simp))]
      · rename_i hp
        rw [if_neg hp]
        split at h
        · rename_i hk
          cases h
          rw [if_pos hk, dstT_ag (ha _ (by simp))]
        · cases h
  · -- box
    split at h
    · cases h
    · rename_i hg
      rw [if_neg hg]
      split at h
      · rename_i hp
        rw [if_pos hp]
        split at h
        · cases h
        · rename_i ho
          rw [if_neg ho]
          simp only [Option.bind_eq_some_iff] at h ⊢
          obtain ⟨r, hr, h⟩ := h
          cases h
          refine ⟨r, useO_ag hr (fun s hs => ha s (by simp [hs])), ?_⟩
          rw [dstT_ag (up1_ag r.2.1 (ha _ (by simp)))]
      · rename_i hp
        rw [if_neg hp]
        split at h
        · rename_i t hop
          split at h
          · rename_i ks htag
            cases h
            have ht : T2 t = T t := ha t (by simp)
            simp only [tagAt_ag ht, htag, ht]
            rw [dstT_ag (ha _ (by simp))]
          · rename_i n1
            simp only [Option.bind_eq_some_iff] at h
            obtain ⟨r, hr, h⟩ := h
            cases h
            have har : AgT r.2.2 T T2 := fun s hs => ha s (by simp [hs])
            have hr2 := useO_ag hr har
            have ht : T2 t = T t := by
              have : t ∈ r.2.2 := by
                unfold useO at hr
                simp only at hr
                repeat' split at hr
                all_goals first
                  | (cases hr; simp)
                  | (simp only [Option.bind_eq_some_iff] at hr; obtain ⟨_, _, hr⟩ := hr; cases hr; simp)
                  | cases hr
              exact har t this
            simp only [tagAt_ag ht, hr2, Option.bind_some]
            rw [dstT_ag (up1_ag r.2.1 (ha _ (by simp)))]
        · simp only [Option.bind_eq_some_iff] at h ⊢
          obtain ⟨r, hr, h⟩ := h
          cases h
          refine ⟨r, useO_ag hr (fun s hs => ha s (by simp [hs])), ?_⟩
          rw [dstT_ag (up1_ag r.2.1 (ha _ (by simp)))]
  · exact planFa_ag h ha
  · split at h
    · rename_i ht; rw [if_pos ht]; exact planLd_ag h ha
    · cases h
  · split at h
    · rename_i ht; rw [if_pos ht]; exact planSt_ag h ha
    · cases h
  · -- nilCheck
    split at h
    · rename_i t hop
      split at h
      · rename_i ks htag
        cases h
        have ht : T2 t = T t := ha t (by simp)
        simp only [tagAt_ag ht, htag, ht]
        rw [dstT_ag (ha _ (by simp))]
      · rename_i t' off g htag
        split at h
        · rename_i hg
          cases h
          have ht : T2 t = T t := ha t (by simp)
          have ht' : T2 t' = T t' := ha t' (by simp)
          simp only [tagAt_ag ht, htag, ht', hg, if_true]
          rw [dstT_ag (ha _ (by simp))]
        · cases h
      · rename_i c htag
        split at h
        · rename_i hv
          simp only [tagAt_ag (set1_S h ha).head, htag, hv, if_true]
          exact set1_A h ha
        · cases h
      · cases h
    · cases h
  · -- indexAddr
    simp only [Option.bind_eq_some_iff] at h ⊢
    obtain ⟨e, he, i, hi, h⟩ := h
    refine ⟨e, he, ?_⟩
    split at h
    · cases h
    · rename_i hz
      split at h
      · rename_i s hop
        split at h
        · rename_i c htag
          split at h
          · rename_i hk
            have hs := set1_S h ha
            refine ⟨i, rdO_ag hi hs.tail, ?_⟩
            rw [if_neg hz]
            simp only [tagAt_ag hs.head, htag, hk]
            exact set1_A h ha
          · rename_i e' z hk
            split at h
            · rename_i hc
              have hs := set1_S h ha
              refine ⟨i, rdO_ag hi hs.tail, ?_⟩
              rw [if_neg hz]
              simp only [tagAt_ag hs.head, htag, hk, if_pos hc, hs.head]
              exact set1_A h ha
            · cases h
          · cases h
        · rename_i t' k g u htag
          simp only [Option.bind_eq_some_iff] at h
          obtain ⟨y, hy, h⟩ := h
          split at h
          · rename_i hc
            have hs := set1_S h ha
            refine ⟨i, rdO_ag hi hs.right, ?_⟩
            rw [if_neg hz]
            have h1 := hs.left.head
            have h2 := hs.left.tail.head
            simp only [tagAt_ag h1, htag, alOk_ag h2, hy, Option.bind_some, if_pos hc, crAt_ag h2]
            exact set1_A h ha
          · cases h
        · cases h
      · cases h
  · -- index
    split at h
    · rename_i hc
      simp only [if_pos hc, Option.bind_eq_some_iff] at h ⊢
      obtain ⟨x, hx, y, hy, h⟩ := h
      have hs := set1_S h ha
      exact ⟨x, rdO_ag hx hs.left, y, rdO_ag hy hs.right, set1_A h ha⟩
    · cases h
  · -- slice
    split at h
    · cases h
    · rename_i hm
      rw [if_neg hm]
      simp only [Option.bind_eq_some_iff] at h ⊢
      obtain ⟨r, hr, l, hl, hh, hhh, h⟩ := h
      have key : AgT (r.2.2 ++ l.2 ++ hh.2) T T2 := by
        split at h
        · exact set1_S h ha
        · split at h
          · cases h
          · exact set1_S h ha
        · cases h
      refine ⟨r, useO_ag hr key.left.left, l, lowHigh_ag hl key.left.right, hh, lowHigh_ag hhh key.right, ?_⟩
      split at h
      · exact set1_A h ha
      · split at h
        · cases h
        · rename_i hz
          rw [if_neg hz]
          exact set1_A h ha
      · cases h
  · -- build
    split at h
    · split at h
      · cases h
      · rename_i ho
        rw [if_neg ho]
        simp only [Option.bind_eq_some_iff] at h ⊢
        obtain ⟨z, hz, q, hq, r, hr, h⟩ := h
        refine ⟨z, hz, q, hq, r, ?_⟩
        split at h
        · rename_i hp
          split at h
          · rename_i hk
            cases h
            refine ⟨usesO_ag hr (fun s hs => ha s (by simp [hs])), ?_⟩
            rw [if_pos hp, if_pos hk, dstT_ag (up1_ag r.2.1 (ha _ (by simp)))]
          · cases h
        · rename_i hp
          refine ⟨usesO_ag hr (set1_S h ha), ?_⟩
          rw [if_neg hp]
          exact set1_A h ha
    · cases h
  · -- buildSlice
    simp only [Option.bind_eq_some_iff] at h ⊢
    obtain ⟨e, he, h⟩ := h
    refine ⟨e, he, ?_⟩
    split at h
    · rename_i hc
      rw [if_pos hc]
      simp only [Option.bind_eq_some_iff] at h ⊢
      obtain ⟨r, hr, h⟩ := h
      exact ⟨r, usesO_ag hr (set1_S h ha), set1_A h ha⟩
    · cases h
  · -- makeSlice
    simp only [Option.bind_eq_some_iff] at h ⊢
    obtain ⟨e, he, z, hz, l, hl, c, hc, h⟩ := h
    refine ⟨e, he, z, hz, l, ?_⟩
    split at h
    · cases h
    · rename_i hcc
      have hs := set1_S h ha
      refine ⟨rdO_ag hl hs.left, c, rdO_ag hc hs.right, ?_⟩
      rw [if_neg hcc]
      exact set1_A h ha
  · -- extract
    split at h
    · rename_i t hop
      split at h
      · rename_i ms htag
        split at h
        · rename_i hi
          simp only [tagAt_ag (set1_S h ha).head, htag, hi]
          exact set1_A h ha
        · rename_i hi
          split at h
          · cases h
          · rename_i hg
            have ht := (set1_S h ha).head
            simp only [tagAt_ag ht, htag, hi, if_neg hg, ht]
            exact set1_A h ha
        · cases h
        · rename_i ks hi
          split at h
          · cases h
          · rename_i hg
            cases h
            have ht : T2 t = T t := ha t (by simp)
            simp only [tagAt_ag ht, htag, hi, if_neg hg, ht]
            rw [dstT_ag (ha _ (by simp))]
        · cases h
      · cases h
    · cases h
  · -- field
    simp only [Option.bind_eq_some_iff] at h ⊢
    obtain ⟨fl, hfl, r, hr, h⟩ := h
    split at h
    · cases h
    · rename_i hc
      refine ⟨fl, hfl, r, rdV_ag hr (set1_S h ha), ?_⟩
      rw [if_neg hc]
      exact set1_A h ha
  · -- makeFunc
    split at h
    · simp only [Option.bind_eq_some_iff] at h ⊢
      obtain ⟨r, hr, h⟩ := h
      exact ⟨r, usesO_ag hr (set1_S h ha), set1_A h ha⟩
    · rename_i n1
      split at h
      · cases h
      · rename_i hg
        simp only [Option.bind_eq_some_iff] at h
        obtain ⟨r, hr, q, hq, h⟩ := h
        cases h
        rw [if_neg hg]
        simp only [Option.bind_eq_some_iff]
        refine ⟨r, usesO_ag hr (fun s hs => ha s (by simp [hs])), q, capsO_ag hq (AgT.ups _ (fun s hs => ha s (by
          simp only [List.mem_cons, List.mem_append]
          exact .inr (.inr hs)))), ?_⟩
        rw [dstT_ag (up1_ag q.2 (up1_ag r.2.1 (ha _ (by simp))))]
  · exact planCall_ag h ha
  · cases h

end
end Tr

namespace Tr
open Go

theorem meets_false {a b : List Nat} (h : meets a b = false) : ∀ t ∈ a, t ∉ b := fun t ht hb => by
  have : meets a b = true := List.any_eq_true.2 ⟨t, ht, List.any_eq_true.2 ⟨t, hb, by simp⟩⟩
  rw [h] at this; cases this

theorem ups_out : ∀ (u : List (Nat × Tg)) (T : Tags) (t : Nat), t ∉ u.map (·.1) → (T.ups u) t = T t
  | [], _, _, _ => rfl
  | (s, x) :: u, T, t, h => by
    simp only [List.map_cons, List.mem_cons, not_or] at h
    simp only [Tags.ups]
    rw [ups_out u _ t h.2, up_other _ _ _ _ h.1]

theorem ups_in : ∀ (u : List (Nat × Tg)) (T T2 : Tags) (t : Nat), t ∈ u.map (·.1) → (T.ups u) t = (T2.ups u) t
  | [], _, _, _, h => by simp at h
  | (s, x) :: u, T, T2, t, h => by
    simp only [Tags.ups]
    by_cases hu : t ∈ u.map (·.1)
    · exact ups_in u _ _ t hu
    · rw [ups_out u _ t hu, ups_out u _ t hu]
      have : t = s := by simpa [hu] using h
      subst this
      rw [up_same, up_same]

theorem ups_swap (a b : List (Nat × Tg)) (T : Tags) (h : ∀ t ∈ a.map (·.1), t ∉ b.map (·.1)) : (T.ups a).ups b = (T.ups b).ups a := by
  funext t
  by_cases h1 : t ∈ a.map (·.1)
  · rw [ups_out b _ t (h t h1)]
    exact ups_in a _ _ t h1
  · rw [ups_out a (T.ups b) t h1]
    by_cases h2 : t ∈ b.map (·.1)
    · exact ups_in b _ _ t h2
    · rw [ups_out b _ t h2, ups_out b _ t h2, ups_out a _ t h1]

section
variable {P : Program} {T T2 : Tags} {hn : Hn} {S : Fns} {sig : Nat → Option Sg} {own n reg i : Nat} {ops : Array Oper} {o : Oper} {e e1 e2 : Env} {x y : GP}

theorem refB_ag {s k g u : Nat} (h : T2 s = T s) : refB T2 s k g u = refB T s k g u := by unfold refB; rw [h]

theorem gfOk_ag {gd : Option (Nat × Nat × Bool)} {d : Nat} : ∀ (ups : List (Nat × Tg)) (T T2 : Tags), gfOk gd d T ups = true → AgT (ups.map (·.1) ++ ups.flatMap (fun y => tagRefs y.2.tag)) T T2 → gfOk gd d T2 ups = true
  | [], _, _, h, _ => by simp [gfOk] at h
  | [(t, x)], T, T2, h, ha => by
    simp only [gfOk, Bool.and_eq_true, beq_iff_eq] at h ⊢
    obtain ⟨⟨rfl, hg⟩, h⟩ := h
    have ht : T2 t = T t := ha t (by simp)
    refine ⟨⟨rfl, by rw [ht]; exact hg⟩, ?_⟩
    cases htag : x.tag with
    | one c => rw [htag] at h; exact h
    | al s k g u =>
      rw [htag] at h
      have hs : T2 s = T s := ha s (by simp [htag, tagRefs])
      simpa only [refB_ag hs] using h
    | ep s k off g u =>
      rw [htag] at h
      have hs : T2 s = T s := ha s (by simp [htag, tagRefs])
      simpa only [refB_ag hs] using h
    | bp s off g =>
      rw [htag] at h
      have hs : T2 s = T s := ha s (by simp [htag, tagRefs])
      simpa only [hs] using h
    | dead => rw [htag] at h; cases h
    | agg ks => rw [htag] at h; cases h
    | box ks => rw [htag] at h; cases h
    | tup ms => rw [htag] at h; cases h
  | (t, x) :: y :: r, T, T2, h, ha => by
    simp only [gfOk, Bool.and_eq_true] at h ⊢
    have ht : T2 t = T t := ha t (by simp)
    refine ⟨by rw [ht]; exact h.1, gfOk_ag (y :: r) (T.up t x) (T2.up t x) h.2 (fun s hs => ?_)⟩
    by_cases hst : s = t
    · subst hst; rw [up_same, up_same]
    · rw [up_other _ _ _ _ hst, up_other _ _ _ _ hst]
      refine ha s ?_
      simp only [List.mem_append, List.map_cons, List.mem_cons, List.flatMap_cons] at hs ⊢
      rcases hs with hs | hs
      · exact .inl (.inr hs)
      · exact .inr (.inr hs)

theorem planAt_ag (h : planAt P sig hn own n reg ops i o T = some x) (ha : AgT x.tr T T2) : planAt P sig hn own n reg ops i o T2 = some x := by
  unfold planAt at h ⊢
  simp only [Option.bind_eq_some_iff] at h ⊢
  obtain ⟨gd, hgd, p, hp, h⟩ := h
  rw [Option.ite_none_right_eq_some] at h
  obtain ⟨hc, h⟩ := h
  cases h
  have hap : AgT p.tr T T2 := fun t ht => ha t (by
    unfold GP.tr
    split
    · exact ht
    · simp [ht])
  refine ⟨gd, ?_, p, planOp_ag hp hap, ?_⟩
  · unfold gdOf at hgd ⊢
    split at hgd
    · exact hgd
    · simp only [Option.bind_eq_some_iff] at hgd ⊢
      obtain ⟨s, hs, h⟩ := hgd
      refine ⟨s, hs, ?_⟩
      have hts : T2 s = T s := by
        split at h
        · split at h
          · cases h
            exact ha s (by simp [GP.tr])
          · cases h
        · cases h
      rw [hts]
      exact h
  · rw [if_pos]
    simp only [Bool.and_eq_true] at hc ⊢
    refine ⟨⟨hc.1.1, ?_⟩, hc.2⟩
    have h2 := hc.1.2
    unfold okGf at h2 ⊢
    split at h2
    · rfl
    · rename_i s g b
      simp only [Bool.and_eq_true] at h2 ⊢
      refine ⟨?_, h2.2⟩
      have h3 := h2.1
      split at h3
      · refine gfOk_ag _ _ _ h3 (fun t ht => ha t ?_)
        simp only [GP.tr, List.mem_append, List.mem_cons] at ht ⊢
        rcases ht with ht | ht
        · exact .inr (.inl (.inr ht))
        · exact .inr (.inr ht)
      · cases h3

theorem over_sub {e2 e' : Env} {l : List Nat} {t : Nat} (h2 : e2 t = e' t) : e2.over e' l = e2.over e' (t :: l) := by
  funext s
  simp only [Env.over, List.mem_cons]
  by_cases hs : s = t
  · subst hs
    simp [h2]
  · simp [hs]

theorem stepG_loc {dst : Option Nat} (hp : ∀ s g b, x.gd = some (s, g, b) → dst = some (gpD x)) (h : stepG S x dst e = some e1) (ha : Agree x.cr2 e e2) : stepG S x dst e2 = some (e2.over e1 x.cw) ∧ ∀ t, t ∉ x.cw → e1 t = e t := by
  cases hg : x.gd with
  | none =>
    simp only [stepG, hg] at h ⊢
    simp only [GP.cr2, hg] at ha
    have hl := Dyn.locA h ha
    simp only [GP.cw, hg]
    exact ⟨hl.ev, hl.out⟩
  | some q =>
    obtain ⟨s, g, b⟩ := q
    have hd := hp s g b hg
    subst hd
    simp only [stepG, hg, Option.bind_eq_some_iff] at h ⊢
    simp only [GP.cr2, hg] at ha
    simp only [GP.cw, hg]
    obtain ⟨c, hc, t, ht, h⟩ := h
    have hc2 : (CR.c s).val e2 = some c := by simp only [CR.val] at hc ⊢; rw [ha.head]; exact hc
    refine ⟨⟨c, hc2, t, ht, ?_⟩, ?_⟩
    · split at h
      · rename_i htt
        rw [if_pos htt]
        have hl := Dyn.locA h ha.tail.tail.right
        rw [hl.ev]
        by_cases hw : gpD x ∈ x.p.dyn.wr
        · congr 1
          funext s
          simp only [Env.over, List.mem_cons]
          by_cases hs : s = gpD x
          · simp [hs, hw]
          · simp [hs]
        · congr 1
          refine over_sub ?_
          rw [hl.out _ hw]
          exact ha.tail.head
      · rename_i htt
        rw [if_neg htt]
        cases h
        congr 1
        funext s
        simp only [Env.over, List.mem_cons]
        by_cases hs : s = gpD x
        · simp [hs, set_same]
        · rw [set_other _ _ _ _ hs]
          by_cases hw : s ∈ x.p.dyn.wr
          · simp only [hw, or_true, if_true]
            rw [set_other _ _ _ _ hs]; exact ha.tail.tail.left s hw
          · simp [hs, hw]
    · intro u hu
      simp only [List.mem_cons, not_or] at hu
      split at h
      · exact (Dyn.locA h ha.tail.tail.right).out u hu.2
      · cases h
        exact set_other _ _ _ _ hu.1

end
end Tr

