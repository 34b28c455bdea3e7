/-
  TV: what makes or changes something (3): copy, make; all of it, in one theorem.
-/
import Derived.Test.YtmmofmkencnldaaGreatDoorTVEff2
namespace Go.Proofs.YtmmofmkencnldaaGreatDoor.TV
open Go Go.RowKit
set_option linter.unusedSimpArgs false
set_option linter.unusedVariables false

section
variable {P : Program} {g : G} {w : World} {s : St}

theorem copyT_ok (hR : Rel P g w s) {t u ty : TypeId} {x y v : TV} {rx ry : Value} (hx : VRel g rx x) (hy : VRel g ry y) {s' : St} (h : copyT P s t x y = some (v, s')) :
    ∃ rv w', (Builtin.copy_ #[t, u] ty #[rx, ry]).run P w = .ok rv w' ∧ Rel P g w' s' ∧ VRel g rv v := by
  unfold copyT at h
  split at h
  · rename_i elem ht
    split at h
    · cases h
    · rename_i hz
      have hs1 := sizeOf_run' (w := w) hz
      split at h
      · rename_i o off len cap ys hsrc
        split at h
        · rename_i hc
          simp only [Bool.and_eq_true] at hc
          obtain ⟨news, hn⟩ := srcT_ok hR (by omega) hy hsrc hc.1 hc.2
          cases hx with
          | osl a _ _ _ _ cap' ha hlc hcc =>
            split at h
            · rename_i h0
              cases h
              refine ⟨goInt 0, w, ?_, hR, .int _ _⟩
              have e1 := hn.len w
              have e2 := hn.first w 0 rfl (Nat.zero_le _)
              have hm : Nat.min ys.length len = 0 := h0
              simp [Builtin.copy_, run_underlying ht, e1, hm, hs1, e2, storeCells]
            · rename_i h0
              obtain ⟨b, e1, rfl⟩ := ha (by omega)
              split at h
              · rename_i s1 hset
                cases h
                have hrel : VRels g (news.take (min ys.length len * P.cellsOf elem)) ((ys.take (min ys.length len)).flatMap TV.cells) := by
                  rw [flat_take hn.size]
                  exact hn.rel.take _
                obtain ⟨w', h1, h2⟩ := setCellsT_ok hR hset e1 hrel
                refine ⟨_, w', ?_, h2, .int _ _⟩
                have e2 := hn.len w
                have e3 := hn.first w (min ys.length len) rfl (Nat.min_le_left _ _)
                have hm : Nat.min ys.length len = min ys.length len := rfl
                simp [Builtin.copy_, run_underlying ht, e2, hm, hs1, e3, h1, goInt]
              · cases h
        · cases h
      · rename_i isn tok ys hsrc
        cases h
        have hlen : ∃ n, ∀ w1, (Builtin.lenOf ry).run P w1 = .ok n w1 := by
          unfold srcT at hsrc
          split at hsrc
          · cases hy with
            | nils _ _ => exact ⟨_, fun _ => rfl⟩
            | empty _ _ _ _ _ => exact ⟨_, fun _ => rfl⟩
            | slice _ _ _ _ _ _ _ _ _ _ _ _ _ _ _ _ => exact ⟨_, fun _ => rfl⟩
          · cases hy with | str _ _ _ => exact ⟨_, fun _ => rfl⟩
          · cases hy with | osl _ _ _ _ _ _ _ _ _ => exact ⟨_, fun _ => rfl⟩
          · cases hsrc
        have hf : ∀ k, (Builtin.firstCells k 0 ry).run P w = .ok #[] w := by
          intro k
          unfold srcT at hsrc
          split at hsrc
          · cases hy with
            | nils _ _ => rfl
            | empty _ _ _ _ _ => simp [Builtin.firstCells, loadCells, loadCellsFrom]
            | slice _ _ _ _ _ _ _ _ _ _ _ _ _ _ _ _ => simp [Builtin.firstCells, loadCells, loadCellsFrom]
          · cases hy with | str sb _ _ => simp [Builtin.firstCells, ByteArray.data_extract]
          · cases hy with | osl _ _ _ _ _ _ _ _ _ => simp [Builtin.firstCells, loadCells, loadCellsFrom]
          · cases hsrc
        obtain ⟨n, hn⟩ := hlen
        have hm : Nat.min n 0 = 0 := Nat.min_zero n
        refine ⟨goInt 0, w, ?_, hR, .int _ _⟩
        cases hx with
        | nils _ _ => simp [Builtin.copy_, run_underlying ht, hn w, hm, hs1, hf]
        | empty a cap _ _ _ => simp [Builtin.copy_, run_underlying ht, hn w, hm, hs1, hf, storeCells]
        | slice _ _ _ _ _ _ _ _ hne _ _ _ _ _ _ _ => exact absurd rfl hne
      · cases h
  · cases h

theorem appInT_ok (hR : Rel P g w s) {t u ty : TypeId} {o off len cap : Nat} {y v : TV} {rx ry : Value} (hx : VRel g rx (.osl o off len cap)) (hy : VRel g ry y) {s' : St} (h : appInT P s t u o off len cap y = some (v, s')) :
    ∃ rv w' g', (Builtin.append_ #[t, u] ty #[rx, ry]).run P w = .ok rv w' ∧ g.le g' ∧ Rel P g' w' s' ∧ VRel g' rv v := by
  unfold appInT at h
  split at h
  · rename_i elem ud ht hud
    split at h
    · cases h
    · rename_i hni
      have hu : noInt P u := by
        cases ud <;> first | exact .inl ⟨_, hud⟩ | exact .inr hud | exact absurd rfl hni
      split at h
      · rename_i ys hsrc
        split at h
        · rename_i hc
          simp only [Bool.and_eq_true, decide_eq_true_eq] at hc
          obtain ⟨⟨⟨⟨hz0, hhy⟩, hok⟩, hpos⟩, hroom⟩ := hc
          obtain ⟨s1, hs1, he⟩ := Option.map_eq_some_iff.1 h
          cases he
          have hz : P.cellsOf elem ≠ 0 := by omega
          obtain ⟨news, hn⟩ := srcT_ok hR hz0 hy hsrc hhy hok
          have hnl : news.length = ys.length * P.cellsOf elem := by rw [hn.rel.length, flat_length hn.size]
          cases hx with
          | osl a _ _ _ _ cap' ha hlc hcc =>
            obtain ⟨b, e1, rfl⟩ := ha (by omega)
            obtain ⟨w', h1, h2⟩ := setCellsT_ok hR hs1 e1 hn.rel
            have q1 := hn.len w
            have q2 := hn.first w ys.length rfl (Nat.le_refl _)
            rw [← hnl, List.take_length] at q2
            have hroom' : len + ys.length ≤ cap' := by omega
            refine ⟨.slice (some ⟨b, off, none⟩) (len + ys.length) cap', w', g, ?_, .refl g, h2, .osl _ _ _ _ _ _ (fun _ => ⟨b, e1, rfl⟩) hroom hcc⟩
            rcases hu with ⟨e', hd⟩ | hd
            all_goals
              simp [Builtin.append_, run_underlying ht, run_underlying hd, sizeOf_run' (w := w) hz, q1, q2, hroom', add_plain', h1]
        · cases h
      · cases h
  · cases h
theorem appNewT_ok (hR : Rel P g w s) {t u ty : TypeId} {tok : Tok} {y v : TV} {rx ry : Value} (hx : VRel g rx (.slice true [] tok)) (hy : VRel g ry y) {s' : St} (h : appNewT P s t u y = some (v, s')) :
    ∃ rv w' g', (Builtin.append_ #[t, u] ty #[rx, ry]).run P w = .ok rv w' ∧ g.le g' ∧ Rel P g' w' s' ∧ VRel g' rv v := by
  unfold appNewT at h
  split at h
  · rename_i elem ud ht hud
    split at h
    · cases h
    · rename_i hni
      have hu : noInt P u := by
        cases ud <;> first | exact .inl ⟨_, hud⟩ | exact .inr hud | exact absurd rfl hni
      split at h
      · rename_i ys hsrc
        split at h
        · rename_i hc
          simp only [Bool.and_eq_true, decide_eq_true_eq] at hc
          obtain ⟨⟨⟨⟨⟨⟨hz0, hhy⟩, hok⟩, hpos⟩, hb⟩, hb0⟩, hzi⟩ := hc
          cases h
          have hz : P.cellsOf elem ≠ 0 := by omega
          obtain ⟨news, hn⟩ := srcT_ok hR hz0 hy hsrc hhy hok
          have hnl : news.length = ys.length * P.cellsOf elem := by rw [hn.rel.length, flat_length hn.size]
          obtain ⟨i, rz, hi, hrz, hrzs⟩ : ∃ i rz, P.info? elem = some i ∧ i.zero = some rz ∧ rz.cells.size = P.cellsOf elem := by
            unfold zeroFits at hzi
            split at hzi
            · rename_i z hzz
              simp only [Bool.and_eq_true, beq_iff_eq, Bool.not_eq_true'] at hzi
              obtain ⟨i, rz, h1, h2, _, h4⟩ := zero_cells hzz g (by intro e; subst e; simp [isJunk] at hzi)
              exact ⟨i, rz, h1, h2, by rw [← hzi.1, ← h4.length]; simp⟩
            · cases hzi
          cases hx with
          | nils _ _ =>
            have hrun := app_grow (ty := ty) ht hu hi hrz hz (base := none) (n := 0) (cap := 0) (olds := []) (by simp [Builtin.firstCells]) hn hnl (by omega) (by simpa using hb) hb0
            have hge := grownCap_ge w (0 + ys.length) 0 elem
            generalize hcap : grownCap w (0 + ys.length) 0 elem = cap2 at hrun hge
            obtain ⟨h1, h2, h3⟩ := hR.drew.newObj ((Below.refl _ w.drew).alloc (Nat.le_refl _) (.cells (([] ++ news).toArray ++ Builtin.zeroCells rz.cells (cap2 - (0 + ys.length))) elem)) (Nat.le_refl _) (ob := .cells (ys.flatMap TV.cells) elem)
              ⟨_, heap_alloc_new w.drew _, by
                rw [Array.toList_append, ← hn.rel.length, List.nil_append, List.take_left]
                exact hn.rel⟩
            have hge' : ys.length ≤ cap2 := by omega
            rw [show 0 + ys.length = ys.length from Nat.zero_add _] at hrun h2
            exact ⟨_, _, _, hrun, h1, h2, .osl _ _ _ _ _ _ (fun _ => ⟨_, h3, rfl⟩) (Nat.le_refl _) hge'⟩
        · cases h
      · cases h
  · cases h
theorem appendX_ok (hR : Rel P g w s) {t u ty : TypeId} {x y v : TV} {rx ry : Value} (hx : VRel g rx x) (hy : VRel g ry y) {s' : St} (h : appendX P s t u x y = some (v, s')) :
    ∃ rv w' g', (Builtin.append_ #[t, u] ty #[rx, ry]).run P w = .ok rv w' ∧ g.le g' ∧ Rel P g' w' s' ∧ VRel g' rv v := by
  unfold appendX at h
  split at h
  · exact appInT_ok hR hx hy h
  · split at h
    · exact appNewT_ok hR hx hy h
    · exact appendT_ok hR hx hy h
  · exact appendT_ok hR hx hy h
set_option maxHeartbeats 1000000 in
theorem effT_ok {ρ : Operand → Value} {τ : Operand → TV} (hρ : ∀ x, VRel g (ρ x) (τ x)) (hR : Rel P g w s) {o : Oper} {v : TV} {s' : St} (h : effT P s τ o = some (v, s')) : EffOk P g w s' ρ o v := by
  obtain ⟨dst, op, ty, pos, after, guard⟩ := o
  cases op with
  | alloc t =>
    simp only [effT] at h
    split at h
    · rename_i z hz
      split at h
      · rename_i hc; cases h; exact alloc_ok rfl hR hz hc
      · cases h
    · cases h
  | box t x =>
    simp only [effT] at h
    split at h
    · rename_i hc; cases h; exact box_ok hρ rfl hR hc
    · cases h
  | store t a x =>
    simp only [effT] at h
    split at h
    · rename_i o off ha
      split at h
      · rename_i hc
        simp only [Bool.and_eq_true, decide_eq_true_eq] at hc
        obtain ⟨s1, hs1, he⟩ := Option.map_eq_some_iff.1 h
        cases he
        exact store_ok hρ rfl hR ha hc.1 hc.2 hs1
      · cases h
    · cases h
  | makeMap t r =>
    cases r with
    | none => simp only [effT] at h; cases h; exact makeMap_ok rfl hR
    | some r => simp [effT] at h
  | buildSlice t len parts =>
    simp only [effT] at h
    split at h
    · rename_i elem es tok hu hb
      split at h
      · rename_i hc
        cases h
        obtain ⟨elem', es', cells', e1, e2, e3, e4, e5, e6, hrun⟩ := buildSliceT_run (g := g) (parts := parts.map fun p => (p.1, ρ p.2)) hR (by
          rw [Array.toList_map]
          exact PartRel.of_map hρ _) hb
        rw [hu] at e1
        cases e1
        cases e2
        obtain ⟨g', h5, h6, h7⟩ := mkObj_ok (s := s) hR elem e6
        refine ⟨_, _, g', .inl ?_, h5, h6, .osl ⟨w.heap.size, 0, none⟩ s.n 0 len len len (fun _ => ⟨_, h7, rfl⟩) (by omega) (Nat.le_refl _)⟩
        simp only [execOp, Sem.run_bind, hrun, Result.andThen_ok, Sem.run_pure]
      · cases h
    · cases h
  | makeSlice t l c =>
    simp only [effT] at h
    split at h
    · rename_i elem kl l' kc c' ht hl hc
      split at h
      · rename_i hcond
        simp only [Bool.and_eq_true, decide_eq_true_eq] at hcond
        obtain ⟨⟨⟨⟨h0, hlc⟩, hb⟩, h63⟩, hz0⟩ := hcond
        split at h
        · rename_i z hz
          split at h
          · rename_i hzc
            simp only [Bool.and_eq_true, beq_iff_eq] at hzc
            cases h
            have hzj : z ≠ .junk := by intro e; subst e; simp [cellOk, TV.cells] at hzc
            obtain ⟨i, rz, h1, h2, h3, h4⟩ := zero_cells hz g hzj
            have hrl := hρ l
            have hrc := hρ c
            rw [hl] at hrl
            rw [hc] at hrc
            cases hql : ρ l <;> rw [hql] at hrl <;> cases hrl
            cases hqc : ρ c <;> rw [hqc] at hrc <;> cases hrc
            have hby : i.bytes = P.bytesOf elem := by simp [Program.bytesOf, h1]
            have hsz : rz.cells.size = P.cellsOf elem := by rw [← hzc.2, ← h4.length]; simp
            have hrun := run_make (P := P) w t elem i rz ht h1 h2 kl kc l' c' h0 hlc (by rw [hby, Int.mul_comm]; omega) h63
            rw [← cellsOf_info h1, ← hsz] at hrun
            obtain ⟨g', h5, h6, h7⟩ := mkObj_ok (s := s) hR elem (cells := madeCells rz.cells (c'.toNat * rz.cells.size)) (cs := (List.replicate c'.toNat z.cells).flatten) (by
              unfold madeCells
              rw [range_cells]
              exact VRels.flatten_replicate h4 _)
            refine ⟨_, _, g', .inl ?_, h5, h6, .osl ⟨w.heap.size, 0, none⟩ s.n 0 l'.toNat c'.toNat c'.toNat (fun _ => ⟨_, h7, rfl⟩) (by omega) (Nat.le_refl _)⟩
            simp only [execOp, hql, hqc, Sem.run_bind, hrun, Result.andThen_ok, Sem.run_pure]
          · cases h
        · cases h
      · cases h
    · cases h
  | mapUpdate t m k x =>
    simp only [effT] at h
    obtain ⟨s1, hs1, he⟩ := Option.map_eq_some_iff.1 h
    cases he
    obtain ⟨w', h1, h2⟩ := mapSetT_ok hR (hρ m) (hρ k) (hρ x) hs1
    exact ⟨undef, w', g, .inr ⟨by simp [execOp, h1], rfl⟩, .refl g, h2, .undef' g⟩
  | insert t m k x =>
    simp only [effT] at h
    obtain ⟨s1, hs1, he⟩ := Option.map_eq_some_iff.1 h
    cases he
    obtain ⟨w', h1, h2⟩ := mapSetT_ok hR (hρ m) (hρ k) (hρ x) hs1
    exact ⟨undef, w', g, .inr ⟨by simp [execOp, h1], rfl⟩, .refl g, h2, .undef' g⟩
  | call c =>
    obtain ⟨callee, args, ts⟩ := c
    cases callee with
    | builtin b =>
      simp only [effT] at h
      split at h
      · rename_i x y t u ha ht
        have ha' := array_two ha
        have ht' := array_two ht
        subst ha' ht'
        obtain ⟨rv, w', g', h1, h2, h3, h4⟩ := appendX_ok (ty := ty) hR (hρ x) (hρ y) h
        exact ⟨rv, w', g', .inl (by simp [execOp, resolve, invoke, builtin, h1]), h2, h3, h4⟩
      · rename_i x y t u ha ht
        have ha' := array_two ha
        have ht' := array_two ht
        subst ha' ht'
        obtain ⟨rv, w', h1, h3, h4⟩ := copyT_ok (u := u) (ty := ty) hR (hρ x) (hρ y) h
        exact ⟨rv, w', g, .inl (by simp [execOp, resolve, invoke, builtin, h1]), .refl g, h3, h4⟩
      · rename_i m k t u ha ht
        have ha' := array_two ha
        have ht' := array_two ht
        subst ha' ht'
        obtain ⟨s1, hs1, he⟩ := Option.map_eq_some_iff.1 h
        cases he
        obtain ⟨w', h1, h3⟩ := deleteT_ok (u := u) (ty := ty) hR (hρ m) (hρ k) hs1
        exact ⟨_, w', g, .inl (by simp [execOp, resolve, invoke, builtin, h1]), .refl g, h3, .tup _ _ .nil⟩
      · cases h
    | _ => simp [effT] at h
  | _ => simp [effT] at h
end
end Go.Proofs.YtmmofmkencnldaaGreatDoor.TV
