/-
  slices.Insert as the interpreter takes it: it is so.
  No conditions.
-/
import Derived.Test.YtlkbahknmbgjmaaGreatGg
namespace Go.Proofs.YtlkbahknmbgjmaaGreat.Ev
open Go Go.RowKit

theorem slen_some {s : AV} {k : Nat → Out} {out : Out} (e : slen s k = out) (hn : out ≠ .no) : ∃ n, k n = out ∧ ∀ b o m c ex, s = .slc b o m c ex → m = n := by
  cases s with
  | nils => exact ⟨0, e, fun _ _ _ _ _ h => by cases h⟩
  | emp => exact ⟨0, e, fun _ _ _ _ _ h => by cases h⟩
  | slc b o n c ex => exact ⟨n, e, fun _ _ _ _ _ h => by cases h; rfl⟩
  | _ => exact absurd e.symm hn

theorem app_len {l : List Value} {i n m : Nat} {nw : List Value} (h : l.length = n * 3) (hi : i < n) (hw : nw.length = m * 3) :
    (l.take (i * 3)).length = i * 3 ∧ (l.drop (i * 3)).length = (n - i) * 3 ∧ (l.take (i * 3) ++ (nw ++ l.drop (i * 3))).length = (n + m) * 3 := by
  simp only [List.length_append, List.length_take, List.length_drop]; omega

set_option maxHeartbeats 4000000 in
set_option maxRecDepth 100000 in
theorem pInsE_ok : FcOk Tryz.prog 234 pInsE := fun ca hca l h k out e hn => by
  unfold pInsE at e
  dsimp only at e
  split at e
  next s i v =>
    obtain ⟨sn, e0, hsn⟩ := slen_some e hn
    clear e
    rcases bif_or e0 with ⟨h0, e1⟩ | ⟨h0, e1⟩
    · exact func_ok follows_ok idle_ok hca 100000 Tryz.func234 (fun c hc => names_ok 234 _ c Tryz.func234 hc) e1 hn
    · clear h0 e0
      split at e1
      next b o sl cap ex vb vo m vcap vex =>
        obtain rfl := hsn _ _ _ _ _ rfl
        obtain ⟨bl, hbl, e1⟩ := blk?_inv e1 hn
        obtain ⟨vk, hvk, e1⟩ := blk?_inv e1 hn
        obtain ⟨hc, e1⟩ := bif_yes e1 hn
        simp only [Bool.and_eq_true, Bool.not_eq_true'] at hc
        obtain ⟨⟨⟨⟨⟨⟨⟨c1, c2⟩, c3⟩, c4⟩, c5⟩, c6⟩, c7⟩, c8⟩ := hc
        have c1 : i < sl := Nat.blt_eq ▸ c1
        have c2 := Nat.le_of_ble_eq_true c2
        have c3 := Nat.le_of_ble_eq_true c3
        have c4 := Nat.le_of_ble_eq_true c4
        have c5 := Nat.le_of_ble_eq_true c5
        have c8 := Nat.le_of_ble_eq_true c8
        have c7 : vb ≠ b := fun e => by subst e; rw [Nat.beq_refl] at c7; cases c7
        -- what is so of every memory
        have key : ∀ (μ : Mp) (w : World) (args : List Value), Rel μ h w → VRs μ [.slc b o sl cap ex, .int .i64 (.ofNat i), .slc vb vo m vcap vex] args →
            ∃ (p q : Lo) (olds news : List Value) (vc : Nat), μ b = some p ∧ args = [.slice (some ⟨p.blk, p.base + o, none⟩) sl (cap + if ex then 0 else p.ext), .int .i64 i, .slice (some ⟨q.blk, q.base + vo, none⟩) m vc] ∧ BR μ w bl p ∧
              VRs μ (newRow i (Cs.row (sl * 3) o bl.cs) (Cs.row (m * 3) vo vk.cs)) (olds.take (i * 3) ++ (news ++ olds.drop (i * 3))) ∧ w.rangeAt p.blk (p.base + o) olds ∧ (∀ v ∈ olds, v.oneCell' = true) ∧ olds.length = sl * 3 ∧
              w.rangeAt q.blk (q.base + vo) news ∧ (∀ v ∈ news, v.oneCell' = true) ∧ news.length = m * 3 ∧ q.blk ≠ p.blk ∧ p.blk < w.heap.size ∧
              (∃ tA kA tB kB, w.shape? q.blk = some (tA, kA) ∧ w.shape? p.blk = some (tB, kB) ∧ kB ≠ 0 ∧ w.frozen? ⟨q.blk, q.base + vo, none⟩ = false ∧ w.frozen? ⟨q.blk, kA, none⟩ = false) := fun μ w args hrel hv => by
          obtain ⟨x1, x2, x3, rfl, r1, r2, r3⟩ := hv.three
          obtain ⟨p, hp, rfl⟩ := slc_inv r1
          obtain rfl := int_inv r2
          obtain ⟨q, hq, rfl⟩ := slc_inv r3
          have hbr := hrel.br b bl p hbl hp
          have hvr := hrel.br vb vk q hvk hq
          obtain ⟨olds, o1, o2, o3, o4⟩ := row_cells hbr o (sl * 3) c4
          obtain ⟨news, n1, n2, n3, n4⟩ := row_cells hvr vo (m * 3) c5
          have hsh1 := World.shape?_of_cell? (n2 0 _ (List.getElem?_eq_getElem (by omega)))
          have hsh2 := World.shape?_of_cell? (o2 0 _ (List.getElem?_eq_getElem (by omega)))
          obtain ⟨tA, kA, s1, s2, _⟩ := hsh1
          obtain ⟨tB, kB, s3, s4, _⟩ := hsh2
          exact ⟨p, q, olds, news, _, hp, rfl, hbr, newRow_rel i o1 n1, o2, o3, o4, n2, n3, n4, hrel.inj vb b vk bl q p hvk hbl hq hp c7, (hrel.lt b p hp).2,
            tA, kA, tB, kB, s1, s3, by omega, hvr.sb c6 _, hvr.sb c6 _⟩
        have enter : ∀ (args : List Value) (w : World) (K : Value → World → Prop), Calls Tryz.prog 234 ⟨args⟩ w (fun e t => ∃ v, e = .returned v ∧ K v t) → CallWp Tryz.prog 234 ⟨args⟩ w K := fun args w K hK => by
          unfold CallWp
          rw [MuLone.run_callFunc_enter Tryz.func234 (by kernel_rfl) rfl]; exact hK
        -- there is room
        have room : ∀ (p q : Lo) (olds news : List Value) (vc C : Nat) (w : World) (bl : Blk) (μ : Mp), BR μ w bl p → w.there p.blk (p.base + o) ((sl + m) * 3) → w.rangeAt p.blk (p.base + o) olds → (∀ v ∈ olds, v.oneCell' = true) → olds.length = sl * 3 →
            w.rangeAt q.blk (q.base + vo) news → (∀ v ∈ news, v.oneCell' = true) → news.length = m * 3 → q.blk ≠ p.blk →
            (∃ tA kA tB kB, w.shape? q.blk = some (tA, kA) ∧ w.shape? p.blk = some (tB, kB) ∧ kB ≠ 0 ∧ w.frozen? ⟨q.blk, q.base + vo, none⟩ = false ∧ w.frozen? ⟨q.blk, kA, none⟩ = false) → sl + m ≤ C →
            Calls Tryz.prog 234 #[.slice (some ⟨p.blk, p.base + o, none⟩) sl C, .int .i64 i, .slice (some ⟨q.blk, q.base + vo, none⟩) m vc] w fun e u => e = .returned (.slice (some ⟨p.blk, p.base + o, none⟩) (sl + m) C) ∧ Turned p.blk w u ∧
              u.rangeAt p.blk (p.base + o) (olds.take (i * 3) ++ (news ++ olds.drop (i * 3))) ∧ (∀ j, (j < p.base + o ∨ p.base + o + (sl + m) * 3 ≤ j) → u.cell? ⟨p.blk, j, none⟩ = w.cell? ⟨p.blk, j, none⟩) ∧
              (∀ j, (w.cell? ⟨p.blk, j, none⟩).isSome = true → (u.cell? ⟨p.blk, j, none⟩).isSome = true) ∧ (∀ j, u.frozen? ⟨p.blk, j, none⟩ = w.frozen? ⟨p.blk, j, none⟩) := by
          intro p q olds news vc C w bl μ hbr hth o2 o3 o4 n2 n3 n4 hne ⟨tA, kA, tB, kB, s1, s2, s3, s4, s5⟩ hC
          obtain ⟨l1, l2, l3⟩ := app_len o4 c1 n4
          refine (insert_shift p.blk (p.base + o) sl C i q.blk (q.base + vo) m vc olds news w c1 (by omega) hC c3 hne o4 n4 o2 hth n2 o3 n3 tA tB kA kB s1 s2 s3 s4 s5).mono fun e u ⟨he, hu⟩ => ⟨he, ?_, ?_, ?_, ?_, ?_⟩
          · rw [hu]
            exact (((Turned.refl p.blk w).drew.setCells _ _).setCells _ _)
          · rw [hu]
            have := three_tail (w := w.drew) (b := p.blk) (o := p.base + o) (hd := olds.take (i * 3)) (nw := news) (tl := olds.drop (i * 3)) (fun j v hj => by
              rw [List.getElem?_take] at hj
              split at hj
              · exact o2 j v hj
              · cases hj) (there_sub (there_drew hth) 0 _ (by omega))
            rwa [l1, n4, show i * 3 + m * 3 = (i + m) * 3 by omega] at this
          · intro j hj
            rw [hu, World.cell?_setCells_out _ _ _ _ _ (fun _ _ => by dsimp only; omega), World.cell?_setCells_out _ _ _ _ _ (fun _ _ => by dsimp only; omega)]
            rfl
          · intro j hj
            rw [hu]
            exact World.isSome_setCells _ _ _ _ _ (World.isSome_setCells _ _ _ _ _ hj)
          · intro j
            rw [hu, World.frozen?_setCells, World.frozen?_setCells]; rfl
        have rowlen : (newRow i (Cs.row (sl * 3) o bl.cs) (Cs.row (m * 3) vo vk.cs)).length = (sl + m) * 3 ∨ ∀ (μ : Mp) (w : World), ¬ (Rel μ h w ∧ ∃ args, VRs μ [.slc b o sl cap ex, .int .i64 (.ofNat i), .slc vb vo m vcap vex] args) := by
          by_cases hx : ∃ (μ : Mp) (w : World), Rel μ h w ∧ ∃ args, VRs μ [.slc b o sl cap ex, .int .i64 (.ofNat i), .slc vb vo m vcap vex] args
          · obtain ⟨μ, w, hr, args, hv⟩ := hx
            obtain ⟨p, q, olds, news, vc, _, _, _, k1, _, _, k2, _, _, k3, _⟩ := key μ w args hr hv
            exact .inl (by rw [k1.length]; exact (app_len k2 c1 k3).2.2)
          · exact .inr fun μ w hh => hx ⟨μ, w, hh⟩
        rcases bif_or e1 with ⟨d0, e2⟩ | ⟨d0, e2⟩
        · -- the room is known
          have d0 := Nat.le_of_ble_eq_true d0
          obtain ⟨d1, e3⟩ := bif_yes e2 hn
          have d1 := Nat.le_of_ble_eq_true d1
          refine ⟨_, _, e3, fun μ w args hrel hv => ?_⟩
          obtain ⟨p, q, olds, news, vc, hp, rfl, hbr, k1, o2, o3, o4, n2, n3, n4, hne, hlt, hsh⟩ := key μ w args hrel hv
          refine enter _ _ _ ((room p q olds news vc _ w bl μ hbr (hbr.room (by omega)) o2 o3 o4 n2 n3 n4 hne hsh (by omega)).mono fun e u ⟨he, ht, hc, hs, hi, hf⟩ => ⟨_, he, μ, ?_, ?_⟩)
          · have hl := k1.length
            have hl3 := (app_len o4 c1 n4).2.2
            obtain ⟨g1, g2⟩ := Cs.puts_ok (newRow i (Cs.row (sl * 3) o bl.cs) (Cs.row (m * 3) vo vk.cs)) o bl.cs hbr.ok (by omega)
            refine Stp.turn hrel hbl hp ht (hbr.over k1 (fun v hv => ?_) hc (fun j hj => hs j (by omega)) hi hf g1 g2)
            rcases List.mem_append.1 hv with h | h
            · exact o3 v (List.mem_of_mem_take h)
            · rcases List.mem_append.1 h with h | h
              · exact n3 v h
              · exact o3 v (List.mem_of_mem_drop h)
          · exact .slc hp
        · have d0 := ge_of_ble d0
          obtain ⟨d1, e3⟩ := bif_yes e2 hn
          obtain ⟨h', e4, hlt', hh', _⟩ := regrow_ok e3 hn
          refine ⟨_, h', e4, fun μ w args hrel hv => ?_⟩
          obtain ⟨p, q, olds, news, vc, hp, rfl, hbr, k1, o2, o3, o4, n2, n3, n4, hne, hlt, hsh⟩ := key μ w args hrel hv
          have hl := k1.length
          obtain ⟨l1, l2, l3⟩ := app_len o4 c1 n4
          have hone : ∀ v ∈ olds.take (i * 3) ++ (news ++ olds.drop (i * 3)), v.oneCell' = true := fun v hv => by
            rcases List.mem_append.1 hv with h | h
            · exact o3 v (List.mem_of_mem_take h)
            · rcases List.mem_append.1 h with h | h
              · exact n3 v h
              · exact o3 v (List.mem_of_mem_drop h)
          have hid : ∀ (ν : Mp) (g : Hp) (w : World), Rel ν g w → ν g.next = none := fun ν g w r => by
            cases e : ν g.next with
            | none => rfl
            | some n => have := (r.lt _ n e).1; omega
          -- a new row
          have anew : (drop? h b ex bl.gr = h ∨ drop? h b ex bl.gr = h.set b .no) → (cap + if ex then 0 else p.ext) < sl + m →
              CallWp Tryz.prog 234 ⟨[.slice (some ⟨p.blk, p.base + o, none⟩) sl (cap + if ex then 0 else p.ext), .int .i64 i, .slice (some ⟨q.blk, q.base + vo, none⟩) m vc]⟩ w fun u w' => ∃ ν, Stp μ h w ν h' w' ∧ VR ν (.slc (drop? h b ex bl.gr).next 0 (sl + m) (sl + m) false) u := fun hd hC => by
            refine enter _ _ _ ((insert_grow p.blk (p.base + o) sl _ i q.blk (q.base + vo) m vc olds news w c1 (by omega) (by split <;> omega) hC c3 o4 n4 o2 n2 o3 n3).mono fun e u ⟨G, z1, z2, hG, hz1, hz2, he, hu⟩ => ⟨_, he, ?_⟩)
            have base : ∀ (g : Hp), Rel μ g w → g.next < 65536 → Stp μ g w (upd μ g.next ⟨w.heap.size, 0, G - (sl + m)⟩) ⟨Nat.succ g.next, (puts Bo 8 g.next).put (.of (mkBlk 3 true bl.sb (newRow i (Cs.row (sl * 3) o bl.cs) (Cs.row (m * 3) vo vk.cs)))) g.t⟩ u := fun g hg hgn => by
              have hsz : u.heap.size = w.heap.size + 1 := by
                rw [hu, size_setCells]
                show (((w.alloc _).drew.setCells w.heap.size (i * 3) news).drew).heap.size = _
                show ((w.alloc _).drew.setCells w.heap.size (i * 3) news).heap.size = _
                rw [size_setCells]
                show (w.heap.push _).size = _
                rw [Array.size_push]
              obtain ⟨X, hX⟩ : ∃ X, X = (w.alloc (.cells ((olds.take (i * 3)).toArray ++ z1 ++ z2) 343)).drew := ⟨_, rfl⟩
              have hXc : ∀ j, X.cell? ⟨w.heap.size, j, none⟩ = ((olds.take (i * 3)).toArray ++ z1 ++ z2)[j]? := fun j => by
                rw [hX]
                show (w.alloc (.cells ((olds.take (i * 3)).toArray ++ z1 ++ z2) 343)).cell? _ = _
                exact World.cell?_alloc_at _ _ w.heap.size j rfl
              have hXf : ∀ j, X.frozen? ⟨w.heap.size, j, none⟩ = false := fun j => by
                rw [hX]
                show (w.alloc (.cells ((olds.take (i * 3)).toArray ++ z1 ++ z2) 343)).frozen? _ = _
                exact World.frozen?_alloc_at _ _ w.heap.size j rfl
              have hXt : X.there w.heap.size 0 ((sl + m) * 3 + (G - (sl + m)) * 3) := fun j hj => by
                rw [Nat.zero_add]
                refine ⟨?_, hXf j⟩
                rw [hXc, Array.getElem?_eq_getElem (by simp [hz1, hz2, l1]; omega)]; rfl
              rw [← hX] at hu
              refine Stp.anew hg hgn (p := ⟨w.heap.size, 0, G - (sl + m)⟩) (Nat.le_refl _) (by show w.heap.size < _; omega) ?_ (BR.row (k1.mono (le_upd (hid μ g w hg))) hone ?_ ?_ ?_)
              · rw [hu, hX]
                exact ((((Turned.refl w.heap.size w).alloc _).drew.setCells _ _).drew).setCells _ _
              · have := three_mid (w := X) (b := w.heap.size) (o := 0) (hd := olds.take (i * 3)) (nw := news) (tl := olds.drop (i * 3)) (fun j v hj => by
                  rw [Nat.zero_add, hXc]
                  rw [Array.append_assoc, Array.getElem?_append_left (by simpa using (List.getElem?_eq_some_iff.1 hj).1)]
                  simpa using hj) (there_sub hXt 0 _ (by omega))
                rw [hu]
                rwa [l1, n4, Nat.zero_add, Nat.zero_add, show i * 3 + m * 3 = (i + m) * 3 by omega] at this
              · intro j hj
                rw [hl, l3] at hj
                have := hXt j hj
                rw [hu, World.frozen?_setCells]
                refine ⟨World.isSome_setCells _ _ _ _ _ ?_, ?_⟩
                · show ((X.setCells w.heap.size (i * 3) news).cell? _).isSome = true
                  exact World.isSome_setCells _ _ _ _ _ this.1
                · show (X.setCells w.heap.size (i * 3) news).frozen? _ = false
                  rw [World.frozen?_setCells]; exact this.2
              · intro _ j
                rw [hu, World.frozen?_setCells]
                show (X.setCells w.heap.size (i * 3) news).frozen? _ = false
                rw [World.frozen?_setCells]; exact hXf j
            have val : ∀ g : Hp, VR (upd μ g.next ⟨w.heap.size, 0, G - (sl + m)⟩) (.slc g.next 0 (sl + m) (sl + m) false) (.slice (some ⟨w.heap.size, 0, none⟩) (sl + m) G) := fun g => by
              have : VR (upd μ g.next ⟨w.heap.size, 0, G - (sl + m)⟩) (.slc g.next 0 (sl + m) (sl + m) false) _ := .slc (upd_same _ _ _)
              have e5 : sl + m + (G - (sl + m)) = G := by omega
              simpa [e5] using this
            rcases hd with hd | hd
            · rw [hd] at hlt' hh' ⊢
              exact ⟨_, by rw [hh']; exact base h hrel hlt', val h⟩
            · rw [hd] at hlt' hh' ⊢
              have s1 := Stp.kill hrel hp
              exact ⟨_, by rw [hh']; exact s1.trans (base _ s1.rel hlt'), val _⟩
          cases hex : ex with
          | true =>
            subst hex
            exact anew (.inl rfl) (by simp; omega)
          | false =>
            subst hex
            rcases Bool.eq_false_or_eq_true bl.gr |>.symm with hgr | hgr
            · have := hbr.gr hgr
              refine anew (.inl ?_) (by simp; omega)
              unfold drop?; rw [hgr]; rfl
            · have hdrop : drop? h b false bl.gr = h.set b .no := by unfold drop?; rw [hgr]; rfl
              unfold moves at d1
              rw [hgr] at d1
              simp only [Bool.false_or, Bool.not_true, Bool.and_eq_true] at d1
              obtain ⟨⟨g1, g2⟩, _⟩ := d1
              have g1 : bl.es = 3 := Nat.eq_of_beq_eq_true g1
              have g2 : o + cap * 3 = bl.size := Nat.eq_of_beq_eq_true g2
              by_cases hC : sl + m ≤ cap + p.ext
              · have hth : w.there p.blk (p.base + o) ((cap + p.ext) * 3) := hbr.room (by rw [g1]; omega)
                refine enter _ _ _ ((room p q olds news vc _ w bl μ hbr (there_sub hth 0 _ (by omega)) o2 o3 o4 n2 n3 n4 hne hsh (by simpa using hC)).mono fun e u ⟨he, ht, hc, hs, hi, hf⟩ => ⟨_, he, upd μ h.next ⟨p.blk, p.base + o, cap + p.ext - (sl + m)⟩, ?_, ?_⟩)
                · rw [hh', hdrop]
                  refine Stp.move hrel hbl hp (by rw [hdrop] at hlt'; exact hlt') (p := ⟨p.blk, p.base + o, cap + p.ext - (sl + m)⟩) rfl ht (BR.row (k1.mono (le_upd (hid μ h w hrel))) hone hc (fun j hj => ?_) (fun h0 j => by rw [hf]; exact hbr.sb h0 j))
                  rw [hl, l3] at hj
                  have := hth j (by omega)
                  exact ⟨hi _ this.1, by rw [hf]; exact this.2⟩
                · have hv : VR (upd μ h.next ⟨p.blk, p.base + o, cap + p.ext - (sl + m)⟩) (.slc h.next 0 (sl + m) (sl + m) false) _ := .slc (upd_same _ _ _)
                  have e5 : sl + m + (cap + p.ext - (sl + m)) = cap + p.ext := by omega
                  have hnx : (drop? h b false bl.gr).next = h.next := by rw [hdrop]; rfl
                  rw [hnx]; simpa [e5] using hv
              · exact anew (.inr hdrop) (by simp; omega)
      · exact absurd e1.symm hn
  · exact absurd e.symm hn

end Go.Proofs.YtlkbahknmbgjmaaGreat.Ev
