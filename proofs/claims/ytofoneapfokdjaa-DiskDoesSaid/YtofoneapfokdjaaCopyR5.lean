/- The contract of the reference's copy. -/
import Derived.Test.YtofoneapfokdjaaCopy5
import Derived.Test.YtofoneapfokdjaaOrdAny
namespace Go.Proofs.Ytofoneapfokdjaa
set_option linter.unusedSimpArgs false
set_option linter.unusedVariables false
open Go.RowKit
attribute [local go_sem high] run_mx run_mn

theorem strs_one (l : List ByteArray) : ∀ u ∈ strs l, u.oneCell' = true := by
  intro u hu
  obtain ⟨s, _, rfl⟩ := List.mem_map.1 hu
  rfl
theorem wheres_one (l : List (Int × ByteArray)) : ∀ u ∈ wheres l, u.oneCell' = true := by
  intro u hu
  obtain ⟨s, _, rfl⟩ := List.mem_map.1 hu
  rfl
theorem whats_one (l : List (Int × ByteArray)) : ∀ u ∈ whats l, u.oneCell' = true := by
  intro u hu
  obtain ⟨s, _, rfl⟩ := List.mem_map.1 hu
  rfl
theorem copied {w w' : World} {h : Nat} {r : RDsk} {vL vW vX : Value} (hS : Sep w w' (refParts h vL vW vX r.L r.pend r.left)) : CopyOf w w' (fun h => refT h r) (.returned (.pointer (some ⟨h, 0, none⟩))) := by
  obtain ⟨S, h1, h2⟩ := Now.one (Now.refClose hS)
  exact ⟨h, rfl, Sep.base hS, S, h1, fun k hk => (h2 k hk).resolve_left id⟩
set_option maxRecDepth 100000 in
set_option maxHeartbeats 8000000 in
theorem RCopy_any (h : Nat) (r : RDsk) (hr : r.Fits) (w : World) (S : Nat → Prop) (hO : (refT h r).is w S) :
    Calls Try.prog 21 #[.pointer (some ⟨h, 0, none⟩)] w fun e w' => CopyOf w w' (fun h => refT h r) e := by
  obtain ⟨i0, hi0, hz0, hz1, hz2⟩ := info_parts infoInt5
  obtain ⟨j0, hj0, hy0, hy1, hy2⟩ := info_parts infoStr5
  obtain ⟨vL, vW, vX, hN⟩ := (Now.start1 hO).refOpen
  obtain ⟨⟨AL, cL, rfl, rd0⟩, ⟨AW, cW, rfl, rd1⟩, ⟨AX, cX, rfl, rd2⟩⟩ := hN.refRows
  have hbl := Now.blk (pre := []) hN
  have hcell : ∀ w1, Below w.heap.size w.drew w1 → w1.cell? ⟨h, 0, none⟩ = some (.slice AL r.L.length cL) ∧ w1.cell? ⟨h, 1, none⟩ = some (.slice AW r.pend.length cW) ∧ w1.cell? ⟨h, 2, none⟩ = some (.slice AX r.pend.length cX) ∧ w1.cell? ⟨h, 3, none⟩ = some (.int .i64 r.left) := fun w1 h1 => by
    have hb := Blk.below (w := w.drew) hbl h1 hbl.lt
    exact ⟨hb.cell 0, hb.cell 1, hb.cell 2, hb.cell 3⟩
  have hS : Sep w w.drew [Thing.none_, Thing.none_, Thing.none_] := ((Sep.start w).pushNone.pushNone.pushNone).drew
  have n1 : 0 + r.L.length ≤ maxLen := by have := hr.len; unfold maxLen; omega
  have n2 : 0 + r.pend.length ≤ maxLen := by have := hr.pend; unfold maxLen; omega
  have n3 : (0 + r.L.length) * 16 ≤ 140737488355328 := by have := hr.len; omega
  have n4 : (0 + r.pend.length) * 8 ≤ 140737488355328 := by have := hr.pend; omega
  have n5 : (0 + r.pend.length) * 16 ≤ 140737488355328 := by have := hr.pend; omega
  clear hN hO hr
  go_enter Try.func21, Try.ntmps21
  go_wp2_with fail
  have HB : w.heap.size ≤ w.drew.heap.size := Nat.le_refl _
  refine wp_region_takes (KeepB.grow w.heap.size) [1, 2, 3, 4, 7, 8, 9, 10, 13, 14, 15, 16, 18, 19, 20, 21] 9 (by kernel_rfl) (by kernel_rfl) rfl (by kernel_rfl) (by intro _ _ d _ _ h; cases d <;> exact h) ?_
  iterate 16
    (apply wpTakes_take
     · exact rfl
     · intro w1 hR1; have h1 := hR1 HB
       (obtain ⟨c0, c1, c2, c3⟩ := hcell w1 h1)
       go_simp
       first
         | with_reducible exact ⟨rfl, Newer.grow.refl _⟩
     simp only [Act.put, List.setIfInBounds_toArray, List.set_cons_zero, List.set_cons_succ])
  refine wpTakes_done ?_
  clear hcell hbl
  generalize w.drew = wc at hS ⊢
  -- TREE
  refine wpAnyE_fork [0, 6, 12] (by kernel_rfl) (by simp) ?_
  refine List.forall_mem_cons.2 ⟨?_, List.forall_mem_cons.2 ⟨?_, List.forall_mem_cons.2 ⟨?_, List.forall_mem_nil _⟩⟩⟩
  · refine ⟨_, rfl, ?_⟩
    intro w1 h1 K hK
    replace hS := Now.built (pre := []) (Now.below hS h1) 9 1
    go_simp
    refine hK _ _ (fun hB => (Below.refl _ _).alloc hB _) ?_
    clear hK K h1
    generalize w1.alloc (.cells #[] 9) = wc1 at hS ⊢
    generalize w1.heap.size = kb1 at hS ⊢
    clear w1
    refine wpAnyE_fork [5, 6, 12] (by kernel_rfl) (by simp) ?_
    refine List.forall_mem_cons.2 ⟨?_, List.forall_mem_cons.2 ⟨?_, List.forall_mem_cons.2 ⟨?_, List.forall_mem_nil _⟩⟩⟩
    · refine ⟨_, rfl, ?_⟩
      intro w1 h1 K hK
      replace hS := Now.below hS h1
      refine step_append_any w1 rfl _ _ 22 rfl 0 9 j0 _ 1 16 Try.underlying22 hj0 hy0 hy1 hy2 rfl (by decide) _ _ _ rfl (Now.row (pre := []) hS) _ _ r.L.length _ (strs r.L) rfl (rd0.below (Sep.base hS)) (strs_one _) n1 n3 (Nat.zero_le _) ?_
      intro v2 w2 ho hg hn
      rw [Nat.zero_add, List.nil_append] at ho
      obtain ⟨A1, c1, rfl, _⟩ := own_slice ho
      have hB := Sep.grownR (pre := []) hS hg
      replace hS := Now.grown (pre := []) hS ho hg (hn.imp id fun h => ⟨_, Nat.le_refl _, h⟩)
      refine hK _ _ (fun _ => hB) ?_
      clear hK K ho hg hn hB h1
      simp only [Act.put, List.setIfInBounds_toArray, List.set_cons_zero, List.set_cons_succ]
      clear w1
      refine wpAnyE_fork [6, 12] (by kernel_rfl) (by simp) ?_
      refine List.forall_mem_cons.2 ⟨?_, List.forall_mem_cons.2 ⟨?_, List.forall_mem_nil _⟩⟩
      · refine ⟨_, rfl, ?_⟩
        intro w1 h1 K hK
        replace hS := Now.built (pre := [_]) (Now.below hS h1) 3 1
        go_simp
        refine hK _ _ (fun hB => (Below.refl _ _).alloc hB _) ?_
        clear hK K h1
        generalize w1.alloc (.cells #[] 3) = wc3 at hS ⊢
        generalize w1.heap.size = kb2 at hS ⊢
        clear w1
        refine wpAnyE_fork [11, 12] (by kernel_rfl) (by simp) ?_
        refine List.forall_mem_cons.2 ⟨?_, List.forall_mem_cons.2 ⟨?_, List.forall_mem_nil _⟩⟩
        · refine ⟨_, rfl, ?_⟩
          intro w1 h1 K hK
          replace hS := Now.below hS h1
          refine step_append_any w1 rfl _ _ 73 rfl 0 3 i0 _ 1 8 Try.underlying73 hi0 hz0 hz1 hz2 rfl (by decide) _ _ _ rfl (Now.row (pre := [_]) hS) _ _ r.pend.length _ (wheres r.pend) rfl (rd1.below (Sep.base hS)) (wheres_one _) n2 n4 (Nat.zero_le _) ?_
          intro v2 w2 ho hg hn
          rw [Nat.zero_add, List.nil_append] at ho
          obtain ⟨A2, c2, rfl, _⟩ := own_slice ho
          have hB := Sep.grownR (pre := [_]) hS hg
          replace hS := Now.grown (pre := [_]) hS ho hg (hn.imp id fun h => ⟨_, Nat.le_refl _, h⟩)
          refine hK _ _ (fun _ => hB) ?_
          clear hK K ho hg hn hB h1
          simp only [Act.put, List.setIfInBounds_toArray, List.set_cons_zero, List.set_cons_succ]
          clear w1
          refine wpAnyE_fork [12] (by kernel_rfl) (by simp) ?_
          refine List.forall_mem_cons.2 ⟨?_, List.forall_mem_nil _⟩
          · refine ⟨_, rfl, ?_⟩
            intro w1 h1 K hK
            replace hS := Now.built (pre := [_, _]) (Now.below hS h1) 9 1
            go_simp
            refine hK _ _ (fun hB => (Below.refl _ _).alloc hB _) ?_
            clear hK K h1
            generalize w1.alloc (.cells #[] 9) = wc5 at hS ⊢
            generalize w1.heap.size = kb3 at hS ⊢
            clear w1
            refine wpAnyE_fork [17] (by kernel_rfl) (by simp) ?_
            refine List.forall_mem_cons.2 ⟨?_, List.forall_mem_nil _⟩
            · refine ⟨_, rfl, ?_⟩
              intro w1 h1 K hK
              replace hS := Now.below hS h1
              refine step_append_any w1 rfl _ _ 22 rfl 0 9 j0 _ 1 16 Try.underlying22 hj0 hy0 hy1 hy2 rfl (by decide) _ _ _ rfl (Now.row (pre := [_, _]) hS) _ _ r.pend.length _ (whats r.pend) rfl (rd2.below (Sep.base hS)) (whats_one _) n2 n5 (Nat.zero_le _) ?_
              intro v2 w2 ho hg hn
              rw [Nat.zero_add, List.nil_append] at ho
              obtain ⟨A3, c3, rfl, _⟩ := own_slice ho
              have hB := Sep.grownR (pre := [_, _]) hS hg
              replace hS := Now.grown (pre := [_, _]) hS ho hg (hn.imp id fun h => ⟨_, Nat.le_refl _, h⟩)
              refine hK _ _ (fun _ => hB) ?_
              clear hK K ho hg hn hB h1
              simp only [Act.put, List.setIfInBounds_toArray, List.set_cons_zero, List.set_cons_succ]
              clear w1
              refine wpAnyE_fork [22] (by kernel_rfl) (by simp) ?_
              refine List.forall_mem_cons.2 ⟨?_, List.forall_mem_nil _⟩
              refine ⟨_, rfl, ?_⟩
              intro w1 h1 K hK
              replace hS := Now.below hS h1
              go_simp
              refine hK _ _ (fun _ => Below.refl _ _) ?_
              clear hK K h1
              refine wpAnyE_fork [23] (by kernel_rfl) (by simp) ?_
              refine List.forall_mem_cons.2 ⟨?_, List.forall_mem_nil _⟩
              refine ⟨_, rfl, ?_⟩
              intro w1 h1 K hK
              replace hS := Now.pushCells (Now.below hS h1) 75 #[.slice A1 r.L.length c1, .slice A2 r.pend.length c2, .slice A3 r.pend.length c3, .int .i64 r.left]
              go_simp
              refine hK _ _ (fun hB => (Below.refl _ _).alloc hB _) ?_
              clear hK K h1
              generalize w1.heap.size = hh at hS ⊢
              refine wpAnyE_fork [24] (by kernel_rfl) (by simp) ?_
              refine List.forall_mem_cons.2 ⟨?_, List.forall_mem_nil _⟩
              refine ⟨_, rfl, ?_⟩
              intro w1 h1 K hK
              replace hS := Now.below hS h1
              go_simp
              refine hK _ _ (fun _ => Below.refl _ _) ?_
              clear hK K h1
              refine wpAnyE_end (by kernel_rfl) fun w5 h5 => ?_
              replace hS := Lib.hid (Now.below hS h5)
              go_wp2_with fail
              go_ret
              exact copied hS.out
        · refine ⟨_, rfl, ?_⟩
          intro w1 h1 K hK
          replace hS := Now.built (pre := [_, _]) (Now.below hS h1) 9 1
          go_simp
          refine hK _ _ (fun hB => (Below.refl _ _).alloc hB _) ?_
          clear hK K h1
          generalize w1.alloc (.cells #[] 9) = wc4 at hS ⊢
          generalize w1.heap.size = kb3 at hS ⊢
          clear w1
          refine wpAnyE_fork [11] (by kernel_rfl) (by simp) ?_
          refine List.forall_mem_cons.2 ⟨?_, List.forall_mem_nil _⟩
          · refine ⟨_, rfl, ?_⟩
            intro w1 h1 K hK
            replace hS := Now.below hS h1
            refine step_append_any w1 rfl _ _ 73 rfl 0 3 i0 _ 1 8 Try.underlying73 hi0 hz0 hz1 hz2 rfl (by decide) _ _ _ rfl (Now.row (pre := [_]) hS) _ _ r.pend.length _ (wheres r.pend) rfl (rd1.below (Sep.base hS)) (wheres_one _) n2 n4 (Nat.zero_le _) ?_
            intro v2 w2 ho hg hn
            rw [Nat.zero_add, List.nil_append] at ho
            obtain ⟨A2, c2, rfl, _⟩ := own_slice ho
            have hB := Sep.grownR (pre := [_]) hS hg
            replace hS := Now.grown (pre := [_]) hS ho hg (hn.imp id fun h => ⟨_, Nat.le_refl _, h⟩)
            refine hK _ _ (fun _ => hB) ?_
            clear hK K ho hg hn hB h1
            simp only [Act.put, List.setIfInBounds_toArray, List.set_cons_zero, List.set_cons_succ]
            clear w1
            refine wpAnyE_fork [17] (by kernel_rfl) (by simp) ?_
            refine List.forall_mem_cons.2 ⟨?_, List.forall_mem_nil _⟩
            · refine ⟨_, rfl, ?_⟩
              intro w1 h1 K hK
              replace hS := Now.below hS h1
              refine step_append_any w1 rfl _ _ 22 rfl 0 9 j0 _ 1 16 Try.underlying22 hj0 hy0 hy1 hy2 rfl (by decide) _ _ _ rfl (Now.row (pre := [_, _]) hS) _ _ r.pend.length _ (whats r.pend) rfl (rd2.below (Sep.base hS)) (whats_one _) n2 n5 (Nat.zero_le _) ?_
              intro v2 w2 ho hg hn
              rw [Nat.zero_add, List.nil_append] at ho
              obtain ⟨A3, c3, rfl, _⟩ := own_slice ho
              have hB := Sep.grownR (pre := [_, _]) hS hg
              replace hS := Now.grown (pre := [_, _]) hS ho hg (hn.imp id fun h => ⟨_, Nat.le_refl _, h⟩)
              refine hK _ _ (fun _ => hB) ?_
              clear hK K ho hg hn hB h1
              simp only [Act.put, List.setIfInBounds_toArray, List.set_cons_zero, List.set_cons_succ]
              clear w1
              refine wpAnyE_fork [22] (by kernel_rfl) (by simp) ?_
              refine List.forall_mem_cons.2 ⟨?_, List.forall_mem_nil _⟩
              refine ⟨_, rfl, ?_⟩
              intro w1 h1 K hK
              replace hS := Now.below hS h1
              go_simp
              refine hK _ _ (fun _ => Below.refl _ _) ?_
              clear hK K h1
              refine wpAnyE_fork [23] (by kernel_rfl) (by simp) ?_
              refine List.forall_mem_cons.2 ⟨?_, List.forall_mem_nil _⟩
              refine ⟨_, rfl, ?_⟩
              intro w1 h1 K hK
              replace hS := Now.pushCells (Now.below hS h1) 75 #[.slice A1 r.L.length c1, .slice A2 r.pend.length c2, .slice A3 r.pend.length c3, .int .i64 r.left]
              go_simp
              refine hK _ _ (fun hB => (Below.refl _ _).alloc hB _) ?_
              clear hK K h1
              generalize w1.heap.size = hh at hS ⊢
              refine wpAnyE_fork [24] (by kernel_rfl) (by simp) ?_
              refine List.forall_mem_cons.2 ⟨?_, List.forall_mem_nil _⟩
              refine ⟨_, rfl, ?_⟩
              intro w1 h1 K hK
              replace hS := Now.below hS h1
              go_simp
              refine hK _ _ (fun _ => Below.refl _ _) ?_
              clear hK K h1
              refine wpAnyE_end (by kernel_rfl) fun w5 h5 => ?_
              replace hS := Lib.hid (Now.below hS h5)
              go_wp2_with fail
              go_ret
              exact copied hS.out
      · refine ⟨_, rfl, ?_⟩
        intro w1 h1 K hK
        replace hS := Now.built (pre := [_, _]) (Now.below hS h1) 9 1
        go_simp
        refine hK _ _ (fun hB => (Below.refl _ _).alloc hB _) ?_
        clear hK K h1
        generalize w1.alloc (.cells #[] 9) = wc3 at hS ⊢
        generalize w1.heap.size = kb3 at hS ⊢
        clear w1
        refine wpAnyE_fork [6] (by kernel_rfl) (by simp) ?_
        refine List.forall_mem_cons.2 ⟨?_, List.forall_mem_nil _⟩
        · refine ⟨_, rfl, ?_⟩
          intro w1 h1 K hK
          replace hS := Now.built (pre := [_]) (Now.below hS h1) 3 1
          go_simp
          refine hK _ _ (fun hB => (Below.refl _ _).alloc hB _) ?_
          clear hK K h1
          generalize w1.alloc (.cells #[] 3) = wc4 at hS ⊢
          generalize w1.heap.size = kb2 at hS ⊢
          clear w1
          refine wpAnyE_fork [11] (by kernel_rfl) (by simp) ?_
          refine List.forall_mem_cons.2 ⟨?_, List.forall_mem_nil _⟩
          · refine ⟨_, rfl, ?_⟩
            intro w1 h1 K hK
            replace hS := Now.below hS h1
            refine step_append_any w1 rfl _ _ 73 rfl 0 3 i0 _ 1 8 Try.underlying73 hi0 hz0 hz1 hz2 rfl (by decide) _ _ _ rfl (Now.row (pre := [_]) hS) _ _ r.pend.length _ (wheres r.pend) rfl (rd1.below (Sep.base hS)) (wheres_one _) n2 n4 (Nat.zero_le _) ?_
            intro v2 w2 ho hg hn
            rw [Nat.zero_add, List.nil_append] at ho
            obtain ⟨A2, c2, rfl, _⟩ := own_slice ho
            have hB := Sep.grownR (pre := [_]) hS hg
            replace hS := Now.grown (pre := [_]) hS ho hg (hn.imp id fun h => ⟨_, Nat.le_refl _, h⟩)
            refine hK _ _ (fun _ => hB) ?_
            clear hK K ho hg hn hB h1
            simp only [Act.put, List.setIfInBounds_toArray, List.set_cons_zero, List.set_cons_succ]
            clear w1
            refine wpAnyE_fork [17] (by kernel_rfl) (by simp) ?_
            refine List.forall_mem_cons.2 ⟨?_, List.forall_mem_nil _⟩
            · refine ⟨_, rfl, ?_⟩
              intro w1 h1 K hK
              replace hS := Now.below hS h1
              refine step_append_any w1 rfl _ _ 22 rfl 0 9 j0 _ 1 16 Try.underlying22 hj0 hy0 hy1 hy2 rfl (by decide) _ _ _ rfl (Now.row (pre := [_, _]) hS) _ _ r.pend.length _ (whats r.pend) rfl (rd2.below (Sep.base hS)) (whats_one _) n2 n5 (Nat.zero_le _) ?_
              intro v2 w2 ho hg hn
              rw [Nat.zero_add, List.nil_append] at ho
              obtain ⟨A3, c3, rfl, _⟩ := own_slice ho
              have hB := Sep.grownR (pre := [_, _]) hS hg
              replace hS := Now.grown (pre := [_, _]) hS ho hg (hn.imp id fun h => ⟨_, Nat.le_refl _, h⟩)
              refine hK _ _ (fun _ => hB) ?_
              clear hK K ho hg hn hB h1
              simp only [Act.put, List.setIfInBounds_toArray, List.set_cons_zero, List.set_cons_succ]
              clear w1
              refine wpAnyE_fork [22] (by kernel_rfl) (by simp) ?_
              refine List.forall_mem_cons.2 ⟨?_, List.forall_mem_nil _⟩
              refine ⟨_, rfl, ?_⟩
              intro w1 h1 K hK
              replace hS := Now.below hS h1
              go_simp
              refine hK _ _ (fun _ => Below.refl _ _) ?_
              clear hK K h1
              refine wpAnyE_fork [23] (by kernel_rfl) (by simp) ?_
              refine List.forall_mem_cons.2 ⟨?_, List.forall_mem_nil _⟩
              refine ⟨_, rfl, ?_⟩
              intro w1 h1 K hK
              replace hS := Now.pushCells (Now.below hS h1) 75 #[.slice A1 r.L.length c1, .slice A2 r.pend.length c2, .slice A3 r.pend.length c3, .int .i64 r.left]
              go_simp
              refine hK _ _ (fun hB => (Below.refl _ _).alloc hB _) ?_
              clear hK K h1
              generalize w1.heap.size = hh at hS ⊢
              refine wpAnyE_fork [24] (by kernel_rfl) (by simp) ?_
              refine List.forall_mem_cons.2 ⟨?_, List.forall_mem_nil _⟩
              refine ⟨_, rfl, ?_⟩
              intro w1 h1 K hK
              replace hS := Now.below hS h1
              go_simp
              refine hK _ _ (fun _ => Below.refl _ _) ?_
              clear hK K h1
              refine wpAnyE_end (by kernel_rfl) fun w5 h5 => ?_
              replace hS := Lib.hid (Now.below hS h5)
              go_wp2_with fail
              go_ret
              exact copied hS.out
    · refine ⟨_, rfl, ?_⟩
      intro w1 h1 K hK
      replace hS := Now.built (pre := [_]) (Now.below hS h1) 3 1
      go_simp
      refine hK _ _ (fun hB => (Below.refl _ _).alloc hB _) ?_
      clear hK K h1
      generalize w1.alloc (.cells #[] 3) = wc2 at hS ⊢
      generalize w1.heap.size = kb2 at hS ⊢
      clear w1
      refine wpAnyE_fork [5, 12] (by kernel_rfl) (by simp) ?_
      refine List.forall_mem_cons.2 ⟨?_, List.forall_mem_cons.2 ⟨?_, List.forall_mem_nil _⟩⟩
      · refine ⟨_, rfl, ?_⟩
        intro w1 h1 K hK
        replace hS := Now.below hS h1
        refine step_append_any w1 rfl _ _ 22 rfl 0 9 j0 _ 1 16 Try.underlying22 hj0 hy0 hy1 hy2 rfl (by decide) _ _ _ rfl (Now.row (pre := []) hS) _ _ r.L.length _ (strs r.L) rfl (rd0.below (Sep.base hS)) (strs_one _) n1 n3 (Nat.zero_le _) ?_
        intro v2 w2 ho hg hn
        rw [Nat.zero_add, List.nil_append] at ho
        obtain ⟨A1, c1, rfl, _⟩ := own_slice ho
        have hB := Sep.grownR (pre := []) hS hg
        replace hS := Now.grown (pre := []) hS ho hg (hn.imp id fun h => ⟨_, Nat.le_refl _, h⟩)
        refine hK _ _ (fun _ => hB) ?_
        clear hK K ho hg hn hB h1
        simp only [Act.put, List.setIfInBounds_toArray, List.set_cons_zero, List.set_cons_succ]
        clear w1
        refine wpAnyE_fork [11, 12] (by kernel_rfl) (by simp) ?_
        refine List.forall_mem_cons.2 ⟨?_, List.forall_mem_cons.2 ⟨?_, List.forall_mem_nil _⟩⟩
        · refine ⟨_, rfl, ?_⟩
          intro w1 h1 K hK
          replace hS := Now.below hS h1
          refine step_append_any w1 rfl _ _ 73 rfl 0 3 i0 _ 1 8 Try.underlying73 hi0 hz0 hz1 hz2 rfl (by decide) _ _ _ rfl (Now.row (pre := [_]) hS) _ _ r.pend.length _ (wheres r.pend) rfl (rd1.below (Sep.base hS)) (wheres_one _) n2 n4 (Nat.zero_le _) ?_
          intro v2 w2 ho hg hn
          rw [Nat.zero_add, List.nil_append] at ho
          obtain ⟨A2, c2, rfl, _⟩ := own_slice ho
          have hB := Sep.grownR (pre := [_]) hS hg
          replace hS := Now.grown (pre := [_]) hS ho hg (hn.imp id fun h => ⟨_, Nat.le_refl _, h⟩)
          refine hK _ _ (fun _ => hB) ?_
          clear hK K ho hg hn hB h1
          simp only [Act.put, List.setIfInBounds_toArray, List.set_cons_zero, List.set_cons_succ]
          clear w1
          refine wpAnyE_fork [12] (by kernel_rfl) (by simp) ?_
          refine List.forall_mem_cons.2 ⟨?_, List.forall_mem_nil _⟩
          · refine ⟨_, rfl, ?_⟩
            intro w1 h1 K hK
            replace hS := Now.built (pre := [_, _]) (Now.below hS h1) 9 1
            go_simp
            refine hK _ _ (fun hB => (Below.refl _ _).alloc hB _) ?_
            clear hK K h1
            generalize w1.alloc (.cells #[] 9) = wc5 at hS ⊢
            generalize w1.heap.size = kb3 at hS ⊢
            clear w1
            refine wpAnyE_fork [17] (by kernel_rfl) (by simp) ?_
            refine List.forall_mem_cons.2 ⟨?_, List.forall_mem_nil _⟩
            · refine ⟨_, rfl, ?_⟩
              intro w1 h1 K hK
              replace hS := Now.below hS h1
              refine step_append_any w1 rfl _ _ 22 rfl 0 9 j0 _ 1 16 Try.underlying22 hj0 hy0 hy1 hy2 rfl (by decide) _ _ _ rfl (Now.row (pre := [_, _]) hS) _ _ r.pend.length _ (whats r.pend) rfl (rd2.below (Sep.base hS)) (whats_one _) n2 n5 (Nat.zero_le _) ?_
              intro v2 w2 ho hg hn
              rw [Nat.zero_add, List.nil_append] at ho
              obtain ⟨A3, c3, rfl, _⟩ := own_slice ho
              have hB := Sep.grownR (pre := [_, _]) hS hg
              replace hS := Now.grown (pre := [_, _]) hS ho hg (hn.imp id fun h => ⟨_, Nat.le_refl _, h⟩)
              refine hK _ _ (fun _ => hB) ?_
              clear hK K ho hg hn hB h1
              simp only [Act.put, List.setIfInBounds_toArray, List.set_cons_zero, List.set_cons_succ]
              clear w1
              refine wpAnyE_fork [22] (by kernel_rfl) (by simp) ?_
              refine List.forall_mem_cons.2 ⟨?_, List.forall_mem_nil _⟩
              refine ⟨_, rfl, ?_⟩
              intro w1 h1 K hK
              replace hS := Now.below hS h1
              go_simp
              refine hK _ _ (fun _ => Below.refl _ _) ?_
              clear hK K h1
              refine wpAnyE_fork [23] (by kernel_rfl) (by simp) ?_
              refine List.forall_mem_cons.2 ⟨?_, List.forall_mem_nil _⟩
              refine ⟨_, rfl, ?_⟩
              intro w1 h1 K hK
              replace hS := Now.pushCells (Now.below hS h1) 75 #[.slice A1 r.L.length c1, .slice A2 r.pend.length c2, .slice A3 r.pend.length c3, .int .i64 r.left]
              go_simp
              refine hK _ _ (fun hB => (Below.refl _ _).alloc hB _) ?_
              clear hK K h1
              generalize w1.heap.size = hh at hS ⊢
              refine wpAnyE_fork [24] (by kernel_rfl) (by simp) ?_
              refine List.forall_mem_cons.2 ⟨?_, List.forall_mem_nil _⟩
              refine ⟨_, rfl, ?_⟩
              intro w1 h1 K hK
              replace hS := Now.below hS h1
              go_simp
              refine hK _ _ (fun _ => Below.refl _ _) ?_
              clear hK K h1
              refine wpAnyE_end (by kernel_rfl) fun w5 h5 => ?_
              replace hS := Lib.hid (Now.below hS h5)
              go_wp2_with fail
              go_ret
              exact copied hS.out
        · refine ⟨_, rfl, ?_⟩
          intro w1 h1 K hK
          replace hS := Now.built (pre := [_, _]) (Now.below hS h1) 9 1
          go_simp
          refine hK _ _ (fun hB => (Below.refl _ _).alloc hB _) ?_
          clear hK K h1
          generalize w1.alloc (.cells #[] 9) = wc4 at hS ⊢
          generalize w1.heap.size = kb3 at hS ⊢
          clear w1
          refine wpAnyE_fork [11] (by kernel_rfl) (by simp) ?_
          refine List.forall_mem_cons.2 ⟨?_, List.forall_mem_nil _⟩
          · refine ⟨_, rfl, ?_⟩
            intro w1 h1 K hK
            replace hS := Now.below hS h1
            refine step_append_any w1 rfl _ _ 73 rfl 0 3 i0 _ 1 8 Try.underlying73 hi0 hz0 hz1 hz2 rfl (by decide) _ _ _ rfl (Now.row (pre := [_]) hS) _ _ r.pend.length _ (wheres r.pend) rfl (rd1.below (Sep.base hS)) (wheres_one _) n2 n4 (Nat.zero_le _) ?_
            intro v2 w2 ho hg hn
            rw [Nat.zero_add, List.nil_append] at ho
            obtain ⟨A2, c2, rfl, _⟩ := own_slice ho
            have hB := Sep.grownR (pre := [_]) hS hg
            replace hS := Now.grown (pre := [_]) hS ho hg (hn.imp id fun h => ⟨_, Nat.le_refl _, h⟩)
            refine hK _ _ (fun _ => hB) ?_
            clear hK K ho hg hn hB h1
            simp only [Act.put, List.setIfInBounds_toArray, List.set_cons_zero, List.set_cons_succ]
            clear w1
            refine wpAnyE_fork [17] (by kernel_rfl) (by simp) ?_
            refine List.forall_mem_cons.2 ⟨?_, List.forall_mem_nil _⟩
            · refine ⟨_, rfl, ?_⟩
              intro w1 h1 K hK
              replace hS := Now.below hS h1
              refine step_append_any w1 rfl _ _ 22 rfl 0 9 j0 _ 1 16 Try.underlying22 hj0 hy0 hy1 hy2 rfl (by decide) _ _ _ rfl (Now.row (pre := [_, _]) hS) _ _ r.pend.length _ (whats r.pend) rfl (rd2.below (Sep.base hS)) (whats_one _) n2 n5 (Nat.zero_le _) ?_
              intro v2 w2 ho hg hn
              rw [Nat.zero_add, List.nil_append] at ho
              obtain ⟨A3, c3, rfl, _⟩ := own_slice ho
              have hB := Sep.grownR (pre := [_, _]) hS hg
              replace hS := Now.grown (pre := [_, _]) hS ho hg (hn.imp id fun h => ⟨_, Nat.le_refl _, h⟩)
              refine hK _ _ (fun _ => hB) ?_
              clear hK K ho hg hn hB h1
              simp only [Act.put, List.setIfInBounds_toArray, List.set_cons_zero, List.set_cons_succ]
              clear w1
              refine wpAnyE_fork [22] (by kernel_rfl) (by simp) ?_
              refine List.forall_mem_cons.2 ⟨?_, List.forall_mem_nil _⟩
              refine ⟨_, rfl, ?_⟩
              intro w1 h1 K hK
              replace hS := Now.below hS h1
              go_simp
              refine hK _ _ (fun _ => Below.refl _ _) ?_
              clear hK K h1
              refine wpAnyE_fork [23] (by kernel_rfl) (by simp) ?_
              refine List.forall_mem_cons.2 ⟨?_, List.forall_mem_nil _⟩
              refine ⟨_, rfl, ?_⟩
              intro w1 h1 K hK
              replace hS := Now.pushCells (Now.below hS h1) 75 #[.slice A1 r.L.length c1, .slice A2 r.pend.length c2, .slice A3 r.pend.length c3, .int .i64 r.left]
              go_simp
              refine hK _ _ (fun hB => (Below.refl _ _).alloc hB _) ?_
              clear hK K h1
              generalize w1.heap.size = hh at hS ⊢
              refine wpAnyE_fork [24] (by kernel_rfl) (by simp) ?_
              refine List.forall_mem_cons.2 ⟨?_, List.forall_mem_nil _⟩
              refine ⟨_, rfl, ?_⟩
              intro w1 h1 K hK
              replace hS := Now.below hS h1
              go_simp
              refine hK _ _ (fun _ => Below.refl _ _) ?_
              clear hK K h1
              refine wpAnyE_end (by kernel_rfl) fun w5 h5 => ?_
              replace hS := Lib.hid (Now.below hS h5)
              go_wp2_with fail
              go_ret
              exact copied hS.out
      · refine ⟨_, rfl, ?_⟩
        intro w1 h1 K hK
        replace hS := Now.built (pre := [_, _]) (Now.below hS h1) 9 1
        go_simp
        refine hK _ _ (fun hB => (Below.refl _ _).alloc hB _) ?_
        clear hK K h1
        generalize w1.alloc (.cells #[] 9) = wc3 at hS ⊢
        generalize w1.heap.size = kb3 at hS ⊢
        clear w1
        refine wpAnyE_fork [5] (by kernel_rfl) (by simp) ?_
        refine List.forall_mem_cons.2 ⟨?_, List.forall_mem_nil _⟩
        · refine ⟨_, rfl, ?_⟩
          intro w1 h1 K hK
          replace hS := Now.below hS h1
          refine step_append_any w1 rfl _ _ 22 rfl 0 9 j0 _ 1 16 Try.underlying22 hj0 hy0 hy1 hy2 rfl (by decide) _ _ _ rfl (Now.row (pre := []) hS) _ _ r.L.length _ (strs r.L) rfl (rd0.below (Sep.base hS)) (strs_one _) n1 n3 (Nat.zero_le _) ?_
          intro v2 w2 ho hg hn
          rw [Nat.zero_add, List.nil_append] at ho
          obtain ⟨A1, c1, rfl, _⟩ := own_slice ho
          have hB := Sep.grownR (pre := []) hS hg
          replace hS := Now.grown (pre := []) hS ho hg (hn.imp id fun h => ⟨_, Nat.le_refl _, h⟩)
          refine hK _ _ (fun _ => hB) ?_
          clear hK K ho hg hn hB h1
          simp only [Act.put, List.setIfInBounds_toArray, List.set_cons_zero, List.set_cons_succ]
          clear w1
          refine wpAnyE_fork [11] (by kernel_rfl) (by simp) ?_
          refine List.forall_mem_cons.2 ⟨?_, List.forall_mem_nil _⟩
          · refine ⟨_, rfl, ?_⟩
            intro w1 h1 K hK
            replace hS := Now.below hS h1
            refine step_append_any w1 rfl _ _ 73 rfl 0 3 i0 _ 1 8 Try.underlying73 hi0 hz0 hz1 hz2 rfl (by decide) _ _ _ rfl (Now.row (pre := [_]) hS) _ _ r.pend.length _ (wheres r.pend) rfl (rd1.below (Sep.base hS)) (wheres_one _) n2 n4 (Nat.zero_le _) ?_
            intro v2 w2 ho hg hn
            rw [Nat.zero_add, List.nil_append] at ho
            obtain ⟨A2, c2, rfl, _⟩ := own_slice ho
            have hB := Sep.grownR (pre := [_]) hS hg
            replace hS := Now.grown (pre := [_]) hS ho hg (hn.imp id fun h => ⟨_, Nat.le_refl _, h⟩)
            refine hK _ _ (fun _ => hB) ?_
            clear hK K ho hg hn hB h1
            simp only [Act.put, List.setIfInBounds_toArray, List.set_cons_zero, List.set_cons_succ]
            clear w1
            refine wpAnyE_fork [17] (by kernel_rfl) (by simp) ?_
            refine List.forall_mem_cons.2 ⟨?_, List.forall_mem_nil _⟩
            · refine ⟨_, rfl, ?_⟩
              intro w1 h1 K hK
              replace hS := Now.below hS h1
              refine step_append_any w1 rfl _ _ 22 rfl 0 9 j0 _ 1 16 Try.underlying22 hj0 hy0 hy1 hy2 rfl (by decide) _ _ _ rfl (Now.row (pre := [_, _]) hS) _ _ r.pend.length _ (whats r.pend) rfl (rd2.below (Sep.base hS)) (whats_one _) n2 n5 (Nat.zero_le _) ?_
              intro v2 w2 ho hg hn
              rw [Nat.zero_add, List.nil_append] at ho
              obtain ⟨A3, c3, rfl, _⟩ := own_slice ho
              have hB := Sep.grownR (pre := [_, _]) hS hg
              replace hS := Now.grown (pre := [_, _]) hS ho hg (hn.imp id fun h => ⟨_, Nat.le_refl _, h⟩)
              refine hK _ _ (fun _ => hB) ?_
              clear hK K ho hg hn hB h1
              simp only [Act.put, List.setIfInBounds_toArray, List.set_cons_zero, List.set_cons_succ]
              clear w1
              refine wpAnyE_fork [22] (by kernel_rfl) (by simp) ?_
              refine List.forall_mem_cons.2 ⟨?_, List.forall_mem_nil _⟩
              refine ⟨_, rfl, ?_⟩
              intro w1 h1 K hK
              replace hS := Now.below hS h1
              go_simp
              refine hK _ _ (fun _ => Below.refl _ _) ?_
              clear hK K h1
              refine wpAnyE_fork [23] (by kernel_rfl) (by simp) ?_
              refine List.forall_mem_cons.2 ⟨?_, List.forall_mem_nil _⟩
              refine ⟨_, rfl, ?_⟩
              intro w1 h1 K hK
              replace hS := Now.pushCells (Now.below hS h1) 75 #[.slice A1 r.L.length c1, .slice A2 r.pend.length c2, .slice A3 r.pend.length c3, .int .i64 r.left]
              go_simp
              refine hK _ _ (fun hB => (Below.refl _ _).alloc hB _) ?_
              clear hK K h1
              generalize w1.heap.size = hh at hS ⊢
              refine wpAnyE_fork [24] (by kernel_rfl) (by simp) ?_
              refine List.forall_mem_cons.2 ⟨?_, List.forall_mem_nil _⟩
              refine ⟨_, rfl, ?_⟩
              intro w1 h1 K hK
              replace hS := Now.below hS h1
              go_simp
              refine hK _ _ (fun _ => Below.refl _ _) ?_
              clear hK K h1
              refine wpAnyE_end (by kernel_rfl) fun w5 h5 => ?_
              replace hS := Lib.hid (Now.below hS h5)
              go_wp2_with fail
              go_ret
              exact copied hS.out
    · refine ⟨_, rfl, ?_⟩
      intro w1 h1 K hK
      replace hS := Now.built (pre := [_, _]) (Now.below hS h1) 9 1
      go_simp
      refine hK _ _ (fun hB => (Below.refl _ _).alloc hB _) ?_
      clear hK K h1
      generalize w1.alloc (.cells #[] 9) = wc2 at hS ⊢
      generalize w1.heap.size = kb3 at hS ⊢
      clear w1
      refine wpAnyE_fork [5, 6] (by kernel_rfl) (by simp) ?_
      refine List.forall_mem_cons.2 ⟨?_, List.forall_mem_cons.2 ⟨?_, List.forall_mem_nil _⟩⟩
      · refine ⟨_, rfl, ?_⟩
        intro w1 h1 K hK
        replace hS := Now.below hS h1
        refine step_append_any w1 rfl _ _ 22 rfl 0 9 j0 _ 1 16 Try.underlying22 hj0 hy0 hy1 hy2 rfl (by decide) _ _ _ rfl (Now.row (pre := []) hS) _ _ r.L.length _ (strs r.L) rfl (rd0.below (Sep.base hS)) (strs_one _) n1 n3 (Nat.zero_le _) ?_
        intro v2 w2 ho hg hn
        rw [Nat.zero_add, List.nil_append] at ho
        obtain ⟨A1, c1, rfl, _⟩ := own_slice ho
        have hB := Sep.grownR (pre := []) hS hg
        replace hS := Now.grown (pre := []) hS ho hg (hn.imp id fun h => ⟨_, Nat.le_refl _, h⟩)
        refine hK _ _ (fun _ => hB) ?_
        clear hK K ho hg hn hB h1
        simp only [Act.put, List.setIfInBounds_toArray, List.set_cons_zero, List.set_cons_succ]
        clear w1
        refine wpAnyE_fork [6] (by kernel_rfl) (by simp) ?_
        refine List.forall_mem_cons.2 ⟨?_, List.forall_mem_nil _⟩
        · refine ⟨_, rfl, ?_⟩
          intro w1 h1 K hK
          replace hS := Now.built (pre := [_]) (Now.below hS h1) 3 1
          go_simp
          refine hK _ _ (fun hB => (Below.refl _ _).alloc hB _) ?_
          clear hK K h1
          generalize w1.alloc (.cells #[] 3) = wc4 at hS ⊢
          generalize w1.heap.size = kb2 at hS ⊢
          clear w1
          refine wpAnyE_fork [11] (by kernel_rfl) (by simp) ?_
          refine List.forall_mem_cons.2 ⟨?_, List.forall_mem_nil _⟩
          · refine ⟨_, rfl, ?_⟩
            intro w1 h1 K hK
            replace hS := Now.below hS h1
            refine step_append_any w1 rfl _ _ 73 rfl 0 3 i0 _ 1 8 Try.underlying73 hi0 hz0 hz1 hz2 rfl (by decide) _ _ _ rfl (Now.row (pre := [_]) hS) _ _ r.pend.length _ (wheres r.pend) rfl (rd1.below (Sep.base hS)) (wheres_one _) n2 n4 (Nat.zero_le _) ?_
            intro v2 w2 ho hg hn
            rw [Nat.zero_add, List.nil_append] at ho
            obtain ⟨A2, c2, rfl, _⟩ := own_slice ho
            have hB := Sep.grownR (pre := [_]) hS hg
            replace hS := Now.grown (pre := [_]) hS ho hg (hn.imp id fun h => ⟨_, Nat.le_refl _, h⟩)
            refine hK _ _ (fun _ => hB) ?_
            clear hK K ho hg hn hB h1
            simp only [Act.put, List.setIfInBounds_toArray, List.set_cons_zero, List.set_cons_succ]
            clear w1
            refine wpAnyE_fork [17] (by kernel_rfl) (by simp) ?_
            refine List.forall_mem_cons.2 ⟨?_, List.forall_mem_nil _⟩
            · refine ⟨_, rfl, ?_⟩
              intro w1 h1 K hK
              replace hS := Now.below hS h1
              refine step_append_any w1 rfl _ _ 22 rfl 0 9 j0 _ 1 16 Try.underlying22 hj0 hy0 hy1 hy2 rfl (by decide) _ _ _ rfl (Now.row (pre := [_, _]) hS) _ _ r.pend.length _ (whats r.pend) rfl (rd2.below (Sep.base hS)) (whats_one _) n2 n5 (Nat.zero_le _) ?_
              intro v2 w2 ho hg hn
              rw [Nat.zero_add, List.nil_append] at ho
              obtain ⟨A3, c3, rfl, _⟩ := own_slice ho
              have hB := Sep.grownR (pre := [_, _]) hS hg
              replace hS := Now.grown (pre := [_, _]) hS ho hg (hn.imp id fun h => ⟨_, Nat.le_refl _, h⟩)
              refine hK _ _ (fun _ => hB) ?_
              clear hK K ho hg hn hB h1
              simp only [Act.put, List.setIfInBounds_toArray, List.set_cons_zero, List.set_cons_succ]
              clear w1
              refine wpAnyE_fork [22] (by kernel_rfl) (by simp) ?_
              refine List.forall_mem_cons.2 ⟨?_, List.forall_mem_nil _⟩
              refine ⟨_, rfl, ?_⟩
              intro w1 h1 K hK
              replace hS := Now.below hS h1
              go_simp
              refine hK _ _ (fun _ => Below.refl _ _) ?_
              clear hK K h1
              refine wpAnyE_fork [23] (by kernel_rfl) (by simp) ?_
              refine List.forall_mem_cons.2 ⟨?_, List.forall_mem_nil _⟩
              refine ⟨_, rfl, ?_⟩
              intro w1 h1 K hK
              replace hS := Now.pushCells (Now.below hS h1) 75 #[.slice A1 r.L.length c1, .slice A2 r.pend.length c2, .slice A3 r.pend.length c3, .int .i64 r.left]
              go_simp
              refine hK _ _ (fun hB => (Below.refl _ _).alloc hB _) ?_
              clear hK K h1
              generalize w1.heap.size = hh at hS ⊢
              refine wpAnyE_fork [24] (by kernel_rfl) (by simp) ?_
              refine List.forall_mem_cons.2 ⟨?_, List.forall_mem_nil _⟩
              refine ⟨_, rfl, ?_⟩
              intro w1 h1 K hK
              replace hS := Now.below hS h1
              go_simp
              refine hK _ _ (fun _ => Below.refl _ _) ?_
              clear hK K h1
              refine wpAnyE_end (by kernel_rfl) fun w5 h5 => ?_
              replace hS := Lib.hid (Now.below hS h5)
              go_wp2_with fail
              go_ret
              exact copied hS.out
      · refine ⟨_, rfl, ?_⟩
        intro w1 h1 K hK
        replace hS := Now.built (pre := [_]) (Now.below hS h1) 3 1
        go_simp
        refine hK _ _ (fun hB => (Below.refl _ _).alloc hB _) ?_
        clear hK K h1
        generalize w1.alloc (.cells #[] 3) = wc3 at hS ⊢
        generalize w1.heap.size = kb2 at hS ⊢
        clear w1
        refine wpAnyE_fork [5] (by kernel_rfl) (by simp) ?_
        refine List.forall_mem_cons.2 ⟨?_, List.forall_mem_nil _⟩
        · refine ⟨_, rfl, ?_⟩
          intro w1 h1 K hK
          replace hS := Now.below hS h1
          refine step_append_any w1 rfl _ _ 22 rfl 0 9 j0 _ 1 16 Try.underlying22 hj0 hy0 hy1 hy2 rfl (by decide) _ _ _ rfl (Now.row (pre := []) hS) _ _ r.L.length _ (strs r.L) rfl (rd0.below (Sep.base hS)) (strs_one _) n1 n3 (Nat.zero_le _) ?_
          intro v2 w2 ho hg hn
          rw [Nat.zero_add, List.nil_append] at ho
          obtain ⟨A1, c1, rfl, _⟩ := own_slice ho
          have hB := Sep.grownR (pre := []) hS hg
          replace hS := Now.grown (pre := []) hS ho hg (hn.imp id fun h => ⟨_, Nat.le_refl _, h⟩)
          refine hK _ _ (fun _ => hB) ?_
          clear hK K ho hg hn hB h1
          simp only [Act.put, List.setIfInBounds_toArray, List.set_cons_zero, List.set_cons_succ]
          clear w1
          refine wpAnyE_fork [11] (by kernel_rfl) (by simp) ?_
          refine List.forall_mem_cons.2 ⟨?_, List.forall_mem_nil _⟩
          · refine ⟨_, rfl, ?_⟩
            intro w1 h1 K hK
            replace hS := Now.below hS h1
            refine step_append_any w1 rfl _ _ 73 rfl 0 3 i0 _ 1 8 Try.underlying73 hi0 hz0 hz1 hz2 rfl (by decide) _ _ _ rfl (Now.row (pre := [_]) hS) _ _ r.pend.length _ (wheres r.pend) rfl (rd1.below (Sep.base hS)) (wheres_one _) n2 n4 (Nat.zero_le _) ?_
            intro v2 w2 ho hg hn
            rw [Nat.zero_add, List.nil_append] at ho
            obtain ⟨A2, c2, rfl, _⟩ := own_slice ho
            have hB := Sep.grownR (pre := [_]) hS hg
            replace hS := Now.grown (pre := [_]) hS ho hg (hn.imp id fun h => ⟨_, Nat.le_refl _, h⟩)
            refine hK _ _ (fun _ => hB) ?_
            clear hK K ho hg hn hB h1
            simp only [Act.put, List.setIfInBounds_toArray, List.set_cons_zero, List.set_cons_succ]
            clear w1
            refine wpAnyE_fork [17] (by kernel_rfl) (by simp) ?_
            refine List.forall_mem_cons.2 ⟨?_, List.forall_mem_nil _⟩
            · refine ⟨_, rfl, ?_⟩
              intro w1 h1 K hK
              replace hS := Now.below hS h1
              refine step_append_any w1 rfl _ _ 22 rfl 0 9 j0 _ 1 16 Try.underlying22 hj0 hy0 hy1 hy2 rfl (by decide) _ _ _ rfl (Now.row (pre := [_, _]) hS) _ _ r.pend.length _ (whats r.pend) rfl (rd2.below (Sep.base hS)) (whats_one _) n2 n5 (Nat.zero_le _) ?_
              intro v2 w2 ho hg hn
              rw [Nat.zero_add, List.nil_append] at ho
              obtain ⟨A3, c3, rfl, _⟩ := own_slice ho
              have hB := Sep.grownR (pre := [_, _]) hS hg
              replace hS := Now.grown (pre := [_, _]) hS ho hg (hn.imp id fun h => ⟨_, Nat.le_refl _, h⟩)
              refine hK _ _ (fun _ => hB) ?_
              clear hK K ho hg hn hB h1
              simp only [Act.put, List.setIfInBounds_toArray, List.set_cons_zero, List.set_cons_succ]
              clear w1
              refine wpAnyE_fork [22] (by kernel_rfl) (by simp) ?_
              refine List.forall_mem_cons.2 ⟨?_, List.forall_mem_nil _⟩
              refine ⟨_, rfl, ?_⟩
              intro w1 h1 K hK
              replace hS := Now.below hS h1
              go_simp
              refine hK _ _ (fun _ => Below.refl _ _) ?_
              clear hK K h1
              refine wpAnyE_fork [23] (by kernel_rfl) (by simp) ?_
              refine List.forall_mem_cons.2 ⟨?_, List.forall_mem_nil _⟩
              refine ⟨_, rfl, ?_⟩
              intro w1 h1 K hK
              replace hS := Now.pushCells (Now.below hS h1) 75 #[.slice A1 r.L.length c1, .slice A2 r.pend.length c2, .slice A3 r.pend.length c3, .int .i64 r.left]
              go_simp
              refine hK _ _ (fun hB => (Below.refl _ _).alloc hB _) ?_
              clear hK K h1
              generalize w1.heap.size = hh at hS ⊢
              refine wpAnyE_fork [24] (by kernel_rfl) (by simp) ?_
              refine List.forall_mem_cons.2 ⟨?_, List.forall_mem_nil _⟩
              refine ⟨_, rfl, ?_⟩
              intro w1 h1 K hK
              replace hS := Now.below hS h1
              go_simp
              refine hK _ _ (fun _ => Below.refl _ _) ?_
              clear hK K h1
              refine wpAnyE_end (by kernel_rfl) fun w5 h5 => ?_
              replace hS := Lib.hid (Now.below hS h5)
              go_wp2_with fail
              go_ret
              exact copied hS.out
  · refine ⟨_, rfl, ?_⟩
    intro w1 h1 K hK
    replace hS := Now.built (pre := [_]) (Now.below hS h1) 3 1
    go_simp
    refine hK _ _ (fun hB => (Below.refl _ _).alloc hB _) ?_
    clear hK K h1
    generalize w1.alloc (.cells #[] 3) = wc1 at hS ⊢
    generalize w1.heap.size = kb2 at hS ⊢
    clear w1
    refine wpAnyE_fork [0, 12] (by kernel_rfl) (by simp) ?_
    refine List.forall_mem_cons.2 ⟨?_, List.forall_mem_cons.2 ⟨?_, List.forall_mem_nil _⟩⟩
    · refine ⟨_, rfl, ?_⟩
      intro w1 h1 K hK
      replace hS := Now.built (pre := []) (Now.below hS h1) 9 1
      go_simp
      refine hK _ _ (fun hB => (Below.refl _ _).alloc hB _) ?_
      clear hK K h1
      generalize w1.alloc (.cells #[] 9) = wc2 at hS ⊢
      generalize w1.heap.size = kb1 at hS ⊢
      clear w1
      refine wpAnyE_fork [5, 12] (by kernel_rfl) (by simp) ?_
      refine List.forall_mem_cons.2 ⟨?_, List.forall_mem_cons.2 ⟨?_, List.forall_mem_nil _⟩⟩
      · refine ⟨_, rfl, ?_⟩
        intro w1 h1 K hK
        replace hS := Now.below hS h1
        refine step_append_any w1 rfl _ _ 22 rfl 0 9 j0 _ 1 16 Try.underlying22 hj0 hy0 hy1 hy2 rfl (by decide) _ _ _ rfl (Now.row (pre := []) hS) _ _ r.L.length _ (strs r.L) rfl (rd0.below (Sep.base hS)) (strs_one _) n1 n3 (Nat.zero_le _) ?_
        intro v2 w2 ho hg hn
        rw [Nat.zero_add, List.nil_append] at ho
        obtain ⟨A1, c1, rfl, _⟩ := own_slice ho
        have hB := Sep.grownR (pre := []) hS hg
        replace hS := Now.grown (pre := []) hS ho hg (hn.imp id fun h => ⟨_, Nat.le_refl _, h⟩)
        refine hK _ _ (fun _ => hB) ?_
        clear hK K ho hg hn hB h1
        simp only [Act.put, List.setIfInBounds_toArray, List.set_cons_zero, List.set_cons_succ]
        clear w1
        refine wpAnyE_fork [11, 12] (by kernel_rfl) (by simp) ?_
        refine List.forall_mem_cons.2 ⟨?_, List.forall_mem_cons.2 ⟨?_, List.forall_mem_nil _⟩⟩
        · refine ⟨_, rfl, ?_⟩
          intro w1 h1 K hK
          replace hS := Now.below hS h1
          refine step_append_any w1 rfl _ _ 73 rfl 0 3 i0 _ 1 8 Try.underlying73 hi0 hz0 hz1 hz2 rfl (by decide) _ _ _ rfl (Now.row (pre := [_]) hS) _ _ r.pend.length _ (wheres r.pend) rfl (rd1.below (Sep.base hS)) (wheres_one _) n2 n4 (Nat.zero_le _) ?_
          intro v2 w2 ho hg hn
          rw [Nat.zero_add, List.nil_append] at ho
          obtain ⟨A2, c2, rfl, _⟩ := own_slice ho
          have hB := Sep.grownR (pre := [_]) hS hg
          replace hS := Now.grown (pre := [_]) hS ho hg (hn.imp id fun h => ⟨_, Nat.le_refl _, h⟩)
          refine hK _ _ (fun _ => hB) ?_
          clear hK K ho hg hn hB h1
          simp only [Act.put, List.setIfInBounds_toArray, List.set_cons_zero, List.set_cons_succ]
          clear w1
          refine wpAnyE_fork [12] (by kernel_rfl) (by simp) ?_
          refine List.forall_mem_cons.2 ⟨?_, List.forall_mem_nil _⟩
          · refine ⟨_, rfl, ?_⟩
            intro w1 h1 K hK
            replace hS := Now.built (pre := [_, _]) (Now.below hS h1) 9 1
            go_simp
            refine hK _ _ (fun hB => (Below.refl _ _).alloc hB _) ?_
            clear hK K h1
            generalize w1.alloc (.cells #[] 9) = wc5 at hS ⊢
            generalize w1.heap.size = kb3 at hS ⊢
            clear w1
            refine wpAnyE_fork [17] (by kernel_rfl) (by simp) ?_
            refine List.forall_mem_cons.2 ⟨?_, List.forall_mem_nil _⟩
            · refine ⟨_, rfl, ?_⟩
              intro w1 h1 K hK
              replace hS := Now.below hS h1
              refine step_append_any w1 rfl _ _ 22 rfl 0 9 j0 _ 1 16 Try.underlying22 hj0 hy0 hy1 hy2 rfl (by decide) _ _ _ rfl (Now.row (pre := [_, _]) hS) _ _ r.pend.length _ (whats r.pend) rfl (rd2.below (Sep.base hS)) (whats_one _) n2 n5 (Nat.zero_le _) ?_
              intro v2 w2 ho hg hn
              rw [Nat.zero_add, List.nil_append] at ho
              obtain ⟨A3, c3, rfl, _⟩ := own_slice ho
              have hB := Sep.grownR (pre := [_, _]) hS hg
              replace hS := Now.grown (pre := [_, _]) hS ho hg (hn.imp id fun h => ⟨_, Nat.le_refl _, h⟩)
              refine hK _ _ (fun _ => hB) ?_
              clear hK K ho hg hn hB h1
              simp only [Act.put, List.setIfInBounds_toArray, List.set_cons_zero, List.set_cons_succ]
              clear w1
              refine wpAnyE_fork [22] (by kernel_rfl) (by simp) ?_
              refine List.forall_mem_cons.2 ⟨?_, List.forall_mem_nil _⟩
              refine ⟨_, rfl, ?_⟩
              intro w1 h1 K hK
              replace hS := Now.below hS h1
              go_simp
              refine hK _ _ (fun _ => Below.refl _ _) ?_
              clear hK K h1
              refine wpAnyE_fork [23] (by kernel_rfl) (by simp) ?_
              refine List.forall_mem_cons.2 ⟨?_, List.forall_mem_nil _⟩
              refine ⟨_, rfl, ?_⟩
              intro w1 h1 K hK
              replace hS := Now.pushCells (Now.below hS h1) 75 #[.slice A1 r.L.length c1, .slice A2 r.pend.length c2, .slice A3 r.pend.length c3, .int .i64 r.left]
              go_simp
              refine hK _ _ (fun hB => (Below.refl _ _).alloc hB _) ?_
              clear hK K h1
              generalize w1.heap.size = hh at hS ⊢
              refine wpAnyE_fork [24] (by kernel_rfl) (by simp) ?_
              refine List.forall_mem_cons.2 ⟨?_, List.forall_mem_nil _⟩
              refine ⟨_, rfl, ?_⟩
              intro w1 h1 K hK
              replace hS := Now.below hS h1
              go_simp
              refine hK _ _ (fun _ => Below.refl _ _) ?_
              clear hK K h1
              refine wpAnyE_end (by kernel_rfl) fun w5 h5 => ?_
              replace hS := Lib.hid (Now.below hS h5)
              go_wp2_with fail
              go_ret
              exact copied hS.out
        · refine ⟨_, rfl, ?_⟩
          intro w1 h1 K hK
          replace hS := Now.built (pre := [_, _]) (Now.below hS h1) 9 1
          go_simp
          refine hK _ _ (fun hB => (Below.refl _ _).alloc hB _) ?_
          clear hK K h1
          generalize w1.alloc (.cells #[] 9) = wc4 at hS ⊢
          generalize w1.heap.size = kb3 at hS ⊢
          clear w1
          refine wpAnyE_fork [11] (by kernel_rfl) (by simp) ?_
          refine List.forall_mem_cons.2 ⟨?_, List.forall_mem_nil _⟩
          · refine ⟨_, rfl, ?_⟩
            intro w1 h1 K hK
            replace hS := Now.below hS h1
            refine step_append_any w1 rfl _ _ 73 rfl 0 3 i0 _ 1 8 Try.underlying73 hi0 hz0 hz1 hz2 rfl (by decide) _ _ _ rfl (Now.row (pre := [_]) hS) _ _ r.pend.length _ (wheres r.pend) rfl (rd1.below (Sep.base hS)) (wheres_one _) n2 n4 (Nat.zero_le _) ?_
            intro v2 w2 ho hg hn
            rw [Nat.zero_add, List.nil_append] at ho
            obtain ⟨A2, c2, rfl, _⟩ := own_slice ho
            have hB := Sep.grownR (pre := [_]) hS hg
            replace hS := Now.grown (pre := [_]) hS ho hg (hn.imp id fun h => ⟨_, Nat.le_refl _, h⟩)
            refine hK _ _ (fun _ => hB) ?_
            clear hK K ho hg hn hB h1
            simp only [Act.put, List.setIfInBounds_toArray, List.set_cons_zero, List.set_cons_succ]
            clear w1
            refine wpAnyE_fork [17] (by kernel_rfl) (by simp) ?_
            refine List.forall_mem_cons.2 ⟨?_, List.forall_mem_nil _⟩
            · refine ⟨_, rfl, ?_⟩
              intro w1 h1 K hK
              replace hS := Now.below hS h1
              refine step_append_any w1 rfl _ _ 22 rfl 0 9 j0 _ 1 16 Try.underlying22 hj0 hy0 hy1 hy2 rfl (by decide) _ _ _ rfl (Now.row (pre := [_, _]) hS) _ _ r.pend.length _ (whats r.pend) rfl (rd2.below (Sep.base hS)) (whats_one _) n2 n5 (Nat.zero_le _) ?_
              intro v2 w2 ho hg hn
              rw [Nat.zero_add, List.nil_append] at ho
              obtain ⟨A3, c3, rfl, _⟩ := own_slice ho
              have hB := Sep.grownR (pre := [_, _]) hS hg
              replace hS := Now.grown (pre := [_, _]) hS ho hg (hn.imp id fun h => ⟨_, Nat.le_refl _, h⟩)
              refine hK _ _ (fun _ => hB) ?_
              clear hK K ho hg hn hB h1
              simp only [Act.put, List.setIfInBounds_toArray, List.set_cons_zero, List.set_cons_succ]
              clear w1
              refine wpAnyE_fork [22] (by kernel_rfl) (by simp) ?_
              refine List.forall_mem_cons.2 ⟨?_, List.forall_mem_nil _⟩
              refine ⟨_, rfl, ?_⟩
              intro w1 h1 K hK
              replace hS := Now.below hS h1
              go_simp
              refine hK _ _ (fun _ => Below.refl _ _) ?_
              clear hK K h1
              refine wpAnyE_fork [23] (by kernel_rfl) (by simp) ?_
              refine List.forall_mem_cons.2 ⟨?_, List.forall_mem_nil _⟩
              refine ⟨_, rfl, ?_⟩
              intro w1 h1 K hK
              replace hS := Now.pushCells (Now.below hS h1) 75 #[.slice A1 r.L.length c1, .slice A2 r.pend.length c2, .slice A3 r.pend.length c3, .int .i64 r.left]
              go_simp
              refine hK _ _ (fun hB => (Below.refl _ _).alloc hB _) ?_
              clear hK K h1
              generalize w1.heap.size = hh at hS ⊢
              refine wpAnyE_fork [24] (by kernel_rfl) (by simp) ?_
              refine List.forall_mem_cons.2 ⟨?_, List.forall_mem_nil _⟩
              refine ⟨_, rfl, ?_⟩
              intro w1 h1 K hK
              replace hS := Now.below hS h1
              go_simp
              refine hK _ _ (fun _ => Below.refl _ _) ?_
              clear hK K h1
              refine wpAnyE_end (by kernel_rfl) fun w5 h5 => ?_
              replace hS := Lib.hid (Now.below hS h5)
              go_wp2_with fail
              go_ret
              exact copied hS.out
      · refine ⟨_, rfl, ?_⟩
        intro w1 h1 K hK
        replace hS := Now.built (pre := [_, _]) (Now.below hS h1) 9 1
        go_simp
        refine hK _ _ (fun hB => (Below.refl _ _).alloc hB _) ?_
        clear hK K h1
        generalize w1.alloc (.cells #[] 9) = wc3 at hS ⊢
        generalize w1.heap.size = kb3 at hS ⊢
        clear w1
        refine wpAnyE_fork [5] (by kernel_rfl) (by simp) ?_
        refine List.forall_mem_cons.2 ⟨?_, List.forall_mem_nil _⟩
        · refine ⟨_, rfl, ?_⟩
          intro w1 h1 K hK
          replace hS := Now.below hS h1
          refine step_append_any w1 rfl _ _ 22 rfl 0 9 j0 _ 1 16 Try.underlying22 hj0 hy0 hy1 hy2 rfl (by decide) _ _ _ rfl (Now.row (pre := []) hS) _ _ r.L.length _ (strs r.L) rfl (rd0.below (Sep.base hS)) (strs_one _) n1 n3 (Nat.zero_le _) ?_
          intro v2 w2 ho hg hn
          rw [Nat.zero_add, List.nil_append] at ho
          obtain ⟨A1, c1, rfl, _⟩ := own_slice ho
          have hB := Sep.grownR (pre := []) hS hg
          replace hS := Now.grown (pre := []) hS ho hg (hn.imp id fun h => ⟨_, Nat.le_refl _, h⟩)
          refine hK _ _ (fun _ => hB) ?_
          clear hK K ho hg hn hB h1
          simp only [Act.put, List.setIfInBounds_toArray, List.set_cons_zero, List.set_cons_succ]
          clear w1
          refine wpAnyE_fork [11] (by kernel_rfl) (by simp) ?_
          refine List.forall_mem_cons.2 ⟨?_, List.forall_mem_nil _⟩
          · refine ⟨_, rfl, ?_⟩
            intro w1 h1 K hK
            replace hS := Now.below hS h1
            refine step_append_any w1 rfl _ _ 73 rfl 0 3 i0 _ 1 8 Try.underlying73 hi0 hz0 hz1 hz2 rfl (by decide) _ _ _ rfl (Now.row (pre := [_]) hS) _ _ r.pend.length _ (wheres r.pend) rfl (rd1.below (Sep.base hS)) (wheres_one _) n2 n4 (Nat.zero_le _) ?_
            intro v2 w2 ho hg hn
            rw [Nat.zero_add, List.nil_append] at ho
            obtain ⟨A2, c2, rfl, _⟩ := own_slice ho
            have hB := Sep.grownR (pre := [_]) hS hg
            replace hS := Now.grown (pre := [_]) hS ho hg (hn.imp id fun h => ⟨_, Nat.le_refl _, h⟩)
            refine hK _ _ (fun _ => hB) ?_
            clear hK K ho hg hn hB h1
            simp only [Act.put, List.setIfInBounds_toArray, List.set_cons_zero, List.set_cons_succ]
            clear w1
            refine wpAnyE_fork [17] (by kernel_rfl) (by simp) ?_
            refine List.forall_mem_cons.2 ⟨?_, List.forall_mem_nil _⟩
            · refine ⟨_, rfl, ?_⟩
              intro w1 h1 K hK
              replace hS := Now.below hS h1
              refine step_append_any w1 rfl _ _ 22 rfl 0 9 j0 _ 1 16 Try.underlying22 hj0 hy0 hy1 hy2 rfl (by decide) _ _ _ rfl (Now.row (pre := [_, _]) hS) _ _ r.pend.length _ (whats r.pend) rfl (rd2.below (Sep.base hS)) (whats_one _) n2 n5 (Nat.zero_le _) ?_
              intro v2 w2 ho hg hn
              rw [Nat.zero_add, List.nil_append] at ho
              obtain ⟨A3, c3, rfl, _⟩ := own_slice ho
              have hB := Sep.grownR (pre := [_, _]) hS hg
              replace hS := Now.grown (pre := [_, _]) hS ho hg (hn.imp id fun h => ⟨_, Nat.le_refl _, h⟩)
              refine hK _ _ (fun _ => hB) ?_
              clear hK K ho hg hn hB h1
              simp only [Act.put, List.setIfInBounds_toArray, List.set_cons_zero, List.set_cons_succ]
              clear w1
              refine wpAnyE_fork [22] (by kernel_rfl) (by simp) ?_
              refine List.forall_mem_cons.2 ⟨?_, List.forall_mem_nil _⟩
              refine ⟨_, rfl, ?_⟩
              intro w1 h1 K hK
              replace hS := Now.below hS h1
              go_simp
              refine hK _ _ (fun _ => Below.refl _ _) ?_
              clear hK K h1
              refine wpAnyE_fork [23] (by kernel_rfl) (by simp) ?_
              refine List.forall_mem_cons.2 ⟨?_, List.forall_mem_nil _⟩
              refine ⟨_, rfl, ?_⟩
              intro w1 h1 K hK
              replace hS := Now.pushCells (Now.below hS h1) 75 #[.slice A1 r.L.length c1, .slice A2 r.pend.length c2, .slice A3 r.pend.length c3, .int .i64 r.left]
              go_simp
              refine hK _ _ (fun hB => (Below.refl _ _).alloc hB _) ?_
              clear hK K h1
              generalize w1.heap.size = hh at hS ⊢
              refine wpAnyE_fork [24] (by kernel_rfl) (by simp) ?_
              refine List.forall_mem_cons.2 ⟨?_, List.forall_mem_nil _⟩
              refine ⟨_, rfl, ?_⟩
              intro w1 h1 K hK
              replace hS := Now.below hS h1
              go_simp
              refine hK _ _ (fun _ => Below.refl _ _) ?_
              clear hK K h1
              refine wpAnyE_end (by kernel_rfl) fun w5 h5 => ?_
              replace hS := Lib.hid (Now.below hS h5)
              go_wp2_with fail
              go_ret
              exact copied hS.out
    · refine ⟨_, rfl, ?_⟩
      intro w1 h1 K hK
      replace hS := Now.built (pre := [_, _]) (Now.below hS h1) 9 1
      go_simp
      refine hK _ _ (fun hB => (Below.refl _ _).alloc hB _) ?_
      clear hK K h1
      generalize w1.alloc (.cells #[] 9) = wc2 at hS ⊢
      generalize w1.heap.size = kb3 at hS ⊢
      clear w1
      refine wpAnyE_fork [0] (by kernel_rfl) (by simp) ?_
      refine List.forall_mem_cons.2 ⟨?_, List.forall_mem_nil _⟩
      · refine ⟨_, rfl, ?_⟩
        intro w1 h1 K hK
        replace hS := Now.built (pre := []) (Now.below hS h1) 9 1
        go_simp
        refine hK _ _ (fun hB => (Below.refl _ _).alloc hB _) ?_
        clear hK K h1
        generalize w1.alloc (.cells #[] 9) = wc3 at hS ⊢
        generalize w1.heap.size = kb1 at hS ⊢
        clear w1
        refine wpAnyE_fork [5] (by kernel_rfl) (by simp) ?_
        refine List.forall_mem_cons.2 ⟨?_, List.forall_mem_nil _⟩
        · refine ⟨_, rfl, ?_⟩
          intro w1 h1 K hK
          replace hS := Now.below hS h1
          refine step_append_any w1 rfl _ _ 22 rfl 0 9 j0 _ 1 16 Try.underlying22 hj0 hy0 hy1 hy2 rfl (by decide) _ _ _ rfl (Now.row (pre := []) hS) _ _ r.L.length _ (strs r.L) rfl (rd0.below (Sep.base hS)) (strs_one _) n1 n3 (Nat.zero_le _) ?_
          intro v2 w2 ho hg hn
          rw [Nat.zero_add, List.nil_append] at ho
          obtain ⟨A1, c1, rfl, _⟩ := own_slice ho
          have hB := Sep.grownR (pre := []) hS hg
          replace hS := Now.grown (pre := []) hS ho hg (hn.imp id fun h => ⟨_, Nat.le_refl _, h⟩)
          refine hK _ _ (fun _ => hB) ?_
          clear hK K ho hg hn hB h1
          simp only [Act.put, List.setIfInBounds_toArray, List.set_cons_zero, List.set_cons_succ]
          clear w1
          refine wpAnyE_fork [11] (by kernel_rfl) (by simp) ?_
          refine List.forall_mem_cons.2 ⟨?_, List.forall_mem_nil _⟩
          · refine ⟨_, rfl, ?_⟩
            intro w1 h1 K hK
            replace hS := Now.below hS h1
            refine step_append_any w1 rfl _ _ 73 rfl 0 3 i0 _ 1 8 Try.underlying73 hi0 hz0 hz1 hz2 rfl (by decide) _ _ _ rfl (Now.row (pre := [_]) hS) _ _ r.pend.length _ (wheres r.pend) rfl (rd1.below (Sep.base hS)) (wheres_one _) n2 n4 (Nat.zero_le _) ?_
            intro v2 w2 ho hg hn
            rw [Nat.zero_add, List.nil_append] at ho
            obtain ⟨A2, c2, rfl, _⟩ := own_slice ho
            have hB := Sep.grownR (pre := [_]) hS hg
            replace hS := Now.grown (pre := [_]) hS ho hg (hn.imp id fun h => ⟨_, Nat.le_refl _, h⟩)
            refine hK _ _ (fun _ => hB) ?_
            clear hK K ho hg hn hB h1
            simp only [Act.put, List.setIfInBounds_toArray, List.set_cons_zero, List.set_cons_succ]
            clear w1
            refine wpAnyE_fork [17] (by kernel_rfl) (by simp) ?_
            refine List.forall_mem_cons.2 ⟨?_, List.forall_mem_nil _⟩
            · refine ⟨_, rfl, ?_⟩
              intro w1 h1 K hK
              replace hS := Now.below hS h1
              refine step_append_any w1 rfl _ _ 22 rfl 0 9 j0 _ 1 16 Try.underlying22 hj0 hy0 hy1 hy2 rfl (by decide) _ _ _ rfl (Now.row (pre := [_, _]) hS) _ _ r.pend.length _ (whats r.pend) rfl (rd2.below (Sep.base hS)) (whats_one _) n2 n5 (Nat.zero_le _) ?_
              intro v2 w2 ho hg hn
              rw [Nat.zero_add, List.nil_append] at ho
              obtain ⟨A3, c3, rfl, _⟩ := own_slice ho
              have hB := Sep.grownR (pre := [_, _]) hS hg
              replace hS := Now.grown (pre := [_, _]) hS ho hg (hn.imp id fun h => ⟨_, Nat.le_refl _, h⟩)
              refine hK _ _ (fun _ => hB) ?_
              clear hK K ho hg hn hB h1
              simp only [Act.put, List.setIfInBounds_toArray, List.set_cons_zero, List.set_cons_succ]
              clear w1
              refine wpAnyE_fork [22] (by kernel_rfl) (by simp) ?_
              refine List.forall_mem_cons.2 ⟨?_, List.forall_mem_nil _⟩
              refine ⟨_, rfl, ?_⟩
              intro w1 h1 K hK
              replace hS := Now.below hS h1
              go_simp
              refine hK _ _ (fun _ => Below.refl _ _) ?_
              clear hK K h1
              refine wpAnyE_fork [23] (by kernel_rfl) (by simp) ?_
              refine List.forall_mem_cons.2 ⟨?_, List.forall_mem_nil _⟩
              refine ⟨_, rfl, ?_⟩
              intro w1 h1 K hK
              replace hS := Now.pushCells (Now.below hS h1) 75 #[.slice A1 r.L.length c1, .slice A2 r.pend.length c2, .slice A3 r.pend.length c3, .int .i64 r.left]
              go_simp
              refine hK _ _ (fun hB => (Below.refl _ _).alloc hB _) ?_
              clear hK K h1
              generalize w1.heap.size = hh at hS ⊢
              refine wpAnyE_fork [24] (by kernel_rfl) (by simp) ?_
              refine List.forall_mem_cons.2 ⟨?_, List.forall_mem_nil _⟩
              refine ⟨_, rfl, ?_⟩
              intro w1 h1 K hK
              replace hS := Now.below hS h1
              go_simp
              refine hK _ _ (fun _ => Below.refl _ _) ?_
              clear hK K h1
              refine wpAnyE_end (by kernel_rfl) fun w5 h5 => ?_
              replace hS := Lib.hid (Now.below hS h5)
              go_wp2_with fail
              go_ret
              exact copied hS.out
  · refine ⟨_, rfl, ?_⟩
    intro w1 h1 K hK
    replace hS := Now.built (pre := [_, _]) (Now.below hS h1) 9 1
    go_simp
    refine hK _ _ (fun hB => (Below.refl _ _).alloc hB _) ?_
    clear hK K h1
    generalize w1.alloc (.cells #[] 9) = wc1 at hS ⊢
    generalize w1.heap.size = kb3 at hS ⊢
    clear w1
    refine wpAnyE_fork [0, 6] (by kernel_rfl) (by simp) ?_
    refine List.forall_mem_cons.2 ⟨?_, List.forall_mem_cons.2 ⟨?_, List.forall_mem_nil _⟩⟩
    · refine ⟨_, rfl, ?_⟩
      intro w1 h1 K hK
      replace hS := Now.built (pre := []) (Now.below hS h1) 9 1
      go_simp
      refine hK _ _ (fun hB => (Below.refl _ _).alloc hB _) ?_
      clear hK K h1
      generalize w1.alloc (.cells #[] 9) = wc2 at hS ⊢
      generalize w1.heap.size = kb1 at hS ⊢
      clear w1
      refine wpAnyE_fork [5, 6] (by kernel_rfl) (by simp) ?_
      refine List.forall_mem_cons.2 ⟨?_, List.forall_mem_cons.2 ⟨?_, List.forall_mem_nil _⟩⟩
      · refine ⟨_, rfl, ?_⟩
        intro w1 h1 K hK
        replace hS := Now.below hS h1
        refine step_append_any w1 rfl _ _ 22 rfl 0 9 j0 _ 1 16 Try.underlying22 hj0 hy0 hy1 hy2 rfl (by decide) _ _ _ rfl (Now.row (pre := []) hS) _ _ r.L.length _ (strs r.L) rfl (rd0.below (Sep.base hS)) (strs_one _) n1 n3 (Nat.zero_le _) ?_
        intro v2 w2 ho hg hn
        rw [Nat.zero_add, List.nil_append] at ho
        obtain ⟨A1, c1, rfl, _⟩ := own_slice ho
        have hB := Sep.grownR (pre := []) hS hg
        replace hS := Now.grown (pre := []) hS ho hg (hn.imp id fun h => ⟨_, Nat.le_refl _, h⟩)
        refine hK _ _ (fun _ => hB) ?_
        clear hK K ho hg hn hB h1
        simp only [Act.put, List.setIfInBounds_toArray, List.set_cons_zero, List.set_cons_succ]
        clear w1
        refine wpAnyE_fork [6] (by kernel_rfl) (by simp) ?_
        refine List.forall_mem_cons.2 ⟨?_, List.forall_mem_nil _⟩
        · refine ⟨_, rfl, ?_⟩
          intro w1 h1 K hK
          replace hS := Now.built (pre := [_]) (Now.below hS h1) 3 1
          go_simp
          refine hK _ _ (fun hB => (Below.refl _ _).alloc hB _) ?_
          clear hK K h1
          generalize w1.alloc (.cells #[] 3) = wc4 at hS ⊢
          generalize w1.heap.size = kb2 at hS ⊢
          clear w1
          refine wpAnyE_fork [11] (by kernel_rfl) (by simp) ?_
          refine List.forall_mem_cons.2 ⟨?_, List.forall_mem_nil _⟩
          · refine ⟨_, rfl, ?_⟩
            intro w1 h1 K hK
            replace hS := Now.below hS h1
            refine step_append_any w1 rfl _ _ 73 rfl 0 3 i0 _ 1 8 Try.underlying73 hi0 hz0 hz1 hz2 rfl (by decide) _ _ _ rfl (Now.row (pre := [_]) hS) _ _ r.pend.length _ (wheres r.pend) rfl (rd1.below (Sep.base hS)) (wheres_one _) n2 n4 (Nat.zero_le _) ?_
            intro v2 w2 ho hg hn
            rw [Nat.zero_add, List.nil_append] at ho
            obtain ⟨A2, c2, rfl, _⟩ := own_slice ho
            have hB := Sep.grownR (pre := [_]) hS hg
            replace hS := Now.grown (pre := [_]) hS ho hg (hn.imp id fun h => ⟨_, Nat.le_refl _, h⟩)
            refine hK _ _ (fun _ => hB) ?_
            clear hK K ho hg hn hB h1
            simp only [Act.put, List.setIfInBounds_toArray, List.set_cons_zero, List.set_cons_succ]
            clear w1
            refine wpAnyE_fork [17] (by kernel_rfl) (by simp) ?_
            refine List.forall_mem_cons.2 ⟨?_, List.forall_mem_nil _⟩
            · refine ⟨_, rfl, ?_⟩
              intro w1 h1 K hK
              replace hS := Now.below hS h1
              refine step_append_any w1 rfl _ _ 22 rfl 0 9 j0 _ 1 16 Try.underlying22 hj0 hy0 hy1 hy2 rfl (by decide) _ _ _ rfl (Now.row (pre := [_, _]) hS) _ _ r.pend.length _ (whats r.pend) rfl (rd2.below (Sep.base hS)) (whats_one _) n2 n5 (Nat.zero_le _) ?_
              intro v2 w2 ho hg hn
              rw [Nat.zero_add, List.nil_append] at ho
              obtain ⟨A3, c3, rfl, _⟩ := own_slice ho
              have hB := Sep.grownR (pre := [_, _]) hS hg
              replace hS := Now.grown (pre := [_, _]) hS ho hg (hn.imp id fun h => ⟨_, Nat.le_refl _, h⟩)
              refine hK _ _ (fun _ => hB) ?_
              clear hK K ho hg hn hB h1
              simp only [Act.put, List.setIfInBounds_toArray, List.set_cons_zero, List.set_cons_succ]
              clear w1
              refine wpAnyE_fork [22] (by kernel_rfl) (by simp) ?_
              refine List.forall_mem_cons.2 ⟨?_, List.forall_mem_nil _⟩
              refine ⟨_, rfl, ?_⟩
              intro w1 h1 K hK
              replace hS := Now.below hS h1
              go_simp
              refine hK _ _ (fun _ => Below.refl _ _) ?_
              clear hK K h1
              refine wpAnyE_fork [23] (by kernel_rfl) (by simp) ?_
              refine List.forall_mem_cons.2 ⟨?_, List.forall_mem_nil _⟩
              refine ⟨_, rfl, ?_⟩
              intro w1 h1 K hK
              replace hS := Now.pushCells (Now.below hS h1) 75 #[.slice A1 r.L.length c1, .slice A2 r.pend.length c2, .slice A3 r.pend.length c3, .int .i64 r.left]
              go_simp
              refine hK _ _ (fun hB => (Below.refl _ _).alloc hB _) ?_
              clear hK K h1
              generalize w1.heap.size = hh at hS ⊢
              refine wpAnyE_fork [24] (by kernel_rfl) (by simp) ?_
              refine List.forall_mem_cons.2 ⟨?_, List.forall_mem_nil _⟩
              refine ⟨_, rfl, ?_⟩
              intro w1 h1 K hK
              replace hS := Now.below hS h1
              go_simp
              refine hK _ _ (fun _ => Below.refl _ _) ?_
              clear hK K h1
              refine wpAnyE_end (by kernel_rfl) fun w5 h5 => ?_
              replace hS := Lib.hid (Now.below hS h5)
              go_wp2_with fail
              go_ret
              exact copied hS.out
      · refine ⟨_, rfl, ?_⟩
        intro w1 h1 K hK
        replace hS := Now.built (pre := [_]) (Now.below hS h1) 3 1
        go_simp
        refine hK _ _ (fun hB => (Below.refl _ _).alloc hB _) ?_
        clear hK K h1
        generalize w1.alloc (.cells #[] 3) = wc3 at hS ⊢
        generalize w1.heap.size = kb2 at hS ⊢
        clear w1
        refine wpAnyE_fork [5] (by kernel_rfl) (by simp) ?_
        refine List.forall_mem_cons.2 ⟨?_, List.forall_mem_nil _⟩
        · refine ⟨_, rfl, ?_⟩
          intro w1 h1 K hK
          replace hS := Now.below hS h1
          refine step_append_any w1 rfl _ _ 22 rfl 0 9 j0 _ 1 16 Try.underlying22 hj0 hy0 hy1 hy2 rfl (by decide) _ _ _ rfl (Now.row (pre := []) hS) _ _ r.L.length _ (strs r.L) rfl (rd0.below (Sep.base hS)) (strs_one _) n1 n3 (Nat.zero_le _) ?_
          intro v2 w2 ho hg hn
          rw [Nat.zero_add, List.nil_append] at ho
          obtain ⟨A1, c1, rfl, _⟩ := own_slice ho
          have hB := Sep.grownR (pre := []) hS hg
          replace hS := Now.grown (pre := []) hS ho hg (hn.imp id fun h => ⟨_, Nat.le_refl _, h⟩)
          refine hK _ _ (fun _ => hB) ?_
          clear hK K ho hg hn hB h1
          simp only [Act.put, List.setIfInBounds_toArray, List.set_cons_zero, List.set_cons_succ]
          clear w1
          refine wpAnyE_fork [11] (by kernel_rfl) (by simp) ?_
          refine List.forall_mem_cons.2 ⟨?_, List.forall_mem_nil _⟩
          · refine ⟨_, rfl, ?_⟩
            intro w1 h1 K hK
            replace hS := Now.below hS h1
            refine step_append_any w1 rfl _ _ 73 rfl 0 3 i0 _ 1 8 Try.underlying73 hi0 hz0 hz1 hz2 rfl (by decide) _ _ _ rfl (Now.row (pre := [_]) hS) _ _ r.pend.length _ (wheres r.pend) rfl (rd1.below (Sep.base hS)) (wheres_one _) n2 n4 (Nat.zero_le _) ?_
            intro v2 w2 ho hg hn
            rw [Nat.zero_add, List.nil_append] at ho
            obtain ⟨A2, c2, rfl, _⟩ := own_slice ho
            have hB := Sep.grownR (pre := [_]) hS hg
            replace hS := Now.grown (pre := [_]) hS ho hg (hn.imp id fun h => ⟨_, Nat.le_refl _, h⟩)
            refine hK _ _ (fun _ => hB) ?_
            clear hK K ho hg hn hB h1
            simp only [Act.put, List.setIfInBounds_toArray, List.set_cons_zero, List.set_cons_succ]
            clear w1
            refine wpAnyE_fork [17] (by kernel_rfl) (by simp) ?_
            refine List.forall_mem_cons.2 ⟨?_, List.forall_mem_nil _⟩
            · refine ⟨_, rfl, ?_⟩
              intro w1 h1 K hK
              replace hS := Now.below hS h1
              refine step_append_any w1 rfl _ _ 22 rfl 0 9 j0 _ 1 16 Try.underlying22 hj0 hy0 hy1 hy2 rfl (by decide) _ _ _ rfl (Now.row (pre := [_, _]) hS) _ _ r.pend.length _ (whats r.pend) rfl (rd2.below (Sep.base hS)) (whats_one _) n2 n5 (Nat.zero_le _) ?_
              intro v2 w2 ho hg hn
              rw [Nat.zero_add, List.nil_append] at ho
              obtain ⟨A3, c3, rfl, _⟩ := own_slice ho
              have hB := Sep.grownR (pre := [_, _]) hS hg
              replace hS := Now.grown (pre := [_, _]) hS ho hg (hn.imp id fun h => ⟨_, Nat.le_refl _, h⟩)
              refine hK _ _ (fun _ => hB) ?_
              clear hK K ho hg hn hB h1
              simp only [Act.put, List.setIfInBounds_toArray, List.set_cons_zero, List.set_cons_succ]
              clear w1
              refine wpAnyE_fork [22] (by kernel_rfl) (by simp) ?_
              refine List.forall_mem_cons.2 ⟨?_, List.forall_mem_nil _⟩
              refine ⟨_, rfl, ?_⟩
              intro w1 h1 K hK
              replace hS := Now.below hS h1
              go_simp
              refine hK _ _ (fun _ => Below.refl _ _) ?_
              clear hK K h1
              refine wpAnyE_fork [23] (by kernel_rfl) (by simp) ?_
              refine List.forall_mem_cons.2 ⟨?_, List.forall_mem_nil _⟩
              refine ⟨_, rfl, ?_⟩
              intro w1 h1 K hK
              replace hS := Now.pushCells (Now.below hS h1) 75 #[.slice A1 r.L.length c1, .slice A2 r.pend.length c2, .slice A3 r.pend.length c3, .int .i64 r.left]
              go_simp
              refine hK _ _ (fun hB => (Below.refl _ _).alloc hB _) ?_
              clear hK K h1
              generalize w1.heap.size = hh at hS ⊢
              refine wpAnyE_fork [24] (by kernel_rfl) (by simp) ?_
              refine List.forall_mem_cons.2 ⟨?_, List.forall_mem_nil _⟩
              refine ⟨_, rfl, ?_⟩
              intro w1 h1 K hK
              replace hS := Now.below hS h1
              go_simp
              refine hK _ _ (fun _ => Below.refl _ _) ?_
              clear hK K h1
              refine wpAnyE_end (by kernel_rfl) fun w5 h5 => ?_
              replace hS := Lib.hid (Now.below hS h5)
              go_wp2_with fail
              go_ret
              exact copied hS.out
    · refine ⟨_, rfl, ?_⟩
      intro w1 h1 K hK
      replace hS := Now.built (pre := [_]) (Now.below hS h1) 3 1
      go_simp
      refine hK _ _ (fun hB => (Below.refl _ _).alloc hB _) ?_
      clear hK K h1
      generalize w1.alloc (.cells #[] 3) = wc2 at hS ⊢
      generalize w1.heap.size = kb2 at hS ⊢
      clear w1
      refine wpAnyE_fork [0] (by kernel_rfl) (by simp) ?_
      refine List.forall_mem_cons.2 ⟨?_, List.forall_mem_nil _⟩
      · refine ⟨_, rfl, ?_⟩
        intro w1 h1 K hK
        replace hS := Now.built (pre := []) (Now.below hS h1) 9 1
        go_simp
        refine hK _ _ (fun hB => (Below.refl _ _).alloc hB _) ?_
        clear hK K h1
        generalize w1.alloc (.cells #[] 9) = wc3 at hS ⊢
        generalize w1.heap.size = kb1 at hS ⊢
        clear w1
        refine wpAnyE_fork [5] (by kernel_rfl) (by simp) ?_
        refine List.forall_mem_cons.2 ⟨?_, List.forall_mem_nil _⟩
        · refine ⟨_, rfl, ?_⟩
          intro w1 h1 K hK
          replace hS := Now.below hS h1
          refine step_append_any w1 rfl _ _ 22 rfl 0 9 j0 _ 1 16 Try.underlying22 hj0 hy0 hy1 hy2 rfl (by decide) _ _ _ rfl (Now.row (pre := []) hS) _ _ r.L.length _ (strs r.L) rfl (rd0.below (Sep.base hS)) (strs_one _) n1 n3 (Nat.zero_le _) ?_
          intro v2 w2 ho hg hn
          rw [Nat.zero_add, List.nil_append] at ho
          obtain ⟨A1, c1, rfl, _⟩ := own_slice ho
          have hB := Sep.grownR (pre := []) hS hg
          replace hS := Now.grown (pre := []) hS ho hg (hn.imp id fun h => ⟨_, Nat.le_refl _, h⟩)
          refine hK _ _ (fun _ => hB) ?_
          clear hK K ho hg hn hB h1
          simp only [Act.put, List.setIfInBounds_toArray, List.set_cons_zero, List.set_cons_succ]
          clear w1
          refine wpAnyE_fork [11] (by kernel_rfl) (by simp) ?_
          refine List.forall_mem_cons.2 ⟨?_, List.forall_mem_nil _⟩
          · refine ⟨_, rfl, ?_⟩
            intro w1 h1 K hK
            replace hS := Now.below hS h1
            refine step_append_any w1 rfl _ _ 73 rfl 0 3 i0 _ 1 8 Try.underlying73 hi0 hz0 hz1 hz2 rfl (by decide) _ _ _ rfl (Now.row (pre := [_]) hS) _ _ r.pend.length _ (wheres r.pend) rfl (rd1.below (Sep.base hS)) (wheres_one _) n2 n4 (Nat.zero_le _) ?_
            intro v2 w2 ho hg hn
            rw [Nat.zero_add, List.nil_append] at ho
            obtain ⟨A2, c2, rfl, _⟩ := own_slice ho
            have hB := Sep.grownR (pre := [_]) hS hg
            replace hS := Now.grown (pre := [_]) hS ho hg (hn.imp id fun h => ⟨_, Nat.le_refl _, h⟩)
            refine hK _ _ (fun _ => hB) ?_
            clear hK K ho hg hn hB h1
            simp only [Act.put, List.setIfInBounds_toArray, List.set_cons_zero, List.set_cons_succ]
            clear w1
            refine wpAnyE_fork [17] (by kernel_rfl) (by simp) ?_
            refine List.forall_mem_cons.2 ⟨?_, List.forall_mem_nil _⟩
            · refine ⟨_, rfl, ?_⟩
              intro w1 h1 K hK
              replace hS := Now.below hS h1
              refine step_append_any w1 rfl _ _ 22 rfl 0 9 j0 _ 1 16 Try.underlying22 hj0 hy0 hy1 hy2 rfl (by decide) _ _ _ rfl (Now.row (pre := [_, _]) hS) _ _ r.pend.length _ (whats r.pend) rfl (rd2.below (Sep.base hS)) (whats_one _) n2 n5 (Nat.zero_le _) ?_
              intro v2 w2 ho hg hn
              rw [Nat.zero_add, List.nil_append] at ho
              obtain ⟨A3, c3, rfl, _⟩ := own_slice ho
              have hB := Sep.grownR (pre := [_, _]) hS hg
              replace hS := Now.grown (pre := [_, _]) hS ho hg (hn.imp id fun h => ⟨_, Nat.le_refl _, h⟩)
              refine hK _ _ (fun _ => hB) ?_
              clear hK K ho hg hn hB h1
              simp only [Act.put, List.setIfInBounds_toArray, List.set_cons_zero, List.set_cons_succ]
              clear w1
              refine wpAnyE_fork [22] (by kernel_rfl) (by simp) ?_
              refine List.forall_mem_cons.2 ⟨?_, List.forall_mem_nil _⟩
              refine ⟨_, rfl, ?_⟩
              intro w1 h1 K hK
              replace hS := Now.below hS h1
              go_simp
              refine hK _ _ (fun _ => Below.refl _ _) ?_
              clear hK K h1
              refine wpAnyE_fork [23] (by kernel_rfl) (by simp) ?_
              refine List.forall_mem_cons.2 ⟨?_, List.forall_mem_nil _⟩
              refine ⟨_, rfl, ?_⟩
              intro w1 h1 K hK
              replace hS := Now.pushCells (Now.below hS h1) 75 #[.slice A1 r.L.length c1, .slice A2 r.pend.length c2, .slice A3 r.pend.length c3, .int .i64 r.left]
              go_simp
              refine hK _ _ (fun hB => (Below.refl _ _).alloc hB _) ?_
              clear hK K h1
              generalize w1.heap.size = hh at hS ⊢
              refine wpAnyE_fork [24] (by kernel_rfl) (by simp) ?_
              refine List.forall_mem_cons.2 ⟨?_, List.forall_mem_nil _⟩
              refine ⟨_, rfl, ?_⟩
              intro w1 h1 K hK
              replace hS := Now.below hS h1
              go_simp
              refine hK _ _ (fun _ => Below.refl _ _) ?_
              clear hK K h1
              refine wpAnyE_end (by kernel_rfl) fun w5 h5 => ?_
              replace hS := Lib.hid (Now.below hS h5)
              go_wp2_with fail
              go_ret
              exact copied hS.out
end Go.Proofs.Ytofoneapfokdjaa
