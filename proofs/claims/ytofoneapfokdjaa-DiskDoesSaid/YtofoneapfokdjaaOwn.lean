/- Several disks of the call's own: each method's contract, all answers in one. -/
import Derived.Test.YtofoneapfokdjaaRead
import Derived.Test.YtofoneapfokdjaaFull
namespace Go.Proofs.Ytofoneapfokdjaa
set_option linter.unusedSimpArgs false
set_option linter.unusedVariables false
open Go.RowKit
attribute [local go_sem high] run_mx run_mn

def Dsk.dead (d : Dsk) : Bool := d.lim && decide (d.left < 1)
def Dsk.writeE (d : Dsk) (i : Int) (s : ByteArray) : Int := if 0 ≤ i ∧ i < d.n then (if s.size = 128 then (if d.dead then 9 else 0) else 5) else 1
def Dsk.writeS (d : Dsk) (i : Int) (s : ByteArray) : Dsk := if d.writeE i s = 0 then d.write i s else d
def Dsk.flushE (d : Dsk) : Int := if d.dead then 9 else 0
def Dsk.flushS (d : Dsk) : Dsk := if d.dead then d else d.flush
def Dsk.readE (d : Dsk) (i : Int) : Int := if 0 ≤ i ∧ i < d.n then 0 else 1
def Dsk.readV (d : Dsk) (i : Int) : ByteArray := if 0 ≤ i ∧ i < d.n then d.read i else ⟨#[]⟩
def Dsk.limit (d : Dsk) (n : Int) : Dsk := { d with lim := true, left := n }

theorem Dsk.dead_no {d : Dsk} (h : d.dead = false) : d.lim = false ∨ 1 ≤ d.left := by
  unfold Dsk.dead at h
  cases hl : d.lim with
  | false => exact .inl rfl
  | true => rw [hl] at h; simp at h; exact .inr (by omega)
theorem Dsk.dead_yes {d : Dsk} (h : d.dead = true) : d.lim = true ∧ d.left < 1 := by
  unfold Dsk.dead at h
  simpa using h

theorem Write_all (g b : Nat) (v : Value) (d : Dsk) (i : Int) (s : ByteArray) (w : World) (h : DskAt w g b v d) (hp : d.pend.length ≤ 1000000000) :
    Calls Try.prog 12 #[.pointer (some ⟨g, 0, none⟩), .int .i64 i, .string s] w fun e w' => e = .returned (.int .i64 (d.writeE i s)) ∧
      ∃ v', DskAt w' g b v' (d.writeS i s) ∧ Fr (foot g b v) w w' ∧ ∀ k, foot g b v' k → foot g b v k ∨ w.heap.size ≤ k := by
  unfold Dsk.writeS Dsk.writeE
  by_cases hi : 0 ≤ i ∧ i < d.n
  · by_cases hs : s.size = 128
    · cases hd : d.dead with
      | true =>
        rw [if_pos hi, if_pos hs, if_pos rfl, if_neg (by omega)]
        exact (Write_dead g b v d i s w h hi hs (d.dead_yes hd).1 (d.dead_yes hd).2).mono fun e w' ⟨he, hw⟩ => ⟨he, v, hw ▸ h, hw ▸ Fr.refl _ _, fun _ hk => .inl hk⟩
      | false =>
        rw [if_pos hi, if_pos hs, if_neg (by simp), if_pos rfl]
        exact Write_ok g b v d i s w h hi hs (d.dead_no hd) hp
    · rw [if_pos hi, if_neg hs, if_neg (by omega)]
      exact (Write_form g b v d i s w h hi hs).mono fun e w' ⟨he, hw⟩ => ⟨he, v, hw ▸ h, hw ▸ Fr.refl _ _, fun _ hk => .inl hk⟩
  · rw [if_neg hi, if_neg (by omega)]
    exact (Write_bad g b v d i s w h hi).mono fun e w' ⟨he, hw⟩ => ⟨he, v, hw ▸ h, hw ▸ Fr.refl _ _, fun _ hk => .inl hk⟩

theorem Flush_all (g b : Nat) (v : Value) (d : Dsk) (w : World) (h : DskAt w g b v d) (hp : d.pend.length ≤ 1000000000) :
    Calls Try.prog 13 #[.pointer (some ⟨g, 0, none⟩)] w fun e w' => e = .returned (.int .i64 d.flushE) ∧
      ∃ v', DskAt w' g b v' d.flushS ∧ Fr (foot g b v) w w' ∧ ∀ k, foot g b v' k → foot g b v k ∨ w.heap.size ≤ k := by
  unfold Dsk.flushS Dsk.flushE
  cases hd : d.dead with
  | true =>
    rw [if_pos rfl, if_pos rfl]
    exact (Flush_dead g b v d w h (d.dead_yes hd).1 (d.dead_yes hd).2).mono fun e w' ⟨he, hw⟩ => ⟨he, v, hw ▸ h, hw ▸ Fr.refl _ _, fun _ hk => .inl hk⟩
  | false =>
    rw [if_neg (by simp), if_neg (by simp)]
    exact (Flush_ok g b v d w h (d.dead_no hd) hp).mono fun e w' ⟨he, hw, hf⟩ => ⟨he, _, hw, hf, fun k hk => by
      rcases hk with hk | hk | hk
      · exact .inl (.inl hk)
      · exact .inl (.inr (.inl hk))
      · simp [Value.ownBlock] at hk⟩

theorem Read_all (g b : Nat) (v : Value) (d : Dsk) (i : Int) (w : World) (h : DskAt w g b v d) (hp : d.pend.length ≤ 1000000000) :
    Calls Try.prog 16 #[.pointer (some ⟨g, 0, none⟩), .int .i64 i] w fun e w' => e = .returned (.tuple #[.string (d.readV i), .int .i64 (d.readE i)]) ∧ Below w.heap.size w w' := by
  unfold Dsk.readV Dsk.readE
  by_cases hi : 0 ≤ i ∧ i < d.n
  · rw [if_pos hi, if_pos hi]; exact Read_ok g b v d i w h hi hp
  · rw [if_neg hi, if_neg hi]; exact Read_bad g b v d i w h hi

/-- Where a disk lies. -/
structure Slot where
  g : Nat
  b : Nat
  v : Value
  d : Dsk
def Slot.foot (s : Slot) : Nat → Prop := Go.Proofs.Ytofoneapfokdjaa.foot s.g s.b s.v
def Slot.at_ (w : World) (s : Slot) : Prop := DskAt w s.g s.b s.v s.d
def Slot.apart (s t : Slot) : Prop := ∀ k, s.foot k → ¬ t.foot k

/-- In w there lie the disks l, each apart from all others and from what lay below B; and below B nothing has turned since W. -/
def Disks (B : Nat) (W w : World) (l : List (Nat × Dsk)) : Prop :=
  ∃ L : List Slot, L.map (fun s => (s.g, s.d)) = l ∧ (∀ s ∈ L, s.at_ w) ∧ L.Pairwise Slot.apart ∧ (∀ s ∈ L, ∀ k, s.foot k → B ≤ k) ∧ Below B W w ∧ B ≤ w.heap.size

section
variable {B : Nat} {W w w' : World} {l pre post : List (Nat × Dsk)} {g : Nat} {d d' : Dsk}
theorem Disks.start (W : World) : Disks W.heap.size W W [] := ⟨[], rfl, by simp, by simp, by simp, Below.refl _ _, Nat.le_refl _⟩
theorem Disks.base (h : Disks B W w l) : Below B W w := by obtain ⟨L, _, _, _, _, hb, _⟩ := h; exact hb
theorem Disks.size (h : Disks B W w l) : B ≤ w.heap.size := by obtain ⟨L, _, _, _, _, _, hb⟩ := h; exact hb
theorem Disks.below (h : Disks B W w l) (hb : Below w.heap.size w w') : Disks B W w' l := by
  obtain ⟨L, e, h1, h2, h3, h4, h5⟩ := h
  exact ⟨L, e, fun s hs => DskAt.below (h1 s hs) hb, h2, h3, h4.trans (hb.mono h5), Nat.le_trans h5 hb.size⟩
theorem Disks.drew (h : Disks B W w l) : Disks B W w.drew l := h.below ⟨rfl, rfl, rfl, Nat.le_refl _, fun _ _ => rfl⟩
theorem Disks.alloc (h : Disks B W w l) (o : Obj) : Disks B W (w.alloc o) l := h.below ((Below.refl _ _).alloc (Nat.le_refl _) o)
/-- What turns a row of the call's own that is no disk's. -/
theorem Disks.fr {S : Nat → Prop} (h : Disks B W w l) (hf : Fr S w w') (hs : ∀ k, k < w.heap.size → S k → B ≤ k) (hn : ∀ L : List Slot, (∀ s ∈ L, s.at_ w) → L.map (fun s => (s.g, s.d)) = l → ∀ s ∈ L, ∀ k, s.foot k → ¬ S k) : Disks B W w' l := by
  obtain ⟨L, e, h1, h2, h3, h4, h5⟩ := h
  exact ⟨L, e, fun s hs' => DskAt.keep (h1 s hs') hf (hn L h1 e s hs'), h2, h3, h4.trans (hf.below h5 hs), Nat.le_trans h5 hf.size⟩
theorem Disks.split (h : Disks B W w (pre ++ (g, d) :: post)) : ∃ b v, DskAt w g b v d ∧
    ∀ w' b' v' d', b' = b → DskAt w' g b' v' d' → Fr (foot g b v) w w' → (∀ k, foot g b' v' k → foot g b v k ∨ w.heap.size ≤ k) → Disks B W w' (pre ++ (g, d') :: post) := by
  obtain ⟨L, e, h1, h2, h3, h4, h5⟩ := h
  obtain ⟨L1, L2, rfl, e1, e2⟩ := List.map_eq_append_iff.1 e
  obtain ⟨s, L3, rfl, e3, e4⟩ := List.map_eq_cons_iff.1 e2
  obtain ⟨g0, b, v, d0⟩ := s
  simp only [Prod.mk.injEq] at e3
  obtain ⟨rfl, rfl⟩ := e3
  have hs : DskAt w g0 b v d0 := h1 ⟨g0, b, v, d0⟩ (by simp)
  refine ⟨b, v, hs, ?_⟩
  rintro w' b' v' d' rfl hD hF hn
  rw [List.pairwise_append, List.pairwise_cons] at h2
  obtain ⟨p1, ⟨p2, p3⟩, p4⟩ := h2
  have hlt : ∀ t : Slot, t ∈ L1 ++ ⟨g0, b', v, d0⟩ :: L3 → ∀ k, t.foot k → k < w.heap.size := fun t ht k hk => DskAt.lt (h1 t ht) hk
  refine ⟨L1 ++ ⟨g0, b', v', d'⟩ :: L3, by simp [e1, e4], ?_, ?_, ?_, ?_, Nat.le_trans h5 hF.size⟩
  · intro t ht
    rcases List.mem_append.1 ht with ht | ht
    · exact DskAt.keep (h1 t (by simp [ht])) hF (fun k hk hk' => p4 t ht ⟨g0, b', v, d0⟩ (by simp) k hk hk')
    · rcases List.mem_cons.1 ht with rfl | ht
      · exact hD
      · exact DskAt.keep (h1 t (by simp [ht])) hF (fun k hk hk' => p2 t ht k hk' hk)
  · rw [List.pairwise_append, List.pairwise_cons]
    refine ⟨p1, ⟨fun t ht k hk hk' => ?_, p3⟩, fun t ht u hu => ?_⟩
    · rcases hn k hk with h | h
      · exact p2 t ht k h hk'
      · have := hlt t (by simp [ht]) k hk'; omega
    · rcases List.mem_cons.1 hu with rfl | hu
      · intro k hk hk'
        rcases hn k hk' with h | h
        · exact p4 t ht ⟨g0, b', v, d0⟩ (by simp) k hk h
        · have := hlt t (by simp [ht]) k hk; omega
      · exact p4 t ht u (by simp [hu])
  · intro t ht k hk
    rcases List.mem_append.1 ht with ht | ht
    · exact h3 t (by simp [ht]) k hk
    · rcases List.mem_cons.1 ht with rfl | ht
      · rcases hn k hk with h | h
        · exact h3 ⟨g0, b', v, d0⟩ (by simp) k h
        · omega
      · exact h3 t (by simp [ht]) k hk
  · exact h4.trans (hF.below h5 (fun k _ hk => h3 ⟨g0, b', v, d0⟩ (by simp) k hk))
theorem Disks.push (h : Disks B W w l) {b : Nat} {v : Value} (hb : Below w.heap.size w w') (hD : DskAt w' g b v d) (hn : ∀ k, foot g b v k → w.heap.size ≤ k) : Disks B W w' (l ++ [(g, d)]) := by
  obtain ⟨L, e, h1, h2, h3, h4, h5⟩ := h
  refine ⟨L ++ [⟨g, b, v, d⟩], by simp [e], ?_, ?_, ?_, h4.trans (hb.mono h5), Nat.le_trans h5 hb.size⟩
  · intro t ht
    rcases List.mem_append.1 ht with ht | ht
    · exact DskAt.below (h1 t ht) hb
    · simp at ht; subst ht; exact hD
  · rw [List.pairwise_append]
    refine ⟨h2, by simp, fun t ht u hu k hk hk' => ?_⟩
    simp at hu; subst hu
    have := hn k hk'
    have := DskAt.lt (h1 t ht) hk
    omega
  · intro t ht k hk
    rcases List.mem_append.1 ht with ht | ht
    · exact h3 t ht k hk
    · simp at ht; subst ht; have := hn k hk; omega
end

section
variable {B : Nat} {W w : World} {l : List (Nat × Dsk)} {g : Nat} {d : Dsk}
theorem DNew (h : Disks B W w l) (n : Int) (h1 : 1 ≤ n) (h2 : n ≤ 4096) :
    Calls Try.prog 9 #[.int .i64 n] w fun e w' => ∃ g, e = .returned (.tuple #[.pointer (some ⟨g, 0, none⟩), .int .i64 0]) ∧ Disks B W w' (l ++ [(g, newDsk n)]) ∧ Blk w' g 63 #[.bool false, .int .i64 0, .int .i64 n, .map (some w.heap.size), .slice none 0 0] :=
  (New_ok n w h1 h2).mono fun _ _ ⟨he, hD, hb⟩ => ⟨_, he, h.push hb hD (fun k hk => by
    rcases hk with rfl | rfl | hk
    · omega
    · omega
    · simp [Value.ownBlock] at hk), hD.blk⟩
theorem DNewBad (h : Disks B W w l) (n : Int) (h1 : n < 1 ∨ 4096 < n) :
    Calls Try.prog 9 #[.int .i64 n] w fun e w' => e = .returned (.tuple #[.pointer none, .int .i64 1]) ∧ Disks B W w' l :=
  (New_bad n w h1).mono fun _ _ ⟨he, hw⟩ => ⟨he, hw ▸ h⟩
theorem DWrite (pre post : List (Nat × Dsk)) (h : Disks B W w (pre ++ (g, d) :: post)) (i : Int) (s : ByteArray) (hp : d.pend.length ≤ 1000000000) :
    Calls Try.prog 12 #[.pointer (some ⟨g, 0, none⟩), .int .i64 i, .string s] w fun e w' => e = .returned (.int .i64 (d.writeE i s)) ∧ Disks B W w' (pre ++ (g, d.writeS i s) :: post) := by
  obtain ⟨b, v, hD, hk⟩ := h.split
  exact (Write_all g b v d i s w hD hp).mono fun e w' ⟨he, v', h1, h2, h3⟩ => ⟨he, hk w' b v' _ rfl h1 h2 h3⟩
theorem DFlush (pre post : List (Nat × Dsk)) (h : Disks B W w (pre ++ (g, d) :: post)) (hp : d.pend.length ≤ 1000000000) :
    Calls Try.prog 13 #[.pointer (some ⟨g, 0, none⟩)] w fun e w' => e = .returned (.int .i64 d.flushE) ∧ Disks B W w' (pre ++ (g, d.flushS) :: post) := by
  obtain ⟨b, v, hD, hk⟩ := h.split
  exact (Flush_all g b v d w hD hp).mono fun e w' ⟨he, v', h1, h2, h3⟩ => ⟨he, hk w' b v' _ rfl h1 h2 h3⟩
theorem DLimit (pre post : List (Nat × Dsk)) (h : Disks B W w (pre ++ (g, d) :: post)) (n : Int) :
    Calls Try.prog 18 #[.pointer (some ⟨g, 0, none⟩), .int .i64 n] w fun e w' => e = .returned (.tuple #[]) ∧ Disks B W w' (pre ++ (g, d.limit n) :: post) := by
  obtain ⟨b, v, hD, hk⟩ := h.split
  exact (Limit_any g b v d n w hD).mono fun e w' ⟨he, h1, h2⟩ => ⟨he, hk w' b v _ rfl h1 h2 (fun _ h => .inl h)⟩
theorem DCrash (pre post : List (Nat × Dsk)) (h : Disks B W w (pre ++ (g, d) :: post)) (A : Option Addr) (n c : Nat) (bs : List Bool) (torn at_ : Int) (hG : d.Good) (hp : d.pend.length ≤ 1000000000) (hk : ∀ b v, DskAt w g b v d → (∀ k, foot g b v k → B ≤ k) → Bools w (foot g b v) A n bs) :
    Calls Try.prog 15 #[.pointer (some ⟨g, 0, none⟩), .slice A n c, .int .i64 torn, .int .i64 at_] w fun e w' => e = .returned (.tuple #[]) ∧ Disks B W w' (pre ++ (g, d.crash bs torn at_) :: post) := by
  have hbase : ∃ L : List Slot, L.map (fun s => (s.g, s.d)) = pre ++ (g, d) :: post ∧ (∀ s ∈ L, s.at_ w) ∧ (∀ s ∈ L, ∀ k, s.foot k → B ≤ k) := by
    obtain ⟨L, e, h1, _, h3, _⟩ := h
    exact ⟨L, e, h1, h3⟩
  obtain ⟨b, v, hD, hk'⟩ := h.split
  have hB : ∀ k, foot g b v k → B ≤ k := by
    obtain ⟨L, e, h1, h3⟩ := hbase
    have hm : (g, d) ∈ L.map (fun s => (s.g, s.d)) := by rw [e]; simp
    obtain ⟨s, hs, es⟩ := List.mem_map.1 hm
    simp only [Prod.mk.injEq] at es
    obtain ⟨e1, e2⟩ := es
    have hDs := h1 s hs
    unfold Slot.at_ at hDs
    rw [e1] at hDs
    have hb := hD.blk
    unfold Blk at hb
    have hb2 := hDs.blk
    unfold Blk at hb2
    rw [hb] at hb2
    simp only [Option.some.injEq, Obj.cells.injEq] at hb2
    have hb3 := hb2.1
    simp at hb3
    obtain ⟨_, _, _, hmb, hvv⟩ := hb3
    intro k hkk
    refine h3 s hs k ?_
    unfold Slot.foot
    rw [e1, ← hmb, ← hvv]
    exact hkk
  exact (Crash_any g b v d A n c bs torn at_ w hD hG hp (hk b v hD hB)).mono fun e w' ⟨he, h1, h2⟩ => ⟨he, hk' w' b _ _ rfl h1 h2 (fun k hk => by
    rcases hk with hk | hk | hk
    · exact .inl (.inl hk)
    · exact .inl (.inr (.inl hk))
    · simp [Value.ownBlock] at hk)⟩
theorem DRead (pre post : List (Nat × Dsk)) (h : Disks B W w (pre ++ (g, d) :: post)) (i : Int) (hp : d.pend.length ≤ 1000000000) :
    Calls Try.prog 16 #[.pointer (some ⟨g, 0, none⟩), .int .i64 i] w fun e w' => e = .returned (.tuple #[.string (d.readV i), .int .i64 (d.readE i)]) ∧ Disks B W w' (pre ++ (g, d) :: post) := by
  obtain ⟨b, v, hD, _⟩ := h.split
  exact (Read_all g b v d i w hD hp).mono fun e w' ⟨he, hb⟩ => ⟨he, h.below hb⟩
theorem DPending (pre post : List (Nat × Dsk)) (h : Disks B W w (pre ++ (g, d) :: post)) :
    Calls Try.prog 14 #[.pointer (some ⟨g, 0, none⟩)] w fun e w' => e = .returned (.int .i64 d.pend.length) ∧ w = w' := by
  obtain ⟨b, v, hD, _⟩ := h.split
  exact Pending_any g b v d w hD
theorem DLen (pre post : List (Nat × Dsk)) (h : Disks B W w (pre ++ (g, d) :: post)) :
    Calls Try.prog 31 #[.pointer (some ⟨g, 0, none⟩)] w fun e w' => e = .returned (.int .i64 d.n) ∧ w = w' := by
  obtain ⟨b, v, hD, _⟩ := h.split
  exact Len_any g b v d w hD
end
end Go.Proofs.Ytofoneapfokdjaa
