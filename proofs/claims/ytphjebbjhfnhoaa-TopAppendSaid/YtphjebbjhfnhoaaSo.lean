/- sig: Of. -/
import Derived.Test.YtphjebbjhfnhoaaSi
import Derived.Test.YtphjebbjhfnhoaaIr
namespace Go.Proofs.Ytphjebbjhfnhoaa
open Go.RowKit Go.Shelf
attribute [local go_sem] Oper.semAt_some
theorem MI.up {l : List UInt8} {B st m b8 i : Nat} {v x : Value} {W : World} {L : Nat → Bool} {u : Nat → Value} {bq : Nat} {v' : Value} {W' : World} (H : MI l B st m b8 i v x W L u bq v' W') (k : Nat) (hk5 : k ≠ 5) (hk6 : k ≠ 6) (hk8 : k ≠ 8) (hk : k < 9) (val : Value)
    (hval : (k = 0 → val = .pointer (some ⟨b8, 3, none⟩)) ∧ (k = 1 → val = v) ∧ (k = 2 → val = x) ∧ (k = 3 → val = .int .i64 (st : Int)) ∧ (k = 4 → val = .agg (mkA (blk l B i) st)) ∧ (k = 7 → val = .pointer (some ⟨b8, 3, none⟩))) :
    MI l B st m b8 i v x W (updB L k) (updU u (45 + k) val) bq v' W' := by
  refine ⟨?_, ?_, ?_, ?_, ?_, ?_, ?_, ?_, ?_, ?_⟩
  · intro h
    by_cases e : k = 0
    · subst e; rw [updU_self]; exact hval.1 rfl
    · rw [updB_ne _ _ _ (Ne.symm e)] at h; rw [updU_ne _ _ _ _ (by omega)]; exact H.p0 h
  · intro h
    by_cases e : k = 1
    · subst e; rw [updU_self]; exact hval.2.1 rfl
    · rw [updB_ne _ _ _ (Ne.symm e)] at h; rw [updU_ne _ _ _ _ (by omega)]; exact H.p1 h
  · intro h
    by_cases e : k = 2
    · subst e; rw [updU_self]; exact hval.2.2.1 rfl
    · rw [updB_ne _ _ _ (Ne.symm e)] at h; rw [updU_ne _ _ _ _ (by omega)]; exact H.p2 h
  · intro h
    by_cases e : k = 3
    · subst e; rw [updU_self]; exact hval.2.2.2.1 rfl
    · rw [updB_ne _ _ _ (Ne.symm e)] at h; rw [updU_ne _ _ _ _ (by omega)]; exact H.p3 h
  · intro h
    by_cases e : k = 4
    · subst e; rw [updU_self]; exact hval.2.2.2.2.1 rfl
    · rw [updB_ne _ _ _ (Ne.symm e)] at h; rw [updU_ne _ _ _ _ (by omega)]; exact H.p4 h
  · intro h
    rw [updB_ne _ _ _ (Ne.symm hk5)] at h
    rw [updU_ne _ _ _ _ (by omega), updB_ne _ _ _ (Ne.symm hk6)]; exact H.p5 h
  · intro h
    rw [updB_ne _ _ _ (Ne.symm hk6)] at h
    rw [updU_ne _ _ _ _ (by omega)]; exact H.p6 h
  · intro h
    by_cases e : k = 7
    · subst e; rw [updU_self]; exact hval.2.2.2.2.2 rfl
    · rw [updB_ne _ _ _ (Ne.symm e)] at h; rw [updU_ne _ _ _ _ (by omega)]; exact H.p7 h
  · intro h
    rw [updB_ne _ _ _ (Ne.symm hk8)] at h; exact H.p8 h
  · rw [updB_ne _ _ _ (Ne.symm hk6), updB_ne _ _ _ (Ne.symm hk8)]; exact H.fr
theorem MI.world {l : List UInt8} {B st m b8 i : Nat} {v x : Value} {W : World} {L : Nat → Bool} {u : Nat → Value} {bq : Nat} {v' : Value} {W' W2 : World} (H : MI l B st m b8 i v x W L u bq v' W') (f : Fr (fun _ => False) W' W2) : MI l B st m b8 i v x W L u bq v' W2 :=
  ⟨H.p0, H.p1, H.p2, H.p3, H.p4, fun h => ⟨(H.p5 h).1, fun h2 => ((H.p5 h).2 h2).fr f (fun x => x)⟩, fun h => ⟨(H.p6 h).1, (H.p6 h).2.1.fr f (fun _ _ x => x), (H.p6 h).2.2⟩, H.p7, fun h => (H.p8 h).fr f (fun x => x), H.fr.trans f (fun _ _ x => x.elim)⟩
theorem MI.new {l : List UInt8} {B st m b8 i : Nat} {v x : Value} {W : World} {L : Nat → Bool} {u : Nat → Value} {bq : Nat} {v' : Value} {W' : World} (H : MI l B st m b8 i v x W L u bq v' W') (h8 : L 8 = false) :
    MI l B st m b8 i v x W (updB L 5) (updU u 50 (.slice (some ⟨W'.heap.size, 0, none⟩) 1 1)) W'.heap.size v' (W'.alloc (.cells (mkA (blk l B i) st) 59)) := by
  refine ⟨?_, ?_, ?_, ?_, ?_, fun _ => ⟨updU_self _ _ _, fun _ => Blk.new _ _ _⟩, ?_, ?_, ?_, ?_⟩
  · intro h; rw [updB_ne _ _ _ (by decide)] at h; rw [updU_ne _ _ _ _ (by decide)]; exact H.p0 h
  · intro h; rw [updB_ne _ _ _ (by decide)] at h; rw [updU_ne _ _ _ _ (by decide)]; exact H.p1 h
  · intro h; rw [updB_ne _ _ _ (by decide)] at h; rw [updU_ne _ _ _ _ (by decide)]; exact H.p2 h
  · intro h; rw [updB_ne _ _ _ (by decide)] at h; rw [updU_ne _ _ _ _ (by decide)]; exact H.p3 h
  · intro h; rw [updB_ne _ _ _ (by decide)] at h; rw [updU_ne _ _ _ _ (by decide)]; exact H.p4 h
  · intro h; rw [updB_ne _ _ _ (by decide)] at h; rw [updU_ne _ _ _ _ (by decide)]; obtain ⟨a, b, c⟩ := H.p6 h; exact ⟨a, b.fr ((Fr.refl (fun _ => False) _).alloc _) (fun _ _ x => x), c⟩
  · intro h; rw [updB_ne _ _ _ (by decide)] at h; rw [updU_ne _ _ _ _ (by decide)]; exact H.p7 h
  · intro h; rw [updB_ne _ _ _ (by decide), h8] at h; cases h
  · rw [updB_ne _ _ _ (by decide), updB_ne _ _ _ (by decide)]; exact H.fr.alloc _
theorem MI.app {l : List UInt8} {B st m b8 i : Nat} {v x : Value} {W : World} {L : Nat → Bool} {u : Nat → Value} {bq : Nat} {v' : Value} {W' : World} (H : MI l B st m b8 i v x W L u bq v' W') (h8 : L 8 = false) (v2 : Value) (w2 : World)
    (h1 : Sl w2 59 2 v2 (i + 1) (marks l B st (i + 1))) (h2 : Fr (fun k => v.ownBlock = some k) W' w2) (h3 : v2.ownBlock = v.ownBlock ∨ ∃ k, v2.ownBlock = some k ∧ W.heap.size ≤ k) :
    MI l B st m b8 i v x W (updB L 6) (updU u 51 v2) bq v2 w2 := by
  refine ⟨?_, ?_, ?_, ?_, ?_, ?_, fun _ => ⟨updU_self _ _ _, h1, h3⟩, ?_, ?_, ?_⟩
  · intro h; rw [updB_ne _ _ _ (by decide)] at h; rw [updU_ne _ _ _ _ (by decide)]; exact H.p0 h
  · intro h; rw [updB_ne _ _ _ (by decide)] at h; rw [updU_ne _ _ _ _ (by decide)]; exact H.p1 h
  · intro h; rw [updB_ne _ _ _ (by decide)] at h; rw [updU_ne _ _ _ _ (by decide)]; exact H.p2 h
  · intro h; rw [updB_ne _ _ _ (by decide)] at h; rw [updU_ne _ _ _ _ (by decide)]; exact H.p3 h
  · intro h; rw [updB_ne _ _ _ (by decide)] at h; rw [updU_ne _ _ _ _ (by decide)]; exact H.p4 h
  · intro h; rw [updB_ne _ _ _ (by decide)] at h; rw [updU_ne _ _ _ _ (by decide)]; exact ⟨(H.p5 h).1, fun q => by rw [updB_self] at q; cases q⟩
  · intro h; rw [updB_ne _ _ _ (by decide)] at h; rw [updU_ne _ _ _ _ (by decide)]; exact H.p7 h
  · intro h; rw [updB_ne _ _ _ (by decide), h8] at h; cases h
  · rw [updB_self, updB_ne _ _ _ (by decide)]
    refine (H.fr.mono (fun k _ h => ?_)).trans h2 (fun k _ h => .inl ⟨rfl, h⟩)
    rcases h with ⟨_, h⟩ | h
    · exact .inl ⟨rfl, h⟩
    · exact .inr h
theorem MI.put {l : List UInt8} {B st m b8 i : Nat} {v x : Value} {W : World} {L : Nat → Bool} {u : Nat → Value} {bq : Nat} {v' : Value} {W' : World} (H : MI l B st m b8 i v x W L u bq v' W') (h6 : L 6 = true) (hb : Blk W' b8 27 #[.int .i64 (m : Int), .int .i64 (B : Int), .int .i64 (st : Int), v]) :
    MI l B st m b8 i v x W (updB L 8) u bq v' (W'.setCell ⟨b8, 3, none⟩ v') := by
  refine ⟨?_, ?_, ?_, ?_, ?_, ?_, ?_, ?_, fun _ => hb.set 3 v', ?_⟩
  · intro h; rw [updB_ne _ _ _ (by decide)] at h; exact H.p0 h
  · intro h; rw [updB_ne _ _ _ (by decide)] at h; exact H.p1 h
  · intro h; rw [updB_ne _ _ _ (by decide)] at h; exact H.p2 h
  · intro h; rw [updB_ne _ _ _ (by decide)] at h; exact H.p3 h
  · intro h; rw [updB_ne _ _ _ (by decide)] at h; exact H.p4 h
  · intro h; rw [updB_ne _ _ _ (by decide)] at h; exact ⟨(H.p5 h).1, fun q => by rw [updB_ne _ _ _ (by decide), h6] at q; cases q⟩
  · intro h; rw [updB_ne _ _ _ (by decide)] at h
    obtain ⟨a, b, c⟩ := H.p6 h
    exact ⟨a, b.fr ((Fr.refl (fun k => k = b8) W').setCell (p := ⟨b8, 3, none⟩) (fun _ => rfl) v') (fun k hk e => b.ne hb (by decide) k hk e), c⟩
  · intro h; rw [updB_ne _ _ _ (by decide)] at h; exact H.p7 h
  · rw [updB_ne _ _ _ (by decide), updB_self]
    exact (H.fr.mono (fun k _ h => by
      rcases h with h | ⟨_, h⟩
      · exact .inl h
      · exact .inr ⟨rfl, h⟩)).setCell (p := ⟨b8, 3, none⟩) (fun _ => .inr ⟨rfl, rfl⟩) v'
theorem Try.size27 : (Try.prog.info? 27).map (·.size) = some 4 := by kernel_rfl
theorem Try.info59 : (Try.prog.info? 59).map (fun i => (i.zero, i.size, i.bytes)) = some (some (.agg #[.int .u32 0, .string ⟨#[]⟩]), 2, 24) := by kernel_rfl
set_option maxRecDepth 100000 in
set_option maxHeartbeats 8000000 in
theorem sof_spec (l : List UInt8) (ad : Option Addr) (cap B st : Nat) (w : World) (hB : isB B) (hl : l.length ≤ 131072) (hc : l.length ≤ cap) (hcm : cap ≤ maxLen) (hs1 : 1 ≤ st) (hs2 : st ≤ 32) (hb : Byt w ad l) :
    Calls Try.prog 9 #[.slice ad l.length cap, .int .i64 (B : Int), .int .i64 (st : Int)] w fun e w' => ∃ v, e = .returned (.tuple #[.agg #[.int .i64 (l.length : Int), .int .i64 (B : Int), .int .i64 (st : Int), v], .int .i64 0]) ∧
      Sl w' 59 2 v (cnt l.length B) (marks l B st (cnt l.length B)) ∧ Fr (fun _ => False) w w' := by
  have HT := Lib.hid (fun wx => strong_spec st hs1 hs2 wx)
  have HK := Lib.hid (fun wx => sblock_spec B hB wx)
  have B0 : (0 : Int) < (B : Int) := by rcases hB with rfl | rfl | rfl <;> omega
  have B01 : ¬ (B : Int) = 0 := by omega
  have HE := Lib.hid (fun n lp b1 b2 J h1 h2 h3 W h0 => each1_in n lp b1 b2 ad cap B l hB hl hc hcm J h1 h2 h3 W h0)
  have hmk : ∀ i x W, SlB W x (blk l B i) → Calls Try.prog 21 #[x, .int .i64 (st : Int)] W fun e w' => e = .returned (.agg (mkA (blk l B i) st)) ∧ Fr (fun _ => False) W w' := by
    intro i x W hx
    obtain ⟨ad2, cap2, rfl, hb2, hc2⟩ := SlB.byt hx
    exact mark_spec (blk l B i) ad2 cap2 st W (by rw [blk_length]; omega) hc2 hb2 hs2
  have HMK := Lib.hid hmk
  have HCN := Lib.hid (Nat.le_trans (cnt_le l.length B hB) hl)
  obtain ⟨m, hm⟩ : ∃ m, m = l.length := ⟨_, rfl⟩
  rw [← hm] at hl hc HE HCN ⊢
  have m1 : (m : Int) ≤ 131072 := by omega
  have HB := Lib.hid hb
  have HM := Lib.hid hm
  clear hB hl hc hcm hs1 hs2 hb hm hmk
  refine callsIn_wide.1 (callsIn_of_wp_marks (n := 9) Try.func9 rfl trivial ?_ rfl)
  simp only [Try.ntmps9, List.size_toArray, List.length_cons, List.length_nil, Nat.reduceAdd, Nat.reduceSub, Array.replicate_succ, Array.replicate_zero, List.push_toArray, List.append_toArray, List.nil_append, List.cons_append]
  gi_wp2_with (first
    | (refine ⟨trivial, ?_⟩; gi_at_call 17; refine (callsIn_wide.2 (HT.out _)).mono ?_; rintro e w2 ⟨rfl, rfl⟩)
    | (refine ⟨trivial, ?_⟩; gi_at_call 18; refine (callsIn_wide.2 (HK.out _)).mono ?_; rintro e w2 ⟨rfl, rfl⟩)
    | (refine ⟨trivial, ?_⟩; gi_at_call 20; refine (callsIn_wide.2 (each_spec _ _ _ _ _)).mono ?_; rintro e w2 ⟨rfl, rfl⟩)
    | fail)
  have HI0 : SI w l ad m cap B st w.heap.size (w.heap.size + 1) (w.heap.size + 1 + 1) (w.heap.size + 1 + 1 + 1) (w.heap.size + 1 + 1 + 1 + 1) 0
      (((((w.alloc (.cells #[.int .i64 (st : Int)] 3)).alloc (.cells #[.int .i64 0, .int .i64 0, .int .i64 0, .slice none 0 0] 27)).alloc (.cells #[.int .i64 (m : Int), .int .i64 (B : Int), .int .i64 (st : Int), .slice none 0 0] 27)).alloc (.cells #[.slice ad m cap] 22)).alloc (.cells #[.int .i64 (B : Int)] 3)) := by
    have a1 := Blk.new w 3 #[.int .i64 (st : Int)]
    have f1 := (Fr.refl (fun _ => False) w).alloc (.cells #[.int .i64 (st : Int)] 3)
    have s1 : (w.alloc (.cells #[.int .i64 (st : Int)] 3)).heap.size = w.heap.size + 1 := by simp
    generalize w.alloc (.cells #[.int .i64 (st : Int)] 3) = w1 at *
    have a2 := Blk.new w1 27 #[.int .i64 0, .int .i64 0, .int .i64 0, .slice none 0 0]
    have f2 := f1.alloc (.cells #[.int .i64 0, .int .i64 0, .int .i64 0, .slice none 0 0] 27)
    have a1 := a1.alloc (.cells #[.int .i64 0, .int .i64 0, .int .i64 0, .slice none 0 0] 27)
    have s2 : (w1.alloc (.cells #[.int .i64 0, .int .i64 0, .int .i64 0, .slice none 0 0] 27)).heap.size = w.heap.size + 1 + 1 := by simp [s1]
    generalize w1.alloc (.cells #[.int .i64 0, .int .i64 0, .int .i64 0, .slice none 0 0] 27) = w2 at *
    have a3 := Blk.new w2 27 #[.int .i64 (m : Int), .int .i64 (B : Int), .int .i64 (st : Int), .slice none 0 0]
    have f3 := f2.alloc (.cells #[.int .i64 (m : Int), .int .i64 (B : Int), .int .i64 (st : Int), .slice none 0 0] 27)
    have a1 := a1.alloc (.cells #[.int .i64 (m : Int), .int .i64 (B : Int), .int .i64 (st : Int), .slice none 0 0] 27)
    have a2 := a2.alloc (.cells #[.int .i64 (m : Int), .int .i64 (B : Int), .int .i64 (st : Int), .slice none 0 0] 27)
    have s3 : (w2.alloc (.cells #[.int .i64 (m : Int), .int .i64 (B : Int), .int .i64 (st : Int), .slice none 0 0] 27)).heap.size = w.heap.size + 1 + 1 + 1 := by simp [s2]
    generalize w2.alloc (.cells #[.int .i64 (m : Int), .int .i64 (B : Int), .int .i64 (st : Int), .slice none 0 0] 27) = w3 at *
    have a4 := Blk.new w3 22 #[.slice ad m cap]
    have f4 := f3.alloc (.cells #[.slice ad m cap] 22)
    have a1 := a1.alloc (.cells #[.slice ad m cap] 22)
    have a2 := a2.alloc (.cells #[.slice ad m cap] 22)
    have a3 := a3.alloc (.cells #[.slice ad m cap] 22)
    have s4 : (w3.alloc (.cells #[.slice ad m cap] 22)).heap.size = w.heap.size + 1 + 1 + 1 + 1 := by simp [s3]
    generalize w3.alloc (.cells #[.slice ad m cap] 22) = w4 at *
    have a5 := Blk.new w4 3 #[.int .i64 (B : Int)]
    rw [s1] at a2
    rw [s2] at a3
    rw [s3] at a4
    rw [s4] at a5
    exact ⟨⟨_, a3.alloc _, Sl.nil _ _ _, fun k q => by cases q⟩, a1.alloc _, a2.alloc _, a4.alloc _, a5, HB.out.fr (f4.alloc _), by omega, by omega, by omega, f4.alloc _⟩
  have HI := Lib.hid HI0
  clear HI0
  obtain ⟨W0, hW0⟩ : ∃ W0, W0 = (((((w.alloc (.cells #[.int .i64 (st : Int)] 3)).alloc (.cells #[.int .i64 0, .int .i64 0, .int .i64 0, .slice none 0 0] 27)).alloc (.cells #[.int .i64 (m : Int), .int .i64 (B : Int), .int .i64 (st : Int), .slice none 0 0] 27)).alloc (.cells #[.slice ad m cap] 22)).alloc (.cells #[.int .i64 (B : Int)] 3)) := ⟨_, rfl⟩
  have hsz : w.heap.size ≤ W0.heap.size := by rw [hW0]; simp; omega
  rw [← hW0] at HI ⊢
  clear hW0
  generalize w.heap.size + 1 + 1 + 1 + 1 = b2 at HI ⊢
  generalize w.heap.size + 1 + 1 + 1 = b1 at HI ⊢
  generalize w.heap.size + 1 + 1 = b8 at HI ⊢
  generalize w.heap.size + 1 = b6 at HI ⊢
  obtain ⟨b5, hb5⟩ : ∃ b5, b5 = w.heap.size := ⟨_, rfl⟩
  rw [← hb5] at HI ⊢
  have HB5 := Lib.hid hb5
  clear hb5
  refine wpIn_range_mine rfl (by decide) (gf := 30) (lb := #[.pointer (some ⟨b1, 0, none⟩), .pointer (some ⟨b2, 0, none⟩)]) rfl trivial (enters_of Try.func30 (by kernel_rfl) rfl) (N := cnt m B)
    (fun i A args => ∃ v, args = #[.int .i64 (i : Int), v] ∧ SlB A v (blk l B i)) (fun i A args h => by obtain ⟨v, rfl, _⟩ := h; rfl)
    (fun i A args k o o' h hk ho => by obtain ⟨v, rfl, h2⟩ := h; exact ⟨v, rfl, Sl.putObj h2 o' hk ho⟩)
    (SI w l ad m cap B st b5 b6 b8 b1 b2) (fun i A B' h f => h.frF f) (fun i A k o o' h hl hk ho => h.putObj o' (Nat.le_trans hsz hl) hk ho)
    (fun lp J W hJ hJ2 hY h0 => HE.out _ lp b1 b2 J (fun i A hA => ⟨(hJ i A hA).k1.cell 0 rfl, (hJ i A hA).k2.cell 0 rfl, (hJ i A hA).by_⟩) hJ2 (fun i A v hi hA hv => hY i A _ hi hA ⟨v, rfl, hv⟩) W h0)
    HI.out (fun i args => actM (baseM ad m cap B st b5 b6 b8 b1 b2) (args.getD 1 undef) (.int .i64 (i : Int)) (fun _ => undef)) ?assign ?body ?done
  case assign =>
    intro lp i args W K hp hK
    obtain ⟨v, rfl, _⟩ := hp
    gi_wp2
    exact hK
  case body =>
    intro lp i args W hi hI hp
    obtain ⟨x, rfl, hx⟩ := hp
    refine wpIn_block ?_
    obtain ⟨v, hv1, hv2, hv3⟩ := hI.v
    have HSI := Lib.hid hI
    have HX := Lib.hid hx
    have HV1 := Lib.hid hv1
    have HV2 := Lib.hid hv2
    have HV3 := Lib.hid hv3
    have HIN := Lib.hid (Nat.le_trans (Nat.le_of_lt hi) HCN.out)
    have hne : ∀ k, v.ownBlock = some k → k ≠ b8 := hv2.ne hv1 (by decide)
    have HNE := Lib.hid hne
    have e5 : baseM ad m cap B st b5 b6 b8 b1 b2 5 = .pointer (some ⟨b5, 0, none⟩) := rfl
    have e8 : baseM ad m cap B st b5 b6 b8 b1 b2 8 = .pointer (some ⟨b8, 0, none⟩) := rfl
    clear hI hx hv1 hv2 hv3 hi hne HI HE HT HK
    show Code.wpIn _ _ _ _ _ (actM (baseM ad m cap B st b5 b6 b8 b1 b2) x (.int .i64 (i : Int)) (fun _ => undef)) W
    generalize baseM ad m cap B st b5 b6 b8 b1 b2 = c at e5 e8 ⊢
    refine wpIn_region_cl (by kernel_rfl) [[], [0], [], [], [2, 3], [4], [1, 5, 4], [0, 1, 2, 3, 4, 5, 6], [7, 6, 6, 0, 1, 2, 3, 4, 5, 6]] (by kernel_rfl) (by decide) (InvM l B st m b8 i v x c W) ?_ ?_ ?_
    · exact ⟨fun _ => undef, 0, undef, rfl, ⟨fun q => absurd q Bool.false_ne_true, fun q => absurd q Bool.false_ne_true, fun q => absurd q Bool.false_ne_true, fun q => absurd q Bool.false_ne_true, fun q => absurd q Bool.false_ne_true, fun q => absurd q Bool.false_ne_true, fun q => absurd q Bool.false_ne_true, fun q => absurd q Bool.false_ne_true, fun q => absurd q Bool.false_ne_true, (Fr.refl _ W).drew⟩⟩
    · intro j hj L a W' hInv hcl h0 hd
      obtain ⟨u, bq, v', rfl, hM⟩ := hInv
      have hc : j = 0 ∨ j = 1 ∨ j = 2 ∨ j = 3 ∨ j = 4 ∨ j = 5 ∨ j = 6 ∨ j = 7 ∨ j = 8 := by have : j < 9 := hj; omega
      have c6 : L 6 = true → L 0 = true ∧ L 1 = true ∧ L 2 = true ∧ L 3 = true ∧ L 4 = true ∧ L 5 = true := fun h => by
        have h1 := hcl 6 1 h (by decide)
        have h5 := hcl 6 5 h (by decide)
        have h4 := hcl 6 4 h (by decide)
        exact ⟨hcl 1 0 h1 (by decide), h1, hcl 4 2 h4 (by decide), hcl 4 3 h4 (by decide), h4, h5⟩
      have c8 : L 8 = true → L 6 = true := fun h => hcl 8 6 h (by decide)
      have n6 : j < 6 → L 6 = false := fun hj6 => by
        cases h : L 6 with
        | false => rfl
        | true =>
          obtain ⟨q0, q1, q2, q3, q4, q5⟩ := c6 h
          rcases hc with rfl | rfl | rfl | rfl | rfl | rfl | rfl | rfl | rfl <;> first | exact absurd q0 (by rw [h0]; decide) | exact absurd q1 (by rw [h0]; decide) | exact absurd q2 (by rw [h0]; decide) | exact absurd q3 (by rw [h0]; decide) | exact absurd q4 (by rw [h0]; decide) | exact absurd q5 (by rw [h0]; decide) | exact absurd h6 (by rw [h0]; decide) | exact absurd h7 (by rw [h0]; decide) | omega
      have n8 : j < 8 → L 8 = false := fun hj8 => by
        cases h : L 8 with
        | false => rfl
        | true =>
          have h7 := hcl 8 7 h (by decide)
          have h6 := c8 h
          obtain ⟨q0, q1, q2, q3, q4, q5⟩ := c6 h6
          rcases hc with rfl | rfl | rfl | rfl | rfl | rfl | rfl | rfl | rfl <;> first | exact absurd q0 (by rw [h0]; decide) | exact absurd q1 (by rw [h0]; decide) | exact absurd q2 (by rw [h0]; decide) | exact absurd q3 (by rw [h0]; decide) | exact absurd q4 (by rw [h0]; decide) | exact absurd q5 (by rw [h0]; decide) | exact absurd h6 (by rw [h0]; decide) | exact absurd h7 (by rw [h0]; decide) | omega
      have hfr0 : j < 6 → Fr (fun _ => False) W W' := fun hj6 => hM.fr.mono (fun k _ h => by
        rcases h with ⟨h, _⟩ | ⟨h, _⟩
        · rw [n6 hj6] at h; cases h
        · rw [n8 (by omega)] at h; cases h)
      clear hj
      rcases hc with rfl | rfl | rfl | rfl | rfl | rfl | rfl | rfl | rfl
      · refine wpOpIn_one rfl ?_
        have HMM := Lib.hid hM
        clear hd h0 hcl c6 c8 n6 n8 hfr0 hM
        unfold actM
        gi_wp2
        exact ⟨updU u 45 (.pointer (some ⟨b8, 3, none⟩)), bq, v', by simp [actM, updU, e5, e8], HMM.out.up 0 (by decide) (by decide) (by decide) (by decide) (.pointer (some ⟨b8, 3, none⟩)) (by simp)⟩
      · refine wpOpIn_one rfl ?_
        have HMM := Lib.hid hM
        have e45 : u 45 = .pointer (some ⟨b8, 3, none⟩) := hM.p0 (hd 0 (by decide))
        have c83 := (HV1.out.fr (hfr0 (by decide)) (fun q => q)).cell 3 rfl
        clear hd h0 hcl c6 c8 n6 n8 hfr0 hM
        unfold actM
        gi_wp2
        exact ⟨updU u 46 v, bq, v', by simp [actM, updU, e5, e8, e45], HMM.out.up 1 (by decide) (by decide) (by decide) (by decide) v (by simp)⟩
      · refine wpOpIn_one rfl ?_
        have HMM := Lib.hid hM
        clear hd h0 hcl c6 c8 n6 n8 hfr0 hM
        unfold actM
        gi_wp2
        exact ⟨updU u 47 x, bq, v', by simp [actM, updU, e5, e8], HMM.out.up 2 (by decide) (by decide) (by decide) (by decide) x (by simp)⟩
      · refine wpOpIn_one rfl ?_
        have HMM := Lib.hid hM
        have c53 := (HSI.out.k5.fr (hfr0 (by decide)) (fun q => q)).cell 0 rfl
        clear hd h0 hcl c6 c8 n6 n8 hfr0 hM
        unfold actM
        gi_wp2
        exact ⟨updU u 48 (.int .i64 (st : Int)), bq, v', by simp [actM, updU, e5, e8], HMM.out.up 3 (by decide) (by decide) (by decide) (by decide) (.int .i64 (st : Int)) (by simp)⟩
      · refine wpOpIn_one rfl ?_
        have HMM := Lib.hid hM
        have e47 : u 47 = x := hM.p2 (hd 2 (by decide))
        have e48 : u 48 = .int .i64 (st : Int) := hM.p3 (hd 3 (by decide))
        have HCC := Lib.hid (HMK.out i x W' (Sl.fr HX.out (hfr0 (by decide)) (fun _ _ q => q)))
        clear hd h0 hcl c6 c8 n6 n8 hfr0 hM
        unfold actM
        rw [e47, e48]
        gi_wp2_with (first
          | (refine ⟨trivial, ?_⟩; gi_at_call 21; refine (CallsIn.inRound lp (callsIn_wide.2 HCC.out)).mono ?_; rintro e w9 ⟨rfl, hf9⟩; have HF9 := Lib.hid hf9; clear hf9)
          | (refine ⟨trivial, ?_, ?_⟩; exact (fun q => absurd q (by decide)); gi_at_call 21; refine (CallsIn.inRound lp (callsIn_wide.2 HCC.out)).mono ?_; rintro e w9 ⟨rfl, hf9⟩; have HF9 := Lib.hid hf9; clear hf9)
          | fail)
        exact ⟨updU u 49 (.agg (mkA (blk l B i) st)), bq, v', by simp [actM, updU, e5, e8, e47, e48], (HMM.out.world HF9.out).up 4 (by decide) (by decide) (by decide) (by decide) (.agg (mkA (blk l B i) st)) (by simp)⟩
      · refine wpOpIn_one rfl ?_
        have HMM := Lib.hid hM
        have e49 : u 49 = .agg (mkA (blk l B i) st) := hM.p4 (hd 4 (by decide))
        have n6' := n6 (by decide)
        have n8' := n8 (by decide)
        clear hd h0 hcl c6 c8 n6 n8 hfr0 hM
        unfold actM
        rw [e49]
        unfold mkA
        gi_wp2
        exact ⟨updU u 50 (.slice (some ⟨W'.heap.size, 0, none⟩) 1 1), W'.heap.size, v', by simp [actM, updU, e5, e8, e49, mkA], HMM.out.new n8'⟩
      · refine wpOpIn_one rfl ?_
        have HMM := Lib.hid hM
        have e46 : u 46 = v := hM.p1 (hd 1 (by decide))
        obtain ⟨e50, hbq⟩ := hM.p5 (hd 5 (by decide))
        have hbq := hbq h0
        have n8' := n8 (by decide)
        have hf : Fr (fun _ => False) W W' := hM.fr.mono (fun k _ h => by
          rcases h with ⟨h, _⟩ | ⟨h, _⟩
          · rw [h0] at h; cases h
          · rw [n8'] at h; cases h)
        refine wpListIn_app rfl (.tmp 46) (.tmp 50) 25 25 rfl 59 _ 2 24 Try.underlying25 Try.info59 rfl v i (marks l B st i) e46 (HV2.out.fr hf (fun _ _ q => q)) _ 1 (mkA (blk l B i) st).toList e50 (src_one Try.underlying25 bq 2 59 _ rfl (fun q hq => by
          simp only [mkA, List.mem_cons, List.not_mem_nil, or_false] at hq
          rcases hq with rfl | rfl <;> rfl) (by rw [Array.toArray_toList]; exact hbq)) (by have := HIN.out; unfold maxLen; omega) (by have := HIN.out; omega) ?_
        intro v2 w2 h1 h2 h3
        rw [← marks_succ] at h1
        refine ⟨updU u 51 v2, bq, v2, by simp [actM, updU, Act.put], hM.app n8' v2 w2 h1 h2 ?_⟩
        rcases h3 with h3 | h3
        · exact .inl h3
        · exact .inr ⟨_, h3, hf.size⟩
      · refine wpOpIn_one rfl ?_
        have HMM := Lib.hid hM
        clear hd h0 hcl c6 c8 n6 n8 hfr0 hM
        unfold actM
        gi_wp2
        exact ⟨updU u 52 (.pointer (some ⟨b8, 3, none⟩)), bq, v', by simp [actM, updU, e5, e8], HMM.out.up 7 (by decide) (by decide) (by decide) (by decide) (.pointer (some ⟨b8, 3, none⟩)) (by simp)⟩
      · refine wpOpIn_one rfl ?_
        have HMM := Lib.hid hM
        have h6 := hd 6 (by decide)
        have e51 := (hM.p6 h6).1
        have e52 := hM.p7 (hd 7 (by decide))
        have hb8 : Blk W' b8 27 #[.int .i64 (m : Int), .int .i64 (B : Int), .int .i64 (st : Int), v] := HV1.out.fr hM.fr (fun h => by
          rcases h with ⟨_, h⟩ | ⟨h, _⟩
          · exact HNE.out b8 h rfl
          · rw [h0] at h; cases h)
        have c83 := hb8.cell 3 rfl
        have f83 := hb8.free 3
        have h1v : v'.oneCell' = true := by
          obtain ⟨ad', cap', e, _⟩ := (hM.p6 h6).2.1.slice
          rw [e]; rfl
        have HPUT := Lib.hid (hM.put h6 hb8)
        obtain ⟨ad', cap', ev', _⟩ := (hM.p6 h6).2.1.slice
        subst ev'
        clear hd h0 hcl c6 c8 n6 n8 hfr0 hM
        unfold actM
        rw [e51, e52]
        gi_wp2
        exact ⟨u, bq, _, by simp [actM, e5, e8, e51, e52], HPUT.out⟩
    · intro L a W' hInv hall
      obtain ⟨u, bq, v', rfl, hM⟩ := hInv
      obtain ⟨_, hs, ho⟩ := hM.p6 (hall 6 (by decide))
      have hb8 := hM.p8 (hall 8 (by decide))
      have hS : ∀ (T : TypeId) (b : Nat) (vs : Array Value), Blk W b T vs → T ≠ 59 → b ≠ b8 → Blk W' b T vs := fun T b vs h hT hne => h.fr hM.fr (fun q => by
        rcases q with ⟨_, q⟩ | ⟨_, q⟩
        · exact HV2.out.ne h (Ne.symm hT) b q rfl
        · exact hne q)
      have hfw : Fr (fun _ => False) w W' := HSI.out.fr.trans hM.fr (fun k hk q => by
        rcases q with ⟨_, q⟩ | ⟨_, q⟩
        · exact absurd (HV3.out k q) (by omega)
        · have := HSI.out.l8; omega)
      refine ⟨KeepsOthers.frCells hM.fr (fun k o q hk => ?_), ⟨v', hb8, hs, fun k hk => ?_⟩, hS 3 b5 _ HSI.out.k5 (by decide) (blk_ne HSI.out.k5 HV1.out (by decide)), hS 27 b6 _ HSI.out.k6 (by decide) HSI.out.ne, hS 22 b1 _ HSI.out.k1 (by decide) (blk_ne HSI.out.k1 HV1.out (by decide)),
        hS 3 b2 _ HSI.out.k2 (by decide) (blk_ne HSI.out.k2 HV1.out (by decide)), HB.out.fr hfw, HSI.out.ne, HSI.out.l8, HSI.out.l6, hfw⟩
      · rcases q with ⟨_, q⟩ | ⟨_, rfl⟩
        · rcases HV2.out.2 with ⟨rfl, _⟩ | ⟨g, _, _, _, rfl, hb, _⟩
          · cases q
          · have e : g = k := by simpa [Value.ownBlock] using q
            subst e
            have h2 : W.heap[g]? = _ := hb
            rw [h2] at hk; cases hk; rfl
        · have h2 : W.heap[k]? = _ := HV1.out
          rw [h2] at hk; cases hk; rfl
      · rcases ho with ho | ⟨k2, ho, hle⟩
        · exact HV3.out k (by rw [← ho]; exact hk)
        · rw [ho] at hk; cases hk
          exact Nat.le_trans HSI.out.fr.size hle
  case done =>
    intro D W hD hI hk
    obtain ⟨v, hv1, hv2, hv3⟩ := hI.v
    have hD6 : b6 ≠ D := ne_other hI.k6 hk rfl
    have hvs : v.oneCell' = true := by
      obtain ⟨ad', cap', e, _⟩ := hv2.slice
      rw [e]; rfl
    gi_wp2_with (first
      | (refine wpListIn_load_row rfl 27 _ rfl b8 rfl 27 _ (0, 0) _ hv1 Try.underlying27 rfl Try.size27 ?_)
      | (refine wpListIn_store_row rfl 27 _ _ rfl b6 #[.int .i64 (m : Int), .int .i64 (B : Int), .int .i64 (st : Int), v] rfl rfl 27 _ hI.k6 Try.size27 rfl (one4 _ _ _ _ rfl rfl rfl hvs) ?_)
      | fail)
    have hkD : (W.setRow b6 #[.int .i64 (m : Int), .int .i64 (B : Int), .int .i64 (st : Int), v]).heap[D]? = some (.deferred (some [])) := (setRow_other W b6 D _ (Ne.symm hD6)).trans hk
    have hb6 : Blk (W.setRow b6 #[.int .i64 (m : Int), .int .i64 (B : Int), .int .i64 (st : Int), v]) b6 27 #[.int .i64 (m : Int), .int .i64 (B : Int), .int .i64 (st : Int), v] := setRow_heap _ _ _ _ 27 _ hI.k6
    refine ⟨by simp, .inl ⟨_, _, rfl, run_takeDeferred hkD, ?_⟩⟩
    refine ⟨_, results_cell_row_tmp rfl _ _ b6 27 _ (0, 0) _ rfl (hb6.putObj (.deferred none) hkD rfl) Try.underlying27 rfl Try.size27, v, rfl, ?_, ?_⟩
    · exact (hv2.fr (fr_setRow W b6 _) (fun k hk2 e => hv2.ne hI.k6 (by decide) k hk2 e)).putObj _ hkD rfl
    · exact (hI.fr.trans (fr_setRow W b6 _) (fun k hk2 e => by have := hI.l6; omega)).trans (fr_putObj (fun j => j = D) _ D _ rfl) (fun k hk2 e => by omega)
end Go.Proofs.Ytphjebbjhfnhoaa
