/- The law KindPuts: the walk (printed by wip/gen_kindputs.py). -/
import Derived.Test.YtdlfmchpaohoaaaKindPut3
import Derived.Test.YtdlfmchpaohoaaaKindAwake
namespace Go.Proofs.Ytdlfmchpaohoaaa
open Go.RowKit

theorem Kind.wds_byt (n : Nat) (h : n ≤ 255) : Byt (Kind.wds n) := by
  unfold Kind.wds
  refine Byt.append (Leb.putU_byte4 n (by omega) (by omega)) fun x hx => ?_
  rw [List.mem_replicate] at hx; omega

theorem Kind.put_byt (p r : Int) : Byt (Kind.put p r) := by
  rcases Kind.chk_cases p r with ⟨hl, h0, h1, h2, h3⟩ | hl
  · have hp : Kind.put p r = [96] ++ (Kind.wds p.toNat ++ Kind.wds r.toNat) := by unfold Kind.put; rw [if_pos hl, List.singleton_append]
    rw [hp]
    exact Byt.append (by intro n hn; simp at hn; omega) (Byt.append (Kind.wds_byt _ (by omega)) (Kind.wds_byt _ (by omega)))
  · have hp : Kind.put p r = [] := by unfold Kind.put; rw [if_neg (by omega)]
    rw [hp]; intro n hn; simp at hn

theorem Kind.putLim_byt (mn mx : Int) (c : Bool) (most : Int) (h0 : 0 ≤ mn) (h1 : mn < 4294967296) (h2 : 0 ≤ mx) (h3 : mx < 4294967296) : Byt (Kind.putLim mn mx c most) := by
  have b1 : Byt (Leb.putU 4 mn) := Leb.putU_byte4 mn h0 h1
  have b2 : Byt (Leb.putU 4 mx) := Leb.putU_byte4 mx h2 h3
  unfold Kind.putLim
  split
  · split
    · exact Byt.append (xs := [1]) (by intro n hn; simp at hn; omega) (Byt.append b1 b2)
    · exact Byt.append (xs := [0]) (by intro n hn; simp at hn; omega) b1
  · intro n hn; simp at hn

set_option maxRecDepth 100000 in
set_option maxHeartbeats 4000000 in
theorem kindPuts_walk (p r mn mx most : Int) (c : Bool) (w : World) (h0 : 0 ≤ mn) (h1 : mn < 4294967296) (h2 : 0 ≤ mx) (h3 : mx < 4294967296) :
    Calls Try.prog 9 #[.agg #[.int .i64 p, .int .i64 r], .agg #[.int .u32 mn, .int .u32 mx, .bool c], .int .u32 most] w fun e w' => e = .returned (.bool true) ∧ Below w.heap.size w w' := by
  have HP := Lib.hid (Kind.put_byt p r)
  have HQ := Lib.hid (Kind.putLim_byt mn mx c most h0 h1 h2 h3)
  have T0 := Lib.hid ((VB.new w 42 #[.int .i64 p, .int .i64 r]).alloc (.cells #[.int .u32 mn, .int .u32 mx, .bool c] 46))
  have L0 := Lib.hid (VB.new (w.alloc (.cells #[.int .i64 p, .int .i64 r] 42)) 46 #[.int .u32 mn, .int .u32 mx, .bool c])
  simp only [World.size_alloc] at L0
  have B0 := Lib.hid (B.alloc (B.alloc (B.refl w) (.cells #[.int .i64 p, .int .i64 r] 42)) (.cells #[.int .u32 mn, .int .u32 mx, .bool c] 46))
  go_enter Try.func9, Try.ntmps9
  go_wp2_with fail
  refine (kindPut p r _).mono ?_
  rintro _ w1 ⟨⟨v1, rfl, o1⟩, b1⟩
  obtain ⟨A1, k1, rfl, _, _⟩ := o1.len
  have S1 := Lib.hid o1; clear o1
  have T1 := Lib.hid (T0.out.call b1); clear T0
  have L1 := Lib.hid (L0.out.call b1); clear L0
  have B1 := Lib.hid (B.call B0.out b1)
  have c0_1 := T1.out.cell 0
  have c1_1 := T1.out.cell 1
  have d0_1 := L1.out.cell 0
  have d1_1 := L1.out.cell 1
  have d2_1 := L1.out.cell 2
  simp at c0_1 c1_1 d0_1 d1_1 d2_1
  clear b1
  go_wp2_with fail
  refine (refPut p r _).mono ?_
  rintro _ w2 ⟨⟨v2, rfl, o2⟩, b2⟩
  obtain ⟨A2, k2, rfl, _, _⟩ := o2.len
  have S2 := Lib.hid o2; clear o2
  have T2 := Lib.hid (T1.out.call b2); clear T1
  have L2 := Lib.hid (L1.out.call b2); clear L1
  have B2 := Lib.hid (B.call B1.out b2)
  have S1_ := Lib.hid (S1.out.below b2 (Nat.le_refl _)); clear S1
  have S1 := S1_; clear S1_
  have c0_2 := T2.out.cell 0
  have c1_2 := T2.out.cell 1
  have d0_2 := L2.out.cell 0
  have d1_2 := L2.out.cell 1
  have d2_2 := L2.out.cell 2
  simp at c0_2 c1_2 d0_2 d1_2 d2_2
  clear b2
  clear c0_1 c1_1 d0_1 d1_1 d2_1
  go_wp2_with fail
  refine (kindPutLim mn mx most c _ h0 h1 h2 h3).mono ?_
  rintro _ w3 ⟨⟨v3, rfl, o3⟩, b3⟩
  obtain ⟨A3, k3, rfl, _, _⟩ := o3.len
  have S3 := Lib.hid o3; clear o3
  have T3 := Lib.hid (T2.out.call b3); clear T2
  have L3 := Lib.hid (L2.out.call b3); clear L2
  have B3 := Lib.hid (B.call B2.out b3)
  have S1_ := Lib.hid (S1.out.below b3 (Nat.le_refl _)); clear S1
  have S1 := S1_; clear S1_
  have S2_ := Lib.hid (S2.out.below b3 (Nat.le_refl _)); clear S2
  have S2 := S2_; clear S2_
  have c0_3 := T3.out.cell 0
  have c1_3 := T3.out.cell 1
  have d0_3 := L3.out.cell 0
  have d1_3 := L3.out.cell 1
  have d2_3 := L3.out.cell 2
  simp at c0_3 c1_3 d0_3 d1_3 d2_3
  clear b3
  clear c0_2 c1_2 d0_2 d1_2 d2_2
  go_wp2_with fail
  refine (refPutLim mn mx most c _ h0 h1 h2 h3).mono ?_
  rintro _ w4 ⟨⟨v4, rfl, o4⟩, b4⟩
  obtain ⟨A4, k4, rfl, _, _⟩ := o4.len
  have S4 := Lib.hid o4; clear o4
  have T4 := Lib.hid (T3.out.call b4); clear T3
  have L4 := Lib.hid (L3.out.call b4); clear L3
  have B4 := Lib.hid (B.call B3.out b4)
  have S1_ := Lib.hid (S1.out.below b4 (Nat.le_refl _)); clear S1
  have S1 := S1_; clear S1_
  have S2_ := Lib.hid (S2.out.below b4 (Nat.le_refl _)); clear S2
  have S2 := S2_; clear S2_
  have S3_ := Lib.hid (S3.out.below b4 (Nat.le_refl _)); clear S3
  have S3 := S3_; clear S3_
  have c0_4 := T4.out.cell 0
  have c1_4 := T4.out.cell 1
  have d0_4 := L4.out.cell 0
  have d1_4 := L4.out.cell 1
  have d2_4 := L4.out.cell 2
  simp at c0_4 c1_4 d0_4 d1_4 d2_4
  clear b4
  clear c0_3 c1_3 d0_3 d1_3 d2_3
  go_wp2_with fail
  go_region_held3 (fun w' => w'.cell? ⟨w.heap.size, 0, none⟩ = some (.int .i64 p) ∧ w'.cell? ⟨w.heap.size, 1, none⟩ = some (.int .i64 r) ∧ w'.cell? ⟨w.heap.size + 1, 0, none⟩ = some (.int .u32 mn) ∧ w'.cell? ⟨w.heap.size + 1, 1, none⟩ = some (.int .u32 mx) ∧ w'.cell? ⟨w.heap.size + 1, 2, none⟩ = some (.bool c))
    (first | go_keep | (go_split_ands; exact ⟨cellK b10 (by assumption), cellK b10 (by assumption), cellK b10 (by assumption), cellK b10 (by assumption), cellK b10 (by assumption)⟩) | (go_split_ands; exact ⟨cellK b9 (by assumption), cellK b9 (by assumption), cellK b9 (by assumption), cellK b9 (by assumption), cellK b9 (by assumption)⟩) | (go_split_ands; exact ⟨cellK b8 (by assumption), cellK b8 (by assumption), cellK b8 (by assumption), cellK b8 (by assumption), cellK b8 (by assumption)⟩) | (go_split_ands; exact ⟨cellK b7 (by assumption), cellK b7 (by assumption), cellK b7 (by assumption), cellK b7 (by assumption), cellK b7 (by assumption)⟩) | (go_split_ands; exact ⟨cellK b6 (by assumption), cellK b6 (by assumption), cellK b6 (by assumption), cellK b6 (by assumption), cellK b6 (by assumption)⟩))
    ((first
      | (go_at_call 13; refine (sameBytes S1.out.drew S2.out.drew HP.out HP.out true (by simp)).mono ?_; rintro _ _ ⟨rfl, rfl⟩)
      | (go_at_call 13; refine (sameBytes S3.out.drew S4.out.drew HQ.out HQ.out true (by simp)).mono ?_; rintro _ _ ⟨rfl, rfl⟩)
      | (go_at_call 32; refine (kindCheck _ _ _).mono ?_; rintro _ w6 ⟨rfl, b6⟩)
      | (go_at_call 33; refine (refCheck _ _ _).mono ?_; rintro _ w7 ⟨rfl, b7⟩)
      | (go_at_call 34; refine (kindCheckLim _ _ _ _ _).mono ?_; rintro _ w8 ⟨rfl, b8⟩)
      | (go_at_call 35; refine (refCheckLim _ _ _ _ _).mono ?_; rintro _ w9 ⟨rfl, b9⟩)
      | (go_at_call 27; refine (awake04 _).mono ?_; rintro _ w10 ⟨rfl, b10⟩)))
  all_goals go_wp2_with fail
  all_goals go_returns
  all_goals exact ⟨rfl, B.call (B.call (B.call (B.call (B.call (B4.out.trans ((Below.refl _ w4).drew)) b6) b7) b8) b9) b10⟩

theorem wf_u32 {n : Int} (h : (Lit.int .u32 n).wf = true) : 0 ≤ n ∧ n < 4294967296 := by
  have := bounds_u32 h; omega

theorem kindPutsWalk (p r mn mx : Int) (c : Bool) (most : Int) (w : World) (_h1 : (Lit.int .i64 p).wf = true) (_h2 : (Lit.int .i64 r).wf = true) (h3 : (Lit.int .u32 mn).wf = true) (h4 : (Lit.int .u32 mx).wf = true) (_h5 : (Lit.int .u32 most).wf = true) :
    Calls Try.prog 9 #[.agg #[.int .i64 p, .int .i64 r], .agg #[.int .u32 mn, .int .u32 mx, .bool c], .int .u32 most] w fun e w' => e = .returned (.bool true) ∧ Below w.heap.size w w' :=
  kindPuts_walk p r mn mx most c w (wf_u32 h3).1 (wf_u32 h3).2 (wf_u32 h4).1 (wf_u32 h4).2

end Go.Proofs.Ytdlfmchpaohoaaa
