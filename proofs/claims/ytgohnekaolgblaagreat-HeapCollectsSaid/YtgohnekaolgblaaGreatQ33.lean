/- gimletlaw29.HeapCollects: the walk behind the guards (printed by wip/gen_hcd.py). -/
import Derived.Test.YtgohnekaolgblaaGreatQ37
import Derived.Test.YtgohnekaolgblaaGreatQ05
namespace Go.Proofs.YtgohnekaolgblaaGreat
open Go.RowKit

set_option maxRecDepth 100000 in
set_option maxHeartbeats 4000000 in
theorem hcYes (A1 A2 : Option Addr) (c1 c2 : Nat) (st : Int) (sec : Bool) (ls rs : List Int) (hs : List Nat) (w : World) (p1 p2 p3 p4 at_ : Int) (l : Pl p1 p2 p3 p4 at_)
    (hl : Sees .u32 w (.slice A1 ls.length c1) ls) (hv : Sees .u32 w (.slice A2 rs.length c2) rs) (hr : ∀ x ∈ ls, 0 ≤ x ∧ x < 4294967296) (hrr : ∀ x ∈ rs, 0 ≤ x ∧ x < 4294967296) (h1 : ls.length ≤ 500) (h2 : rs.length ≤ 100) (h3 : st ≤ 1000) (hc : Hp.chk ls 16 rs = 0) (ok : Hp.Ok ls 16 rs hs)
    (LY : ∀ wr vz, Below w.heap.size w wr → Sees .u32 wr vz (List.replicate ls.length 0) → Calls Tryz.prog 6 #[.int .u32 st, vz, .slice A2 rs.length c2, .bool sec] wr fun e w' => ∃ v, e = .returned v ∧ LaysEnd wr (heapFns p1) p1 p2 p3 p4 at_ (List.replicate ls.length 0) rs v w') :
    Calls Tryz.prog 3 #[.int .u32 st, .slice A1 ls.length c1, .slice A2 rs.length c2, .bool sec] w fun e w' => e = .returned (.bool true) ∧ Below w.heap.size w w' := by
  have CK := fun w' (hb : Below w.heap.size w w') => rhCheck _ _ ls rs 16 w' (hl.below hb (Nat.le_refl _)) (hv.below hb (Nat.le_refl _)) hr hrr (by omega) (by omega) (by omega)
  rw [hc] at CK
  have AW := Lib.hid (hpAwake w)
  have SL := Lib.hid fun w' (h : Below w.heap.size w w') => hl.below h (Nat.le_refl _)
  replace CK := Lib.hid CK
  replace LY := Lib.hid LY
  replace hr := Lib.hid hr
  replace hrr := Lib.hid hrr
  have h1I : (ls.length : Int) ≤ 500 := by omega
  have h2I : (rs.length : Int) ≤ 100 := by omega
  obtain ⟨q1, q2, q3, q4, q5, q6, q7, q8, q9⟩ := id l
  clear q2 q3 q4
  replace q9 : p2 ≤ at_ ∧ at_ ≤ p3 := by omega
  replace l := Lib.hid l
  replace ok := Lib.hid ok
  clear hl hv hc
  go_enter Tryz.func3, Tryz.ntmps3
  go_wp2_with fail
  refine AW.out.mono ?_
  rintro _ w1 ⟨rfl, b1⟩
  replace b1 := Lib.hid b1
  go_wp2_with fail
  refine (CK.out _ b1.out).mono ?_
  rintro _ w2 ⟨rfl, b2⟩
  have b02 := Lib.hid (b1.out.trans (b2.mono b1.out.size))
  clear b2 b1
  go_wp2_with fail
  refine (rlPlain _ ls w2 (SL.out _ b02.out) (by omega)).mono ?_
  rintro _ w3 ⟨o, rfl, ho, b3⟩
  have b03 := Lib.hid (b02.out.trans (b3.mono b02.out.size))
  have so := Lib.hid ho.sees
  clear b3 b02 ho
  go_wp2_with fail
  refine (LY.out w3 o b03.out so.out).mono ?_
  rintro _ w4 ⟨v, rfl, A, Al, Ar, cf, g, gD, cD, cl, cr, bs, S, rfl, kf, ⟨T, hg⟩, oD, hbs, oAl, oAr, hF, hgD, hg0, b4⟩
  simp only [List.length_replicate] at hbs oAl hg ⊢
  rw [show (heapFns p1).length = 4 from rfl] at kf ⊢
  have b04 := Lib.hid (b03.out.trans (b4.mono b03.out.size))
  have hs03 := b03.out.size
  replace kf := Lib.hid kf
  replace hg := Lib.hid hg
  replace oD := Lib.hid oD
  replace hbs := Lib.hid hbs
  replace oAl := Lib.hid oAl
  replace oAr := Lib.hid oAr
  replace hF := Lib.hid hF
  clear b4 b03 LY CK AW so
  go_wp2_with fail
  have H5 := Hc.start b04.out hs03 kf.out hF.out hg.out oD.out oAr.out hgD #[.slice A 4 cf, .slice (some ⟨g, 0, none⟩) 5 5, .slice (some ⟨gD, 0, none⟩) bs.length cD, .int .i64 4, .int .i64 0] #[.int .u32 16, .int .u32 p1, .int .u32 p2, .int .u32 p3, .int .u32 p4, .slice Al ls.length cl, .int .u32 at_, .slice Ar rs.length cr]
  refine (rlRelaid _ ls hs at_ _ ok.out.heads (SL.out _ H5.b) hr.out (by omega)).mono ?_
  rintro _ w6 ⟨o, R, rfl, oR, b6, rl⟩
  obtain ⟨AR, cR, rfl, -, -⟩ := oR.sees.len
  have hRl := rl.len
  have H6 := Lib.hid ((H5.call b6).row (oR.mono H5.b.size))
  obtain ⟨pb, hpb⟩ : ∃ pb, pb = w4.heap.size := ⟨_, rfl⟩
  obtain ⟨rb, hrb⟩ : ∃ rb, rb = w4.heap.size + 1 := ⟨_, rfl⟩
  rw [← hrb, ← hpb] at H6 ⊢
  obtain ⟨ok2, hRr, hm1, hm2, gsl, s1, egs, hgs, runs, says⟩ := askedI ok.out hr.out hrr.out h1 h2 l.out rl _ rfl
  have hyr : ∀ x ∈ rs.map (Hp.shift 16 at_), 0 ≤ x ∧ x < 4294967296 := by
    intro x hx
    obtain ⟨y, hy, rfl⟩ := List.mem_map.1 hx
    exact shift_range _ _ (hrr.out y hy)
  have hpl : Hp.place (p2 + p3 - at_) := by
    obtain ⟨k1, k2, k3, k4, k5, k6, k7, k8, k9⟩ := l.out
    exact ⟨by omega, by omega, by omega⟩
  have hbl : bs.length ≤ at_.toNat - 16 + 4 * ls.length ∧ at_.toNat - 16 + 4 * ls.length ≤ bs.length := by
    rw [hbs.out, putWs_length, putWs_length, List.length_replicate]
    omega
  have hbr : ∀ x ∈ putWs bs (at_.toNat - 16) R, 0 ≤ x ∧ x < 256 := by
    rw [hbs.out]
    exact putWs_range _ _ _ (putWs_range _ _ _ (putWs_range _ _ _ fun y hy => by rw [List.mem_replicate] at hy; omega))
  have hbs2 : putWs bs (at_.toNat - 16) R = putWs (putWs (putWs (List.replicate (at_.toNat - 16 + 4 * ls.length) 0) (at_.toNat - 16) ((List.replicate ls.length 0).map (Hp.shift 16 at_))) (p1.toNat - 16) (rs.map (Hp.shift 16 at_))) (at_.toNat - 16) R := by rw [← hbs.out]
  rw [← hbs2] at runs
  have hfit : at_.toNat - 16 + 4 * R.length ≤ bs.length := by omega
  have hbig : bs.length ≤ 262128 := by omega
  have hRI : R.length ≤ 500 := by omega
  obtain ⟨ys, hys⟩ : ∃ ys, ys = rs.map (Hp.shift 16 at_) := ⟨_, rfl⟩
  rw [← hys] at ok2 says hyr H6 hm1 hm2
  obtain ⟨mv, hmv⟩ : ∃ mv, mv = Hp.move R at_ ys (p2 + p3 - at_) := ⟨_, rfl⟩
  rw [← hmv] at says hm1 hm2
  have M2 : Hid (∀ (vs vr : Value) w1 pb rb g gD cD bs T gs fs vf ps rc, Hc w w1 pb rb g gD cD bs T gs vs ys vr R fs vf ps rc → Calls Tryz.prog 10 #[vr, .int .u32 at_, vs, .int .u32 (p2 + p3 - at_)] w1 fun e w' => ∃ A3 c3 A4 c4, e = .returned (.tuple #[.slice A3 mv.1.length c3, .slice A4 mv.2.length c4, .int .i64 0]) ∧ Owns 22 .u32 w.heap.size w' (.slice A3 mv.1.length c3) mv.1 ∧ Owns 22 .u32 w.heap.size w' (.slice A4 mv.2.length c4) mv.2 ∧ Hc w w' pb rb g gD cD bs T gs vs ys vr R fs vf ps rc) := by
    refine Lib.hid ?_
    intro vs vr w1 pb rb g gD cD bs T gs fs vf ps rc h
    rw [hmv]
    exact hcMove h ok2 hRr hyr hpl
  have hmr := Lib.hid (show ∀ x ∈ mv.2, 0 ≤ x ∧ x < 4294967296 by rw [hmv]; exact (Hp.move_range ok2 ⟨by have := hpl.1; omega, hpl.2.2⟩ hRr hyr).2)
  obtain ⟨bs2, hb2⟩ : ∃ bs2, bs2 = putWs bs (at_.toNat - 16) R := ⟨_, rfl⟩
  have hb2l := Lib.hid (show bs2.length = bs.length by rw [hb2, putWs_length])
  rw [← hb2] at runs hbr
  obtain ⟨x0, x1, x2, x3, x4, x5, x6, x7⟩ := H6.out.rCells
  obtain ⟨y0, y1, y2, y3, y4⟩ := H6.out.pCells
  have hne : pb ≠ rb := by omega
  have fr := H6.out.r.free 5
  clear kf hF hg oD oAr oAl hgD hg0 H5 b6 oR b04 hs03 hpb hrb ok2 hyr hpl hbs2 rl
  replace hmv := Lib.hid hmv
  replace hys := Lib.hid hys
  replace hbs := Lib.hid hbs
  replace hb2 := Lib.hid hb2
  replace runs := Lib.hid runs
  replace says := Lib.hid says
  replace egs := Lib.hid egs
  replace hgs := Lib.hid hgs
  replace hbr := Lib.hid hbr
  replace hRr := Lib.hid hRr
  replace hRl := Lib.hid hRl
  replace hm2 := Lib.hid hm2
  go_wp2_with fail
  have H7 : Hc w _ pb rb g gD cD bs T _ _ _ _ _ _ _ _ #[.int .u32 16, .int .u32 p1, .int .u32 p2, .int .u32 p3, .int .u32 p4, .slice AR R.length cR, .int .u32 at_, .slice Ar rs.length cr] := H6.out.setR 5 (.slice AR R.length cR)
  refine (hcWith H7 (by omega) hfit (by omega) hRr.out).mono ?_
  rintro _ w8 ⟨rfl, H8⟩
  rw [← hb2.out] at H8
  clear fr
  have f0 := H8.p.free 0
  have f1 := H8.p.free 1
  have f2 := H8.p.free 2
  have f3 := H8.p.free 3
  have f4 := H8.p.free 4
  replace H8 := Lib.hid H8
  clear H7 H6 x0 x1 x2 x3 x4 x5 x6 x7 y0 y1 y2 y3 y4
  obtain ⟨x0, x1, x2, x3, x4, x5, x6, x7⟩ := H8.out.rCells
  obtain ⟨y0, y1, y2, y3, y4⟩ := H8.out.pCells
  go_wp2_with fail
  have H9 := H8.out.set5 (.slice A 4 cf) (.slice (some ⟨g, 0, none⟩) 5 5) (.slice (some ⟨gD, 0, none⟩) bs.length cD) (.int .i64 4) (.int .i64 0)
  refine (M2.out _ _ _ _ _ _ _ _ _ _ _ _ _ _ _ H9).mono ?_
  rintro _ w10 ⟨A3, c3, A4, c4, rfl, m1, m2, H10⟩
  replace m1 := Lib.hid m1
  replace m2 := Lib.hid m2
  replace H10 := Lib.hid H10
  clear f0 f1 f2 f3 f4
  clear H9 H8 x0 x1 x2 x3 x4 x5 x6 x7 y0 y1 y2 y3 y4 M2
  obtain ⟨x0, x1, x2, x3, x4, x5, x6, x7⟩ := H10.out.rCells
  obtain ⟨y0, y1, y2, y3, y4⟩ := H10.out.pCells
  go_wp2_with fail
  refine (hcAsks H10.out).mono ?_
  rintro _ w11 ⟨A', c', rfl, b11, H11⟩
  have m1' := m1.out.below b11 (Nat.le_refl _)
  have m2' := m2.out.below b11 (Nat.le_refl _)
  replace m1 := Lib.hid m1'
  replace m2 := Lib.hid m2'
  have f0 := H11.p.free 0
  have f1 := H11.p.free 1
  have f2 := H11.p.free 2
  have f3 := H11.p.free 3
  have f4 := H11.p.free 4
  replace H11 := Lib.hid H11
  clear H10 x0 x1 x2 x3 x4 x5 x6 x7 y0 y1 y2 y3 y4 m1' m2' b11
  obtain ⟨x0, x1, x2, x3, x4, x5, x6, x7⟩ := H11.out.rCells
  obtain ⟨y0, y1, y2, y3, y4⟩ := H11.out.pCells
  have h4 : 16 ≤ p4 ∧ p4 ≤ 262136 := by omega
  go_wp2_with fail
  have H12 := H11.out.set5 (.slice A' 5 c') (.slice (some ⟨g, 0, none⟩) 5 5) (.slice (some ⟨gD, 0, none⟩) bs.length cD) (.int .i64 4) (.int .i64 4)
  have m1' := H11.out.keep5 m1.out (.slice A' 5 c') (.slice (some ⟨g, 0, none⟩) 5 5) (.slice (some ⟨gD, 0, none⟩) bs.length cD) (.int .i64 4) (.int .i64 4)
  have m2' := H11.out.keep5 m2.out (.slice A' 5 c') (.slice (some ⟨g, 0, none⟩) 5 5) (.slice (some ⟨gD, 0, none⟩) bs.length cD) (.int .i64 4) (.int .i64 4)
  have C := hcCall H12 (by omega) (by rw [hb2l.out]; omega) hbr.out egs.out hgs.out h1 h2 h4 runs.out
  rw [hb2l.out] at C
  obtain ⟨nB, hnB⟩ : ∃ nB, nB = (p4 - 16).toNat := ⟨_, rfl⟩
  have hnB1 : (nB : Int) ≤ p4 - 16 := by omega
  have hnB2 : p4 - 16 ≤ (nB : Int) := by omega
  rw [← hnB] at C
  clear hnB
  refine C.mono ?_
  rintro _ w13 ⟨g2, outv, rfl, sB, sO, b13⟩
  have H13 := Lib.hid (H12.call b13)
  have S3 := Lib.hid (m1'.below b13 (Nat.le_refl _)).sees
  have S4 := Lib.hid (m2'.below b13 (Nat.le_refl _)).sees
  obtain ⟨AO, cO, rfl, -, -⟩ := sO.len
  rw [List.length_map, says.out.outl] at sO ⊢
  replace sB := Lib.hid sB
  replace sO := Lib.hid sO
  clear H12 H11 m1 m2 m1' m2' b13 C x0 x1 x2 x3 x4 x5 x6 x7 y0 y1 y2 y3 y4 f0 f1 f2 f3 f4 runs egs hgs hbr hRr SL hr hrr hbs hb2 hb2l
  obtain ⟨x0, x1, x2, x3, x4, x5, x6, x7⟩ := H13.out.rCells
  have rlt := H13.out.r.lt
  go_wp2_with fail
  have X13 := VB.new w13 44 #[.int .i64 0, .int .i64 0, .int .i64 0, .int .i64 (s1.used : Int), .slice AO 24 cO]
  have H14 := H13.out.call (B.alloc (B.refl w13) (.cells #[.int .i64 0, .int .i64 0, .int .i64 0, .int .i64 (s1.used : Int), .slice AO 24 cO] 44))
  have S3' := S3.out.alloc (.cells #[.int .i64 0, .int .i64 0, .int .i64 0, .int .i64 (s1.used : Int), .slice AO 24 cO] 44)
  have S4' := S4.out.alloc (.cells #[.int .i64 0, .int .i64 0, .int .i64 0, .int .i64 (s1.used : Int), .slice AO 24 cO] 44)
  have sB' := sB.out.alloc (.cells #[.int .i64 0, .int .i64 0, .int .i64 0, .int .i64 (s1.used : Int), .slice AO 24 cO] 44)
  have sO' := sO.out.alloc (.cells #[.int .i64 0, .int .i64 0, .int .i64 0, .int .i64 (s1.used : Int), .slice AO 24 cO] 44)
  obtain ⟨wF, hwF⟩ : ∃ wF, wF = w13.alloc (.cells #[.int .i64 0, .int .i64 0, .int .i64 0, .int .i64 (s1.used : Int), .slice AO 24 cO] 44) := ⟨_, rfl⟩
  obtain ⟨xb, hxb⟩ : ∃ xb, xb = w13.heap.size := ⟨_, rfl⟩
  rw [← hwF, ← hxb] at X13
  rw [← hwF] at H14 S3' S4' sB' sO'
  rw [← hwF, ← hxb]
  clear hwF hxb S3 S4 sB sO H13 rlt x0 x1 x2 x3 x4 x5 x6 x7
  have H14 := Lib.hid H14
  have X14 := Lib.hid X13
  have S3 := Lib.hid S3'
  have S4 := Lib.hid S4'
  have sB := Lib.hid sB'
  have sO := Lib.hid sO'
  clear X13 S3' S4' sB' sO'
  go_loopw [21] (fun qv wr => ∃ i : Nat, qv = .int .i64 (i : Int) ∧ i ≤ mv.1.length ∧ Below wF.heap.size wF wr) (fun qv _ => mv.1.length - (intOf qv).toNat)
  case atStart => exact ⟨0, rfl, by omega, Below.refl _ _⟩
  case round =>
    obtain ⟨i, rfl, hi, hb⟩ := hrel
    by_cases hil : i < mv.1.length
    · obtain ⟨A'', c'', he, -, -, h3'⟩ := S3.out.below hb (Nat.le_refl _)
      simp only [Value.slice.injEq] at he
      obtain ⟨rfl, -, rfl⟩ := he
      obtain ⟨b3, off3, rfl, hc3⟩ := h3' (by intro e; rw [e] at hil; simp at hil)
      have hci := hc3 i hil
      obtain ⟨x, hx⟩ : ∃ x, x = mv.1[i] := ⟨_, rfl⟩
      rw [← hx] at hci
      have hw := says.out.words i x (by rw [hx, List.getElem?_eq_getElem hil])
      have C : ∀ nq, Calls Tryz.prog 13 #[.slice (some ⟨g2, 0, none⟩) nB nB, .int .u32 (p2 + p3 - at_ + 4 * (i : Int))] (wr.drewN nq) fun e w' => e = .returned (.int .u32 x) ∧ w' = wr.drewN nq := by
        intro nq
        have k := rlGet (.slice (some ⟨g2, 0, none⟩) nB nB) (bytesAt s1.L nB) (p2 + p3 - at_ + 4 * (i : Int)) ((p2 + p3 - at_).toNat - 16 + 4 * i) (wr.drewN nq) ((sB.out.below hb (Nat.le_refl _)).drewN nq) (by omega) (by rw [bytesAt_length]; omega) (by rw [bytesAt_length]; omega) (bytesAt_range says.out.byt nB)
        rw [bytesAt_word (by omega), show (16 : Int) + (((p2 + p3 - at_).toNat - 16 + 4 * i : Nat) : Int) = p2 + p3 - at_ + 4 * (i : Int) by omega, hw] at k
        exact k
      have hiI : (i : Int) < (mv.1.length : Int) := by omega
      have HB := Lib.hid hb
      replace C := Lib.hid C
      clear hc3 hx hw h3' hb
      go_wp2_with fail
      go_quiet (first | (go_at_call 13; refine Calls.quiet_of_same (C.out _)))
      go_wp2_with fail
      go_roundw
      case measure => simp only [intOf]; omega
      case rel => exact ⟨i + 1, by simp, by omega, below_drewT HB.out _⟩
    · obtain rfl : i = mv.1.length := by omega
      have HB := Lib.hid hb
      clear hb hi hil
      go_wp2_with fail
      have hm2I : (mv.2.length : Int) ≤ 100 := by have := hm2.out; rw [this]; omega
      obtain ⟨wG, rfl⟩ : ∃ wG, wG = wr := ⟨_, rfl⟩
      go_loopw [22] (fun qv wr => ∃ i : Int, qv = .int .u32 i ∧ 16 ≤ i ∧ i ≤ p2 ∧ Below wF.heap.size wF wr) (fun qv _ => (p2 - intOf qv).toNat)
      case atStart => exact ⟨16, rfl, by omega, by omega, HB.out⟩
      case round =>
        clear HB
        obtain ⟨i, rfl, h16, hip, hb⟩ := hrel
        obtain ⟨x0, x1, x2, x3, x4, x5, x6, x7⟩ := (H14.out.call hb).rCells
        have hrb := (H14.out.call hb).r.lt
        by_cases hil : i < p2
        · have hlow := says.out.low i h16 hil
          have hbc : wr.cell? ⟨g2, (i - 16).toNat, none⟩ = some (.int .u8 (Mm.get s1.L i)) := by
            obtain ⟨A'', c'', he, -, -, h3'⟩ := sB.out.below hb (Nat.le_refl _)
            simp only [Value.slice.injEq] at he
            have hj : (i - 16).toNat < (bytesAt s1.L nB).length := by rw [bytesAt_length]; omega
            obtain ⟨b3, off3, rfl, hc3⟩ := h3' (by intro e; rw [e] at hj; simp at hj)
            simp only [Option.some.injEq, Addr.mk.injEq, and_true] at he
            obtain ⟨⟨rfl, rfl⟩, -⟩ := he
            have := hc3 _ hj
            rw [Nat.zero_add] at this
            rw [this]
            have e := bytesAt_get (L := s1.L) (n := nB) (i := (i - 16).toNat) (by omega)
            rw [List.getElem?_eq_getElem hj] at e
            rw [Option.some.inj e, show (16 : Int) + ((i - 16).toNat : Int) = i by omega]
          have hj0 : 0 ≤ i - 16 := by omega
          have hj1 : i - 16 < (nB : Int) := by omega
          by_cases ha : p1 ≤ i ∧ (i - p1) / 4 < (mv.2.length : Int)
          · obtain ⟨ha1, ha2⟩ := ha
            rw [if_pos ⟨ha1, ha2⟩] at hlow
            have ha0 : 0 ≤ (i - p1) / 4 := by omega
            have hk : ((i - p1) / 4).toNat < mv.2.length := by omega
            obtain ⟨A'', c'', he, -, -, h3'⟩ := S4.out.below hb (Nat.le_refl _)
            simp only [Value.slice.injEq] at he
            obtain ⟨rfl, -, rfl⟩ := he
            obtain ⟨b4, off4, rfl, hc4⟩ := h3' (by intro e; rw [e] at hk; simp at hk)
            have hck := hc4 _ hk
            have hxr := hmr.out _ (List.getElem_mem hk)
            have hxg : mv.2.getD ((i - p1) / 4).toNat 0 = mv.2[((i - p1) / 4).toNat] := by rw [List.getD_eq_getElem?_getD, List.getElem?_eq_getElem hk]; rfl
            rw [hxg] at hlow
            obtain ⟨x, hx⟩ : ∃ x, x = mv.2[((i - p1) / 4).toNat] := ⟨_, rfl⟩
            rw [← hx] at hck hxr hlow
            have hB := Lib.hid hb
            clear hc4 h3' hx hxg hb hk
            rcases (by omega : (i - p1) % 4 = 0 ∨ (i - p1) % 4 = 1 ∨ (i - p1) % 4 = 2 ∨ (i - p1) % 4 = 3) with ht | ht | ht | ht
            · have e : x / 256 ^ (0 : Int).toNat % 256 = x % 256 := by rw [show (256 : Int) ^ (0 : Int).toNat = 1 from rfl, Int.ediv_one]
              rw [ht, e] at hlow
              rw [hlow] at hbc
              clear hlow e
              go_wp2_with fail
              go_quiet (fail)
              go_wp2_with fail
              go_roundw
              case measure => simp only [intOf]; omega
              case rel => exact ⟨i + 1, rfl, by omega, by omega, below_drewT hB.out _⟩
            · have e : x / 256 ^ (1 : Int).toNat % 256 = x / 256 % 256 := by rw [show (256 : Int) ^ (1 : Int).toNat = 256 from rfl]
              rw [ht, e] at hlow
              rw [hlow] at hbc
              clear hlow e
              go_wp2_with fail
              go_quiet (fail)
              go_wp2_with fail
              go_roundw
              case measure => simp only [intOf]; omega
              case rel => exact ⟨i + 1, rfl, by omega, by omega, below_drewT hB.out _⟩
            · have e : x / 256 ^ (2 : Int).toNat % 256 = x / 65536 % 256 := by rw [show (256 : Int) ^ (2 : Int).toNat = 65536 from rfl]
              rw [ht, e] at hlow
              rw [hlow] at hbc
              clear hlow e
              go_wp2_with fail
              go_quiet (fail)
              go_wp2_with fail
              go_roundw
              case measure => simp only [intOf]; omega
              case rel => exact ⟨i + 1, rfl, by omega, by omega, below_drewT hB.out _⟩
            · have e : x / 256 ^ (3 : Int).toNat % 256 = x / 16777216 := by rw [show (256 : Int) ^ (3 : Int).toNat = 16777216 from rfl]; omega
              rw [ht, e] at hlow
              rw [hlow] at hbc
              clear hlow e
              go_wp2_with fail
              go_quiet (fail)
              go_wp2_with fail
              go_roundw
              case measure => simp only [intOf]; omega
              case rel => exact ⟨i + 1, rfl, by omega, by omega, below_drewT hB.out _⟩
          · rw [if_neg ha] at hlow
            rw [hlow] at hbc
            have hB := Lib.hid hb
            clear hlow hb
            by_cases hp : p1 ≤ i
            · have hge : ¬ (i - p1) / 4 < (mv.2.length : Int) := fun h => ha ⟨hp, h⟩
              clear ha
              go_wp2_with fail
              go_roundw
              case measure => simp only [intOf]; omega
              case rel => exact ⟨i + 1, rfl, by omega, by omega, hB.out⟩
            · clear ha
              go_wp2_with fail
              go_roundw
              case measure => simp only [intOf]; omega
              case rel => exact ⟨i + 1, rfl, by omega, by omega, hB.out⟩
        · obtain rfl : i = p2 := by omega
          obtain ⟨wG, rfl⟩ : ∃ wG, wG = wr := ⟨_, rfl⟩
          obtain ⟨z0, z1, z2, z3, z4⟩ : wG.cell? ⟨xb, 0, none⟩ = some (.int .i64 0) ∧ wG.cell? ⟨xb, 1, none⟩ = some (.int .i64 0) ∧ wG.cell? ⟨xb, 2, none⟩ = some (.int .i64 0) ∧ wG.cell? ⟨xb, 3, none⟩ = some (.int .i64 (s1.used : Int)) ∧ wG.cell? ⟨xb, 4, none⟩ = some (.slice AO 24 cO) := by
            have X := X14.out.call hb
            exact ⟨X.cell 0, X.cell 1, X.cell 2, X.cell 3, X.cell 4⟩
          have SD : ∀ (j : Nat) (c r : Int), j ≤ 5 → (j : Int) = c → word4 (s1.out.map fun n : Nat => (n : Int)) (4 * j) = r → ∀ w', Below wG.heap.size wG w' → Calls Tryz.prog 14 #[.agg #[.int .i64 0, .int .i64 0, .int .i64 0, .int .i64 (s1.used : Int), .slice AO 24 cO], .int .i64 c] w' fun e w'' => e = .returned (.int .u32 r) ∧ Below w'.heap.size w' w'' := by
            rintro j c r hj rfl rfl w' hb'
            exact rlSaid _ _ _ _ AO cO _ j w' ((sO.out.below hb (Nat.le_refl _)).below hb' (Nat.le_refl _)) (by rw [List.length_map]; exact says.out.outl) hj says.out.outr
          have SD0 := Lib.hid (SD 0 0 _ (by decide) rfl says.out.said0)
          have v1 : IntKind.u32.wrap (p1 + IntKind.u32.wrap (4 * IntKind.u32.wrap (mv.2.length : Int))) = p1 + 4 * (mv.2.length : Int) := by
            rw [IntWalk.u32_in (mv.2.length : Int) (by omega), IntWalk.u32_in (4 * (mv.2.length : Int)) (by omega), IntWalk.u32_in _ (by omega)]
          have v2 : IntKind.u32.wrap (i + p3 - at_ + IntKind.u32.wrap (4 * IntKind.u32.wrap (mv.1.length : Int))) = i + p3 - at_ + 4 * (mv.1.length : Int) := by
            rw [IntWalk.u32_in (mv.1.length : Int) (by omega), IntWalk.u32_in (4 * (mv.1.length : Int)) (by omega), IntWalk.u32_in _ (by omega)]
          have v4 : IntKind.u32.wrap (IntKind.u32.wrap (i + p3 - at_ + p3) - i) = i + p3 - at_ + p3 - i := by
            rw [IntWalk.u32_in (i + p3 - at_ + p3) (by omega), IntWalk.u32_in _ (by omega)]
          have SD1 := Lib.hid (SD 1 1 _ (by decide) rfl (says.out.said1.trans v1.symm))
          have SD2 := Lib.hid (SD 2 2 _ (by decide) rfl (says.out.said2.trans v2.symm))
          have SD3 := Lib.hid (SD 3 3 _ (by decide) rfl says.out.said3)
          have SD4 := Lib.hid (SD 4 4 _ (by decide) rfl (says.out.said4.trans v4.symm))
          have SD5 := Lib.hid (SD 5 5 _ (by decide) rfl says.out.said5)
          have BW := Lib.hid ((H14.out.call hb).b)
          clear SD hb v1 v2 v4
          go_wp2_with fail
          go_region_held3 (fun w' => Below wG.heap.size wG w' ∧ w'.cell? ⟨xb, 0, none⟩ = some (.int .i64 0) ∧ w'.cell? ⟨xb, 1, none⟩ = some (.int .i64 0) ∧ w'.cell? ⟨xb, 2, none⟩ = some (.int .i64 0) ∧ w'.cell? ⟨xb, 3, none⟩ = some (.int .i64 (s1.used : Int)) ∧ w'.cell? ⟨xb, 4, none⟩ = some (.slice AO 24 cO) ∧ w'.cell? ⟨rb, 1, none⟩ = some (.int .u32 p1) ∧ w'.cell? ⟨rb, 2, none⟩ = some (.int .u32 i) ∧ w'.cell? ⟨rb, 3, none⟩ = some (.int .u32 p3) ∧ w'.cell? ⟨rb, 6, none⟩ = some (.int .u32 at_))
          (first
            | exact ⟨(B.refl wG).drew, z0, z1, z2, z3, z4, x1, x2, x3, x6⟩
            | (go_split_ands; exact ⟨B.call (by assumption) b5, cellK b5 (by assumption), cellK b5 (by assumption), cellK b5 (by assumption), cellK b5 (by assumption), cellK b5 (by assumption), cellK b5 (by assumption), cellK b5 (by assumption), cellK b5 (by assumption), cellK b5 (by assumption)⟩)
            | (go_split_ands; exact ⟨B.call (by assumption) b4, cellK b4 (by assumption), cellK b4 (by assumption), cellK b4 (by assumption), cellK b4 (by assumption), cellK b4 (by assumption), cellK b4 (by assumption), cellK b4 (by assumption), cellK b4 (by assumption), cellK b4 (by assumption)⟩)
            | (go_split_ands; exact ⟨B.call (by assumption) b3, cellK b3 (by assumption), cellK b3 (by assumption), cellK b3 (by assumption), cellK b3 (by assumption), cellK b3 (by assumption), cellK b3 (by assumption), cellK b3 (by assumption), cellK b3 (by assumption), cellK b3 (by assumption)⟩)
            | (go_split_ands; exact ⟨B.call (by assumption) b2, cellK b2 (by assumption), cellK b2 (by assumption), cellK b2 (by assumption), cellK b2 (by assumption), cellK b2 (by assumption), cellK b2 (by assumption), cellK b2 (by assumption), cellK b2 (by assumption), cellK b2 (by assumption)⟩)
            | (go_split_ands; exact ⟨B.call (by assumption) b1, cellK b1 (by assumption), cellK b1 (by assumption), cellK b1 (by assumption), cellK b1 (by assumption), cellK b1 (by assumption), cellK b1 (by assumption), cellK b1 (by assumption), cellK b1 (by assumption), cellK b1 (by assumption)⟩)
            | (go_split_ands; exact ⟨B.call (by assumption) b0, cellK b0 (by assumption), cellK b0 (by assumption), cellK b0 (by assumption), cellK b0 (by assumption), cellK b0 (by assumption), cellK b0 (by assumption), cellK b0 (by assumption), cellK b0 (by assumption), cellK b0 (by assumption)⟩))
          ((first
            | (go_at_call 14; go_split_ands; with_reducible refine (SD0.out _ (by assumption)).mono ?_; rintro _ w20 ⟨rfl, b0⟩)
            | (go_at_call 14; go_split_ands; with_reducible refine (SD1.out _ (by assumption)).mono ?_; rintro _ w21 ⟨rfl, b1⟩)
            | (go_at_call 14; go_split_ands; with_reducible refine (SD2.out _ (by assumption)).mono ?_; rintro _ w22 ⟨rfl, b2⟩)
            | (go_at_call 14; go_split_ands; with_reducible refine (SD3.out _ (by assumption)).mono ?_; rintro _ w23 ⟨rfl, b3⟩)
            | (go_at_call 14; go_split_ands; with_reducible refine (SD4.out _ (by assumption)).mono ?_; rintro _ w24 ⟨rfl, b4⟩)
            | (go_at_call 14; go_split_ands; with_reducible refine (SD5.out _ (by assumption)).mono ?_; rintro _ w25 ⟨rfl, b5⟩)))
          go_split_ands
          go_wp2_with fail
          go_returns
          exact ⟨rfl, B.call BW.out (by assumption)⟩
end Go.Proofs.YtgohnekaolgblaaGreat
