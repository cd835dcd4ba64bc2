/- What the functions come to. -/
import Derived.Test.YtniakiefibpgmaaGreatDoorF14
set_option linter.unusedVariables false
set_option linter.unusedSimpArgs false
namespace Go.Proofs.YtniakiefibpgmaaGreatDoorK
open Go.RowKit
abbrev hdN : List (List UInt8) := [[105, 102], [100, 101, 112, 116, 104], [120, 45, 97], [104, 111, 115, 116], [105, 102, 45, 109, 97, 116, 99, 104]]
abbrev hdW : List (List UInt8) := [[], [48], [105, 110, 102, 105, 110, 105, 116, 121], [97, 32, 98], [34, 118, 49, 34], [40, 60, 49, 62, 41]]
def HdsP (l : List HeadD) : Prop := ∀ h ∈ l, h.1 ∈ hdN ∧ h.2 ∈ hdW
theorem sl3DrawHeads_x (c : CurT) (h : CurP c) : ∃ (c' : CurT) (l : List HeadD), CurP c' ∧ (l.length ≤ 2 ∧ HdsP l) ∧ V sl3DrawHeads [.p 0 0 0] [curO c] = some ([some (curO c')], .one (.own (.sl THead l))) := by
  rw [V_eq (fn := sl3DrawHeads_m) (by kernel_rfl)]
  obtain ⟨c1, b1, h1, ⟨u1, u2⟩, e1⟩ := sl1Below_x c h 3
  obtain ⟨k, rfl⟩ := Int.eq_ofNat_of_zero_le u1
  have hk : k < 3 := by have := u2 (by omega); omega
  obtain ⟨e, σ', L, c2, p, h2, h3, rfl, rfl⟩ := loop_ex (X := V) (c := sl3DrawHeads_l0) k
    (fun i σ => ∃ (c : CurT) (p : List HeadD), CurP c ∧ (p.length = i ∧ HdsP p) ∧ σ = ⟨[(4, i6 ((k : Int) - i)), (3, .h 67 0 p.length), (0, .p 0 0 0)], [(67, .ls THead false p 0 []), (0, curO c)]⟩)
    (fun e σ => ∃ (c : CurT) (p : List HeadD), CurP c ∧ (p.length ≤ 2 ∧ HdsP p) ∧ e = .ex 0 ∧ σ = ⟨[(3, .h 67 0 p.length)], [(67, .ls THead false p 0 []), (0, curO c)]⟩)
    (fun i σ hi hI => by
      obtain ⟨c, p, h1, ⟨h2, h3⟩, rfl⟩ := hI
      obtain ⟨c', s, h4, h5, e2⟩ := sl1Str_x c h1 hdN (by simp) (by simp)
      obtain ⟨c'', s2, h6, h7, e3⟩ := sl1Str_x c' h4 hdW (by simp) (by simp)
      refine .inl ⟨_, ?_, c'', p ++ [(s, s2)], h6, ⟨by simp [h2], fun q hq => ?_⟩, rfl⟩
      · simp -implicitDefEqProofs [sl3DrawHeads_l0, e2, e3, (eq_true (by omega) : ((i : Int) < (k : Int)) = True), (wrI (by omega) (by omega) : IntKind.i64.wrap ((k : Int) - i - 1) = (k : Int) - i - 1), take_snoc_all rfl]
        omega
      · rcases List.mem_append.1 hq with hq | hq
        · exact h3 q hq
        · obtain rfl := List.mem_singleton.1 hq; exact ⟨h5, h7⟩)
    (fun σ hI => by
      obtain ⟨c, p, h1, ⟨h2, h3⟩, rfl⟩ := hI
      refine ⟨.ex 0, _, by simp, ?_, c, p, h1, ⟨by omega, h3⟩, rfl, rfl⟩
      simp -implicitDefEqProofs [sl3DrawHeads_l0])
    ⟨[(4, i6 k), (3, .h 67 0 0), (0, .p 0 0 0)], [(67, .ls THead false [] 0 []), (0, curO c1)]⟩ ⟨c1, [], h1, ⟨rfl, fun q hq => by cases hq⟩, by simp⟩
  exact ⟨c2, p, h2, h3, by simp -implicitDefEqProofs [sl3DrawHeads_m, e1, L, take_all rfl]⟩
abbrev bodW : List (List UInt8) := [[], [], [97], [104, 101, 108, 108, 111], [60, 97, 47, 62], [13, 10, 13, 10], [120, 0, 255]]
theorem sl3Body_x (c : CurT) (h : CurP c) : ∃ (c' : CurT) (s : List UInt8), CurP c' ∧ s ∈ bodW ∧ V sl3Body [.p 0 0 0] [curO c] = some ([some (curO c')], .one (.fz (.s s))) := by
  rw [V_eq (fn := sl3Body_m) (by kernel_rfl)]
  obtain ⟨c1, s, h1, hs, e1⟩ := sl1Str_x c h bodW (by simp) (by simp)
  exact ⟨c1, s, h1, hs, by simp -implicitDefEqProofs [sl3Body_m, e1]⟩
abbrev metW : List (List UInt8) := [[71, 69, 84], [80, 85, 84], [77, 75, 67, 79, 76], [68, 69, 76, 69, 84, 69], [67, 79, 80, 89]]
abbrev patW : List (List UInt8) := [[47], [47, 97], [47, 97, 47, 98], [47, 97, 37, 50, 48, 98], [120]]
def ReqP (r : ReqD) : Prop := r.1 ∈ metW ∧ r.2.1 ∈ patW ∧ (r.2.2.1.length ≤ 2 ∧ HdsP r.2.2.1) ∧ r.2.2.2 ∈ bodW
abbrev reqO (r : ReqD) : RV := .agg [.fz (.s r.1), .fz (.s r.2.1), .own (.sl THead r.2.2.1), .fz (.s r.2.2.2)]
theorem sl3Draw_x (c : CurT) (h : CurP c) : ∃ (c' : CurT) (r : ReqD), CurP c' ∧ ReqP r ∧ V sl3Draw [.p 0 0 0] [curO c] = some ([some (curO c')], reqO r) := by
  rw [V_eq (fn := sl3Draw_m) (by kernel_rfl)]
  obtain ⟨c1, m, h1, hm, e1⟩ := sl1Str_x c h metW (by simp) (by simp)
  obtain ⟨c2, p, h2, hp, e2⟩ := sl1Str_x c1 h1 patW (by simp) (by simp)
  obtain ⟨c3, l, h3, hl, e3⟩ := sl3DrawHeads_x c2 h2
  obtain ⟨c4, b, h4, hb, e4⟩ := sl3Body_x c3 h3
  exact ⟨c4, (m, p, l, b), h4, ⟨hm, hp, hl, hb⟩, by simp -implicitDefEqProofs [sl3Draw_m, e1, e2, e3, e4]⟩
theorem hds_sz {l : List HeadD} (h : HdsP l) : szT (.sl THead) l ≤ l.length * 20 := by
  induction l with
  | nil => simp [szT_slE, szL]
  | cons x l ih =>
    have ih := ih fun q hq => h q (List.mem_cons_of_mem _ hq)
    obtain ⟨h1, h2⟩ := h x (List.mem_cons_self ..)
    have k1 := (by decide : ∀ s ∈ hdN, s.length ≤ 9) _ h1
    have k2 := (by decide : ∀ s ∈ hdW, s.length ≤ 9) _ h2
    have e : szT (.sl THead) (x :: l) = szT (.sl THead) l + 1 + (x.1.length + x.2.length) := by
      rw [szT_slE, szT_slE]
      have : szL THead (x :: l) = szT THead x + szL THead l := szL_cons THead x l
      rw [this, szT_pr, szT_str, szT_str, List.length_cons]; omega
    rw [e, List.length_cons]; omega
theorem reqP_sz {r : ReqD} (h : ReqP r) : szR r ≤ 100 := by
  obtain ⟨h1, h2, ⟨h3, h4⟩, h5⟩ := h
  have k1 := (by decide : ∀ s ∈ metW, s.length ≤ 9) _ h1
  have k2 := (by decide : ∀ s ∈ patW, s.length ≤ 9) _ h2
  have k3 := (by decide : ∀ s ∈ bodW, s.length ≤ 9) _ h5
  have := hds_sz h4
  simp only [szR]; omega
/-- A drawn request is right, and is written. -/
theorem reqP_put {r : ReqD} (h : ReqP r) : putReqB r ≠ [] := by
  obtain ⟨m, p, l, b⟩ := r
  obtain ⟨h1, h2, ⟨h3, h4⟩, h5⟩ := h
  simp only at h1 h2 h3 h4 h5
  have q1 : lineB m p = true := (by decide : ∀ m ∈ metW, ∀ p ∈ patW, lineB m p = true) m h1 p h2
  have q2 : l.all headB = true := by
    rw [List.all_eq_true]
    intro x hx
    obtain ⟨a1, a2⟩ := h4 x hx
    exact (by decide : ∀ n ∈ hdN, ∀ v ∈ hdW, headB (n, v) = true) x.1 a1 x.2 a2
  have k1 := (by decide : ∀ s ∈ metW, s.length ≤ 9) _ h1
  have k2 := (by decide : ∀ s ∈ patW, s.length ≤ 9) _ h2
  have k3 := (by decide : ∀ s ∈ bodW, s.length ≤ 9) _ h5
  have k4 := hds_sz h4
  have k5 := headTextB_len l
  have k6 : (extraB b).length ≤ 38 := by
    have := decB_len20 b.length (by omega)
    unfold extraB lenTextB numB
    split
    · simp
    · simp only [Int.toNat_natCast, List.length_append, List.length_cons, List.length_nil]; omega
  have hr : reqB (m, p, l, b) = true := by
    unfold reqB headsB
    simp only [q1, q2, Bool.true_and, Bool.and_eq_true, decide_eq_true_eq]
    omega
  have hl : (putText (m, p, l, b) (extraB b)).length ≤ 400 := by
    simp only [putText, restB, List.length_append, List.length_cons, List.length_nil]; omega
  show (if reqB (m, p, l, b) = true ∧ (putText (m, p, l, b) (extraB b)).length ≤ 400 then putText (m, p, l, b) (extraB b) ++ b else []) ≠ []
  rw [if_pos ⟨hr, hl⟩]
  simp [putText, restB]
theorem sl1Bytes_x (c : CurT) (h : CurP c) (n : Nat) (hn : n ≤ 1000) : ∃ (c' : CurT) (l : List UInt8), CurP c' ∧ l.length = n ∧ V sl1Bytes [.p 0 0 0, i6 n] [curO c] = some ([some (curO c')], .one (.own (.sl .u8 l))) := by
  rw [V_eq (fn := sl1Bytes_m) (by kernel_rfl)]
  obtain ⟨e, σ', L, c2, p, h2, h3, rfl, rfl⟩ := loop_ex (X := V) (c := sl1Bytes_l0) n
    (fun i σ => ∃ (c : CurT) (p : List UInt8), CurP c ∧ p.length = i ∧ σ = ⟨[(6, i6 i), (5, .h 69 0 p.length), (1, i6 n), (0, .p 0 0 0)], [(69, .ls .u8 false p 0 []), (0, curO c)]⟩)
    (fun e σ => ∃ (c : CurT) (p : List UInt8), CurP c ∧ p.length = n ∧ e = .ex 0 ∧ σ = ⟨[(5, .h 69 0 p.length)], [(69, .ls .u8 false p 0 []), (0, curO c)]⟩)
    (fun i σ hi hI => by
      obtain ⟨c, p, h1, h2, rfl⟩ := hI
      obtain ⟨c', s, h4, h5, e2⟩ := sl1Byte_x c h1
      refine .inl ⟨_, ?_, c', p ++ [UInt8.ofNat (s % 256).toNat], h4, by simp [h2], rfl⟩
      simp -implicitDefEqProofs [sl1Bytes_l0, e2, hi, wrap_succ hi (by omega), take_snoc_all rfl]
      omega)
    (fun σ hI => by
      obtain ⟨c, p, h1, h2, rfl⟩ := hI
      refine ⟨.ex 0, _, by simp, ?_, c, p, h1, h2, rfl, rfl⟩
      simp -implicitDefEqProofs [sl1Bytes_l0])
    ⟨[(6, i6 0), (5, .h 69 0 0), (1, i6 n), (0, .p 0 0 0)], [(69, .ls .u8 false [] 0 []), (0, curO c)]⟩ ⟨c, [], h, rfl, by simp⟩
  exact ⟨c2, p, h2, h3, by simp -implicitDefEqProofs [sl1Bytes_m, L, take_all rfl]⟩
set_option maxHeartbeats 1000000 in
theorem sl3Any_x (c : CurT) (h : CurP c) : ∃ (c' : CurT) (r : ReqD), CurP c' ∧ szR r ≤ 2000 ∧ V sl3Any [.p 0 0 0] [curO c] = some ([some (curO c')], reqO r) := by
  rw [V_eq (fn := sl3Any_m) (by kernel_rfl)]
  obtain ⟨c1, ⟨m, p, hs, bd⟩, h1, hP, e1⟩ := sl3Draw_x c h
  have hz := reqP_sz hP
  have hl2 : hs.length ≤ 2 := hP.2.2.1.1
  simp only [szR] at hz
  obtain ⟨c2, b2, h2, ⟨u1, u2⟩, e2⟩ := sl1Below_x c1 h1 12
  by_cases hb0 : b2 = 0
  · subst hb0
    obtain ⟨c3, s, h3, hs3, e3⟩ := sl1Str_x c2 h2 [[], [103, 101, 116], [84, 69, 78, 76, 69, 84, 84, 69, 82, 83], [65, 32, 66]] (by simp) (by simp)
    have k := (by decide : ∀ s ∈ ([[], [103, 101, 116], [84, 69, 78, 76, 69, 84, 84, 69, 82, 83], [65, 32, 66]] : List (List UInt8)), s.length ≤ 100) s hs3
    refine ⟨c3, (s, p, hs, bd), h3, by simp only [szR]; omega, ?_⟩
    simp -implicitDefEqProofs [sl3Any_m, e1, e2, e3]
  by_cases hb1 : b2 = 1
  · subst hb1
    obtain ⟨c3, s, h3, hs3, e3⟩ := sl1Str_x c2 h2 [[], [97, 32, 98], [127]] (by simp) (by simp)
    have k := (by decide : ∀ s ∈ ([[], [97, 32, 98], [127]] : List (List UInt8)), s.length ≤ 100) s hs3
    refine ⟨c3, (m, s, hs, bd), h3, by simp only [szR]; omega, ?_⟩
    simp -implicitDefEqProofs [sl3Any_m, e1, e2, e3]
  by_cases hb2 : b2 = 2
  · subst hb2
    obtain ⟨c3, s, h3, hs3, e3⟩ := sl1Str_x c2 h2 [[99, 111, 110, 116, 101, 110, 116, 45, 108, 101, 110, 103, 116, 104], [88], [], [97]] (by simp) (by simp)
    obtain ⟨c4, s2, h4, hs4, e4⟩ := sl1Str_x c3 h3 [[32, 97], [97], [13, 10]] (by simp) (by simp)
    have k := (by decide : ∀ s ∈ ([[99, 111, 110, 116, 101, 110, 116, 45, 108, 101, 110, 103, 116, 104], [88], [], [97]] : List (List UInt8)), s.length ≤ 100) s hs3
    have k2 := (by decide : ∀ s ∈ ([[32, 97], [97], [13, 10]] : List (List UInt8)), s.length ≤ 100) s2 hs4
    refine ⟨c4, (m, p, hs ++ [(s, s2)], bd), h4, by simp only [szR]; rw [szHd_app]; simp only; omega, ?_⟩
    simp -implicitDefEqProofs [sl3Any_m, e1, e2, e3, e4, take_snoc_all rfl]
    omega
  by_cases hb3 : b2 = 3
  · subst hb3
    obtain ⟨c3, b3, h3, ⟨v1, v2⟩, e3⟩ := sl1Below_x c2 h2 2
    obtain ⟨n, rfl⟩ := Int.eq_ofNat_of_zero_le v1
    have hn : n < 2 := by have := v2 (by omega); omega
    obtain ⟨j, hj⟩ : ∃ j, j = 200 + n := ⟨_, rfl⟩
    refine ⟨c3, (m, p, hs, List.replicate j 0), h3, by simp only [szR, List.length_replicate]; omega, ?_⟩
    have w : IntKind.i64.wrap (200 + (n : Int)) = (j : Int) := by rw [wrI (by omega) (by omega)]; omega
    simp -implicitDefEqProofs [sl3Any_m, e1, e2, e3, w]
    omega
  by_cases hb4 : b2 = 4
  · subst hb4
    obtain ⟨e, σ', L, c3, l, h3, h4, rfl, rfl⟩ := loop_ex (X := V) (c := sl3Any_l0) (9 - hs.length)
      (fun i σ => ∃ (c : CurT) (l : List HeadD), CurP c ∧ (l.length = hs.length + i ∧ szT (.sl THead) l ≤ 100 + i * 100) ∧ σ = ⟨[(3, .p 67 0 0), (2, .p 66 0 0), (0, .p 0 0 0)], [(67, .ls TReq false [(m, p, l, bd)] 0 []), (66, .ls TReq false [zR] 0 []), (0, curO c)]⟩)
      (fun e σ => ∃ (c : CurT) (l : List HeadD), CurP c ∧ szT (.sl THead) l ≤ 1500 ∧ e = .ex 1 ∧ σ = ⟨[(3, .p 67 0 0), (2, .p 66 0 0)], [(67, .ls TReq false [(m, p, l, bd)] 0 []), (66, .ls TReq false [zR] 0 []), (0, curO c)]⟩)
      (fun i σ hi hI => by
        obtain ⟨c, l, q1, ⟨q2, q3⟩, rfl⟩ := hI
        obtain ⟨c', b, q4, ⟨v1, v2⟩, e3⟩ := sl1Below_x c q1 2
        have hb := v2 (by omega)
        by_cases hc : (l.length : Int) < 8 + b
        · obtain ⟨c'', n, q5, hn, e4⟩ := sl1Int_x c' q4 [0, 9, 60] (by simp) (by simp)
          have hn1 := (by decide : ∀ s ∈ ([0, 9, 60] : List Int), 0 ≤ s ∧ s ≤ 60) n hn
          obtain ⟨j, rfl⟩ := Int.eq_ofNat_of_zero_le hn1.1
          refine .inl ⟨_, ?_, c'', l ++ [([120], ([115, 105, 120, 116, 121, 45, 98, 121, 116, 101, 115, 45, 111, 102, 45, 97, 45, 118, 97, 108, 117, 101, 45, 116, 104, 97, 116, 45, 105, 115, 45, 97, 115, 45, 108, 111, 110, 103, 45, 97, 115, 45, 97, 45, 118, 97, 108, 117, 101, 45, 109, 97, 121, 45, 98, 101, 45, 110, 111, 119] : List UInt8).take j)], q5, ⟨by simp [q2]; omega, by rw [szHd_app]; simp only [List.length_take, List.length_cons, List.length_nil]; omega⟩, rfl⟩
          simp -implicitDefEqProofs [sl3Any_l0, e3, e4, hc, (wrI (by omega) (by omega) : IntKind.i64.wrap (8 + b) = 8 + b), take_snoc_all rfl, (eq_true (by omega) : ((j : Int) ≤ 60) = True)]
          omega
        · refine .inr ⟨.ex 1, _, by simp, ?_, c', l, q4, by omega, rfl, rfl⟩
          simp -implicitDefEqProofs [sl3Any_l0, e3, hc, (wrI (by omega) (by omega) : IntKind.i64.wrap (8 + b) = 8 + b)])
      (fun σ hI => by
        obtain ⟨c, l, q1, ⟨q2, q3⟩, rfl⟩ := hI
        obtain ⟨c', b, q4, ⟨v1, v2⟩, e3⟩ := sl1Below_x c q1 2
        have hb := v2 (by omega)
        have hc : ¬ (l.length : Int) < 8 + b := by omega
        refine ⟨.ex 1, _, by simp, ?_, c', l, q4, by omega, rfl, rfl⟩
        simp -implicitDefEqProofs [sl3Any_l0, e3, hc, (wrI (by omega) (by omega) : IntKind.i64.wrap (8 + b) = 8 + b)])
      ⟨[(3, .p 67 0 0), (2, .p 66 0 0), (0, .p 0 0 0)], [(67, .ls TReq false [(m, p, hs, bd)] 0 []), (66, .ls TReq false [zR] 0 []), (0, curO c2)]⟩ ⟨c2, hs, h2, ⟨by omega, by omega⟩, rfl⟩
    refine ⟨c3, (m, p, l, bd), h3, by simp only [szR]; omega, ?_⟩
    simp -implicitDefEqProofs [sl3Any_m, e1, e2, L]
  · refine ⟨c2, (m, p, hs, bd), h2, by simp only [szR]; omega, ?_⟩
    simp -implicitDefEqProofs [sl3Any_m, e1, e2, hb0, hb1, hb2, hb3, hb4]
set_option maxRecDepth 100000 in
theorem sDrawPutRec_x (code : List UInt8) (h : code.length ≤ 1048576) : ∃ (b : List UInt8) (n k : Int) (r : ReqD), (b.length ≤ 3 ∧ (-1 ≤ n ∧ n ≤ 10000000) ∧ (0 ≤ k ∧ k ≤ 10000) ∧ szR r ≤ 2000) ∧
    V sDrawPutRec [.d (.sl .u8 code)] [] = some ([], .tup [.one (.own (.sl .u8 b)), .agg [.fz (.i .i64 n), .fz (.i .i64 k), .fz (.s r.1), .fz (.s r.2.1), .own (.sl THead r.2.2.1), .fz (.s r.2.2.2)]]) := by
  rw [V_eq (fn := sDrawPutRec_m) (by kernel_rfl)]
  obtain ⟨c0, h0, e0⟩ := sl1New_x code h
  obtain ⟨c1, n, h1, hn, e1⟩ := sl1Int_x c0 h0 [0, 5, 9999999, -1, 10000000] (by simp) (by simp)
  obtain ⟨c2, k, h2, hk, e2⟩ := sl1Int_x c1 h1 [0, 7, 9999, 10000] (by simp) (by simp)
  obtain ⟨c3, r, h3, hr, e3⟩ := sl3Any_x c2 h2
  obtain ⟨c4, b4, h4, ⟨u1, u2⟩, e4⟩ := sl1Below_x c3 h3 4
  obtain ⟨j, rfl⟩ := Int.eq_ofNat_of_zero_le u1
  have hj : j < 4 := by have := u2 (by omega); omega
  obtain ⟨c5, b, h5, hb, e5⟩ := sl1Bytes_x c4 h4 j (by omega)
  have n1 := (by decide : ∀ s ∈ ([0, 5, 9999999, -1, 10000000] : List Int), -1 ≤ s ∧ s ≤ 10000000) n hn
  have k1 := (by decide : ∀ s ∈ ([0, 7, 9999, 10000] : List Int), 0 ≤ s ∧ s ≤ 10000) k hk
  obtain ⟨m, p, hs, bd⟩ := r
  refine ⟨b, n, k, (m, p, hs, bd), ⟨by omega, n1, k1, hr⟩, ?_⟩
  simp -implicitDefEqProofs [sDrawPutRec_m, e0, e1, e2, e3, e4, e5, take_all rfl]
theorem recB_len7 {n k : Int} {r : ReqD} (hr : recB (n, k, r) ≠ []) : (recB (n, k, r)).length = (putReqB r).length + 7 ∧ 1 ≤ (putReqB r).length ∧ putReqB r ≠ [] := by
  unfold recB at hr ⊢
  split
  · rename_i hc
    simp only [Bool.and_eq_true, Bool.not_eq_true', decide_eq_false_iff_not] at hc
    exact ⟨by simp [recText], List.length_pos_iff.2 hc.2, hc.2⟩
  · rename_i hc; rw [if_neg hc] at hr; exact absurd rfl hr
theorem recB_len2 (n k : Int) (r : ReqD) (h : szR r ≤ 1000000) : (recB (n, k, r)).length ≤ 1000500 := by
  have h1 := putB_len r (extraB r.2.2.2) r.2.2.2
  have h2 : r.2.2.2.length ≤ szR r := by simp only [szR]; omega
  unfold recB; split
  · rw [List.length_append]; unfold putReqB; simp only [recText, List.length_cons, List.length_nil]; omega
  · simp
set_option maxHeartbeats 1000000 in
theorem sDrawGetRec_x (code : List UInt8) (h : code.length ≤ 1048576) : ∃ (b : List UInt8) (a : Int), (b.length ≤ 2000000 ∧ -1 ≤ a ∧ a ≤ 2000000) ∧
    V sDrawGetRec [.d (.sl .u8 code)] [] = some ([], .tup [.one (.own (.sl .u8 b)), .one (.fz (.i .i64 a))]) := by
  rw [V_eq (fn := sDrawGetRec_m) (by kernel_rfl)]
  obtain ⟨c0, h0, e0⟩ := sl1New_x code h
  obtain ⟨c1, n, h1, ⟨n1, n2⟩, e1⟩ := sl1Below_x c0 h0 200
  obtain ⟨c2, k, h2, ⟨k1, k2⟩, e2⟩ := sl1Below_x c1 h1 9
  obtain ⟨c3, r, h3, hP, e3⟩ := sl3Draw_x c2 h2
  have n2 := n2 (by omega)
  have k2 := k2 (by omega)
  have hz := reqP_sz hP
  have hp := reqP_put hP
  have e4 := sPutRec_ok [] (n, k, r) (by simp) (by simp only; omega)
  have hne : recB (n, k, r) ≠ [] := by
    unfold recB
    rw [if_pos (by simp [hp]; omega)]
    simp [recText]
  have hlen := recB_len2 n k r (by omega)
  rw [List.nil_append] at e4
  obtain ⟨m, p, hs, bd⟩ := r
  simp only [recA] at e4
  generalize recB (n, k, m, p, hs, bd) = t at e4 hne hlen
  have hpos : 0 < t.length := List.length_pos_iff.2 hne
  obtain ⟨c4, b4, h4, ⟨u1, u2⟩, e5⟩ := sl1Below_x c3 h3 4
  have fin : ∀ (c : CurT) (t : List UInt8), CurP c → t.length ≤ 1000500 → ∃ (c' : CurT) (a : Int), CurP c' ∧ (-1 ≤ a ∧ a ≤ 2000000) ∧ V sl1Int [.p 0 0 0, .d (.sl (.int .i64) [0, 0, 0, 1, (t.length : Int), -1])] [curO c] = some ([some (curO c')], .one (.fz (.i .i64 a))) := fun c t hc ht => by
    obtain ⟨c', a, q1, q2, q3⟩ := sl1Int_x c hc [0, 0, 0, 1, (t.length : Int), -1] (by simp) (by simp)
    refine ⟨c', a, q1, ?_, q3⟩
    simp only [List.mem_cons, List.not_mem_nil, or_false] at q2
    omega
  by_cases hb0 : b4 = 0
  · subst hb0
    obtain ⟨c5, i, h5, ⟨v1, v2⟩, e6⟩ := sl1Below_x c4 h4 t.length
    obtain ⟨j, rfl⟩ := Int.eq_ofNat_of_zero_le v1
    have hj : j < t.length := by have := v2 (by omega); omega
    obtain ⟨c6, x, h6, hx, e7⟩ := sl1Int_x c5 h5 [0, 1, 5, 255, 13] (by simp) (by simp)
    obtain ⟨c7, a, h7, ha, e8⟩ := fin c6 (t.set j (UInt8.ofNat (x % 256).toNat)) h6 (by rw [List.length_set]; omega)
    rw [List.length_set] at e8
    refine ⟨t.set j (UInt8.ofNat (x % 256).toNat), a, ⟨by rw [List.length_set]; omega, ha⟩, ?_⟩
    simp -implicitDefEqProofs [sDrawGetRec_m, e0, e1, e2, e3, e4, e5, e6, e7, e8, hj, get_some hj, take_all rfl]
    first | omega | exact List.take_of_length_le (by simp) | exact ⟨by omega, List.take_of_length_le (by simp)⟩
  by_cases hb1 : b4 = 1
  · subst hb1
    obtain ⟨c5, i, h5, ⟨v1, v2⟩, e6⟩ := sl1Below_x c4 h4 t.length
    obtain ⟨j, rfl⟩ := Int.eq_ofNat_of_zero_le v1
    have hj : j < t.length := by have := v2 (by omega); omega
    have hjl : (t.take j).length = j := by rw [List.length_take]; omega
    obtain ⟨c7, a, h7, ha, e8⟩ := fin c5 (t.take j) h5 (by omega)
    rw [hjl] at e8
    refine ⟨t.take j, a, ⟨by omega, ha⟩, ?_⟩
    simp -implicitDefEqProofs [sDrawGetRec_m, e0, e1, e2, e3, e4, e5, e6, e8, (by omega : j ≤ t.length)]
    try omega
  · obtain ⟨c7, a, h7, ha, e8⟩ := fin c4 t h4 (by omega)
    refine ⟨t, a, ⟨by omega, ha⟩, ?_⟩
    simp -implicitDefEqProofs [sDrawGetRec_m, e0, e1, e2, e3, e4, e5, e8, hb0, hb1, take_all rfl]
    try omega
end Go.Proofs.YtniakiefibpgmaaGreatDoorK
