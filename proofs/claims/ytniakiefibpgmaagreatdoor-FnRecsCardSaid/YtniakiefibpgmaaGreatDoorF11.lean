/- What the functions come to. -/
import Derived.Test.YtniakiefibpgmaaGreatDoorF10
set_option linter.unusedVariables false
set_option linter.unusedSimpArgs false
namespace Go.Proofs.YtniakiefibpgmaaGreatDoorK
open Go.RowKit
theorem szHd_app (l : List HeadD) (h : HeadD) : szT (.sl THead) (l ++ [h]) = szT (.sl THead) l + (h.1.length + h.2.length + 1) := by
  have e : szL THead (l ++ [h]) = szL THead l + (h.1.length + h.2.length) := by simp [szL, szHead]
  rw [szT_slE, szT_slE, e, List.length_append]; simp; omega
theorem lineHd_len {s : List UInt8} {q : HeadD} (h : lineHd s = some q) : q.1.length + q.2.length ≤ 2 * s.length := by
  unfold lineHd at h
  cases hi : idxN [58] s with
  | none => rw [hi] at h; cases h
  | some i =>
    rw [hi] at h
    simp only at h
    split at h
    · obtain rfl := Option.some.inj h
      have h1 : (lowerB (s.take i)).length ≤ s.length := by unfold lowerB; rw [List.length_map, List.length_take]; omega
      have h2 := Nat.le_trans (trimL_le _) (trimR_le (s.drop (i + 1)))
      rw [List.length_drop] at h2
      simp only
      omega
    · cases h
theorem iLn_sz (h : HdS) (s : List UInt8) : szT (.sl THead) (iLn h s).hs ≤ szT (.sl THead) h.hs + (2 * s.length + 1) := by
  unfold iLn iSp
  cases hl : lineHd s with
  | none => simp only; omega
  | some q =>
    obtain ⟨n, v⟩ := q
    have := lineHd_len hl
    simp only at this ⊢
    split
    · split
      · simp only; omega
      · split
        · simp only; omega
        · simp only; omega
    · simp only
      rw [szHd_app]
      simp only; omega
theorem foldl_sz (M : Nat) : ∀ (l : List (List UInt8)) (h : HdS), (∀ x ∈ l, x.length ≤ M) → szT (.sl THead) (l.foldl iLn h).hs ≤ szT (.sl THead) h.hs + l.length * (2 * M + 1)
  | [], h, _ => by simp
  | x :: l, h, hx => by
    have h1 := iLn_sz h x
    have h2 := hx x (List.mem_cons_self ..)
    have ih := foldl_sz M l (iLn h x) (fun y hy => hx y (List.mem_cons_of_mem _ hy))
    simp only [List.foldl_cons, List.length_cons, Nat.add_mul, Nat.one_mul]
    omega
theorem headB0_len {s m p : List UInt8} (h : headB0 s = some (m, p)) : m.length ≤ 9 ∧ p.length ≤ 80 := by
  unfold headB0 at h
  split at h
  · split at h
    · rename_i hc
      injection h with h; injection h with h1 h2
      subst h1 h2
      have := hc.2
      unfold lineB at this
      simp only [Bool.and_eq_true, decide_eq_true_eq] at this
      omega
    · cases h
  · cases h
theorem chunksF_len : ∀ (f : Nat) (s body : List UInt8), body.length ≤ 200 → (chunksF f s body).1.length ≤ 200
  | 0, _, _, _ => by simp [chunksF]
  | f + 1, s, body, h => by
    unfold chunksF
    simp only
    split
    · simp
    · split
      · simp
      · rename_i h1
        split
        · simp
        · split
          · simp
          · split
            · exact h
            · refine chunksF_len f _ _ ?_
              have := sizeB_n s
              rw [List.length_append, List.length_take]
              omega
/-- What is read is of bounded size. -/
theorem getReqB_sz (b : List UInt8) : szR (getReqB b).1 ≤ 400000 := by
  cases hi : idxN crlf2 (b.take 400) with
  | none => rw [getReqB_none hi]; simp [szR, szT_slE, szL]
  | some k =>
    have hk := idxN_lt (by decide) hi
    simp only [List.length_cons, List.length_nil, List.length_take] at hk
    by_cases hc : codeB (b.take k) = 0
    case neg => rw [getReqB_bad hi hc]; simp [szR, szT_slE, szL]
    obtain ⟨m, p, hh, hf, _, hl0, hl1⟩ := codeB_ok hc
    rw [getReqB_ok hi hh hf]
    have h1 := headB0_len hh
    obtain ⟨q0, q1, q2⟩ := lnC_len (b.take k)
    have h2 := foldl_sz (b.take k).length (lnC (b.take k)).2 hd0 q1
    have hlk : (b.take k).length ≤ 396 := by rw [List.length_take]; omega
    have h3 : (lnC (b.take k)).2.length * (2 * (b.take k).length + 1) ≤ 396 * 793 := Nat.mul_le_mul (by omega) (by omega)
    have h4 : szT (.sl THead) (foldB (b.take k)).hs ≤ 396 * 793 := by
      have : szT (.sl THead) ([] : List HeadD) = 0 := by simp [szT_slE, szL]
      unfold foldB; simp only at h2; omega
    have h5 := chunksF_len ((b.drop (k + 4)).length + 1) (b.drop (k + 4)) [] (by simp)
    have z0 : szR zR ≤ 400000 := by simp [szR, szT_slE, szL]
    split
    · split
      · exact z0
      · unfold chunksB; simp only [szR]; omega
    · split
      · exact z0
      · simp only [szR, List.length_take]; omega
/-- What is put is at least as long as it is big. -/
theorem headText_sz : ∀ l : List HeadD, szT (.sl THead) l ≤ (headTextB l).length
  | [] => by simp [szT_slE, szL]
  | h :: l => by
    have ih := headText_sz l
    have e : szT (.sl THead) (h :: l) = szT (.sl THead) l + 1 + (h.1.length + h.2.length) := by
      rw [szT_slE, szT_slE]
      have : szL THead (h :: l) = szT THead h + szL THead l := szL_cons THead h l
      rw [this, szT_pr, szT_str, szT_str, List.length_cons]; omega
    rw [e]
    simp only [headTextB, List.flatMap_cons, List.length_append, List.length_cons, List.length_nil] at ih ⊢
    omega
theorem put_sz (r : ReqD) (h : putReqB r ≠ []) : szR r ≤ (putReqB r).length := by
  obtain ⟨m, p, hs, bd⟩ := r
  have hp : putReqB (m, p, hs, bd) = if reqB (m, p, hs, bd) = true ∧ (putText (m, p, hs, bd) (extraB bd)).length ≤ 400 then putText (m, p, hs, bd) (extraB bd) ++ bd else [] := rfl
  rw [hp] at h ⊢
  split
  · have := headText_sz hs
    simp only [putText, restB, szR, List.length_append, List.length_cons, List.length_nil]
    omega
  · rename_i hc; rw [if_neg hc] at h; exact absurd rfl h
theorem getReq_nil {b : List UInt8} (h : (getReqB b).2.2 = 0) : b ≠ [] := fun e => by
  subst e
  rw [getReqB_none (by rfl)] at h
  simp at h
abbrev zRec : RecD := (0, 0, zR)
def nAt (b : List UInt8) (i : Nat) : Nat := match b[i]? with | some x => x.toNat | none => 0
/-- A record that is read. -/
def getRecB (b : List UInt8) (a : Int) : RecD × Int × Bool :=
  if 0 ≤ a ∧ a + 7 ≤ b.length then
    match b.drop a.toNat with
    | h0 :: h1 :: h2 :: h3 :: h4 :: h5 :: h6 :: t =>
      let n := 256 * h0.toNat + h1.toNat
      if n < 5 ∨ t.length + 5 < n then (zRec, 0, false)
      else
        let p := t.take (n - 5)
        let q := getReqB p
        let x : RecD := (((65536 * h2.toNat + 256 * h3.toNat + h4.toNat : Nat) : Int), ((256 * h5.toNat + h6.toNat : Nat) : Int), q.1)
        if q.2.2 = 0 ∧ putReqB q.1 = p ∧ x.1 ≤ 9999999 ∧ x.2.1 ≤ 9999 then (x, a + 2 + n, true) else (zRec, 0, false)
    | _ => (zRec, 0, false)
  else (zRec, 0, false)
theorem byte_of (n : Nat) (h : UInt8) (hn : n % 256 = h.toNat) : UInt8.ofNat ((n : Int) % 256).toNat = h := by
  have : ((n : Int) % 256).toNat = n % 256 := by omega
  rw [this, hn]; simp
theorem fdiv_of (n k : Nat) : ((n : Int)).fdiv ((2 : Int) ^ min k IntKind.i64.bits) = ((n / 2 ^ min k IntKind.i64.bits : Nat) : Int) := by
  rw [Int.fdiv_eq_ediv_of_nonneg _ (by exact_mod_cast Nat.zero_le _)]
  exact_mod_cast rfl
/-- A record is its bytes. -/
theorem rec_law (h0 h1 h2 h3 h4 h5 h6 : UInt8) (p : List UInt8) (q : ReqD) (hn : p.length + 5 = 256 * h0.toNat + h1.toNat) (hp : p ≠ []) (now dr : Nat) (e1 : now = 65536 * h2.toNat + 256 * h3.toNat + h4.toNat) (e2 : dr = 256 * h5.toNat + h6.toNat) :
    recB ((now : Int), (dr : Int), q) = h0 :: h1 :: h2 :: h3 :: h4 :: h5 :: h6 :: p ↔ (putReqB q = p ∧ (now : Int) ≤ 9999999 ∧ (dr : Int) ≤ 9999) := by
  have b0 := h0.toNat_lt; have b1 := h1.toNat_lt; have b2 := h2.toNat_lt; have b3 := h3.toNat_lt; have b4 := h4.toNat_lt; have b5 := h5.toNat_lt; have b6 := h6.toNat_lt
  have hb : IntKind.i64.bits = 64 := rfl
  constructor
  · intro h
    unfold recB at h
    split at h
    · rename_i hc
      simp only [Bool.and_eq_true, decide_eq_true_eq, Bool.not_eq_true', decide_eq_false_iff_not] at hc
      unfold recText at h
      simp only [List.cons_append, List.nil_append, List.cons.injEq] at h
      exact ⟨h.2.2.2.2.2.2.2, by omega, by omega⟩
    · cases h
  · rintro ⟨h, c1, c2⟩
    unfold recB
    simp only
    rw [h, if_pos (by simp [hp, c1, c2])]
    unfold recText
    simp only [List.cons_append, List.nil_append]
    have w : IntKind.i64.wrap ((p.length : Int) + 5) = ((p.length + 5 : Nat) : Int) := by rw [wrI (by omega) (by omega)]; omega
    rw [w, fdiv_of, fdiv_of, fdiv_of, fdiv_of]
    simp only [hb, show (2 : Nat) ^ min 8 64 = 256 from rfl, show (2 : Nat) ^ min 16 64 = 65536 from rfl, List.cons.injEq, and_true]
    exact ⟨byte_of _ h0 (by omega), byte_of _ h1 (by omega), byte_of _ h2 (by omega), byte_of _ h3 (by omega), byte_of _ h4 (by omega), byte_of _ h5 (by omega), byte_of _ h6 (by omega)⟩
abbrev recRr (x : RecD × Int × Bool) : Option (List (Option Ob) × RV) := some ([], .tup [.agg [.fz (.i .i64 x.1.1), .fz (.i .i64 x.1.2.1), .fz (.s x.1.2.2.1), .fz (.s x.1.2.2.2.1), .own (.sl THead x.1.2.2.2.2.1), .fz (.s x.1.2.2.2.2.2)], .one (.fz (.i .i64 x.2.1)), .one (.fz (.b x.2.2))])
theorem seven {l : List UInt8} (h : 7 ≤ l.length) : ∃ h0 h1 h2 h3 h4 h5 h6 t, l = h0 :: h1 :: h2 :: h3 :: h4 :: h5 :: h6 :: t := by
  match l, h with
  | h0 :: h1 :: h2 :: h3 :: h4 :: h5 :: h6 :: t, _ => exact ⟨h0, h1, h2, h3, h4, h5, h6, t, rfl⟩
  | [], h => simp at h
  | [_], h => simp at h
  | [_, _], h => simp at h
  | [_, _, _], h => simp at h
  | [_, _, _, _], h => simp at h
  | [_, _, _, _, _], h => simp at h
  | [_, _, _, _, _, _], h => simp at h
set_option maxHeartbeats 2000000 in
set_option maxRecDepth 100000 in
theorem iGetRec_ok (b : List UInt8) (a : Int) (h : b.length ≤ 1000000000) (ha : -9223372036854775808 ≤ a ∧ a ≤ 9223372036854775807) : V iGetRec [.d (.sl .u8 b), i6 a] [] = recRr (getRecB b a) := by
  rw [V_eq (fn := iGetRec_m) (by kernel_rfl)]
  unfold getRecB
  have w7 : IntKind.i64.wrap ((b.length : Int) - 7) = (b.length : Int) - 7 := wrI (by omega) (by omega)
  by_cases hc : 0 ≤ a ∧ a + 7 ≤ b.length
  case neg =>
    rw [if_neg hc]
    by_cases h0 : a < 0
    · simp -implicitDefEqProofs [iGetRec_m, h0]
    · simp -implicitDefEqProofs [iGetRec_m, h0, w7, (eq_true (by omega) : ((b.length : Int) - 7 < a) = True)]
  rw [if_pos hc]
  obtain ⟨k, rfl⟩ : ∃ k : Nat, a = k := ⟨a.toNat, by omega⟩
  rw [Int.toNat_natCast]
  have hk : k + 7 ≤ b.length := by omega
  obtain ⟨h0, h1, h2, h3, h4, h5, h6, t, hd⟩ := seven (l := b.drop k) (by rw [List.length_drop]; omega)
  have htl : t.length + 7 = b.length - k := by have := congrArg List.length hd; simp only [List.length_drop, List.length_cons] at this; omega
  rw [hd]
  simp only
  have q0 : ((k : Int) < 0) = False := eq_false (by omega)
  have q1 : ((b.length : Int) - 7 < (k : Int)) = False := eq_false (by omega)
  have q2 : ((k : Int) ≤ (b.length : Int)) = True := eq_true (by omega)
  have b0 := h0.toNat_lt; have b1 := h1.toNat_lt; have b2 := h2.toNat_lt; have b3 := h3.toNat_lt; have b4 := h4.toNat_lt; have b5 := h5.toNat_lt; have b6 := h6.toNat_lt
  have hbits : (2 : Int) ^ min 8 IntKind.i64.bits = 256 := rfl
  have hbits2 : (2 : Int) ^ min 16 IntKind.i64.bits = 65536 := rfl
  obtain ⟨n, hn⟩ : ∃ n, n = 256 * h0.toNat + h1.toNat := ⟨_, rfl⟩
  obtain ⟨now, hnow⟩ : ∃ n, n = 65536 * h2.toNat + 256 * h3.toNat + h4.toNat := ⟨_, rfl⟩
  obtain ⟨dr, hdr⟩ : ∃ n, n = 256 * h5.toNat + h6.toNat := ⟨_, rfl⟩
  rw [← hn, ← hnow, ← hdr]
  obtain ⟨e2, he2⟩ : ∃ n, n = k + 2 := ⟨_, rfl⟩
  obtain ⟨x0, hx0⟩ : ∃ n, n = 256 * h0.toNat := ⟨_, rfl⟩
  obtain ⟨e3, he3⟩ : ∃ n, n = e2 + x0 := ⟨_, rfl⟩
  obtain ⟨e, he⟩ : ∃ e, e = k + 2 + n := ⟨_, rfl⟩
  obtain ⟨e7, he7⟩ : ∃ n, n = k + 7 := ⟨_, rfl⟩
  obtain ⟨y2, hy2⟩ : ∃ n, n = 65536 * h2.toNat := ⟨_, rfl⟩
  obtain ⟨y3, hy3⟩ : ∃ n, n = 256 * h3.toNat := ⟨_, rfl⟩
  obtain ⟨y4, hy4⟩ : ∃ n, n = y2 + y3 := ⟨_, rfl⟩
  obtain ⟨z5, hz5⟩ : ∃ n, n = 256 * h5.toNat := ⟨_, rfl⟩
  have w2 : IntKind.i64.wrap ((k : Int) + 2) = (e2 : Int) := by rw [wrI (by omega) (by omega)]; omega
  have s0 : IntKind.i64.wrap ((h0.toNat : Int) * 2 ^ min 8 IntKind.i64.bits) = (x0 : Int) := by rw [hbits, wrI (by omega) (by omega)]; omega
  have a1 : IntKind.i64.wrap ((e2 : Int) + (x0 : Int)) = (e3 : Int) := by rw [wrI (by omega) (by omega)]; omega
  have a2 : IntKind.i64.wrap ((e3 : Int) + (h1.toNat : Int)) = (e : Int) := by rw [wrI (by omega) (by omega)]; omega
  have w7k : IntKind.i64.wrap ((k : Int) + 7) = (e7 : Int) := by rw [wrI (by omega) (by omega)]; omega
  have s2 : IntKind.i64.wrap ((h2.toNat : Int) * 2 ^ min 16 IntKind.i64.bits) = (y2 : Int) := by rw [hbits2, wrI (by omega) (by omega)]; omega
  have s3 : IntKind.i64.wrap ((h3.toNat : Int) * 2 ^ min 8 IntKind.i64.bits) = (y3 : Int) := by rw [hbits, wrI (by omega) (by omega)]; omega
  have a3 : IntKind.i64.wrap ((y2 : Int) + (y3 : Int)) = (y4 : Int) := by rw [wrI (by omega) (by omega)]; omega
  have a4 : IntKind.i64.wrap ((y4 : Int) + (h4.toNat : Int)) = (now : Int) := by rw [wrI (by omega) (by omega)]; omega
  have s5 : IntKind.i64.wrap ((h5.toNat : Int) * 2 ^ min 8 IntKind.i64.bits) = (z5 : Int) := by rw [hbits, wrI (by omega) (by omega)]; omega
  have a5 : IntKind.i64.wrap ((z5 : Int) + (h6.toNat : Int)) = (dr : Int) := by rw [wrI (by omega) (by omega)]; omega
  have dt : (h0 :: h1 :: h2 :: h3 :: h4 :: h5 :: h6 :: t).take (b.length - k) = h0 :: h1 :: h2 :: h3 :: h4 :: h5 :: h6 :: t := List.take_of_length_le (by simp only [List.length_cons]; omega)
  by_cases hb : n < 5 ∨ t.length + 5 < n
  · rw [if_pos hb]
    have hq : ((b.length : Int) < (e : Int) ∨ (e : Int) < (e7 : Int)) = True := eq_true (by omega)
    by_cases hq1 : (b.length : Int) < (e : Int)
    · simp -implicitDefEqProofs [iGetRec_m, q0, q1, q2, w7, hd, dt, wrap_b, w2, s0, a1, a2, w7k, hq1]
    · simp -implicitDefEqProofs [iGetRec_m, q0, q1, q2, w7, hd, dt, wrap_b, w2, s0, a1, a2, w7k, hq1, (by omega : e < e7)]
  rw [if_neg hb]
  have r1 : ((b.length : Int) < (e : Int)) = False := eq_false (by omega)
  have r2 : ((e : Int) < (e7 : Int)) = False := eq_false (by omega)
  have r3 : ((e7 : Int) ≤ (e : Int)) = True := eq_true (by omega)
  have r4 : ((e : Int) ≤ (b.length : Int)) = True := eq_true (by omega)
  have r5 : ((k : Int) ≤ (e : Int)) = True := eq_true (by omega)
  have d7 : b.drop e7 = t := by rw [he7, ← List.drop_drop, hd]; rfl
  obtain ⟨p, hp⟩ : ∃ p, p = t.take (n - 5) := ⟨_, rfl⟩
  have hpl : p.length + 5 = n := by rw [hp, List.length_take]; omega
  have d1 : (b.take e).drop e7 = p := by rw [List.drop_take, d7, hp]; congr 1; omega
  have d2 : t.take (e - e7) = p := by rw [hp]; congr 1; omega
  have d3 : (h0 :: h1 :: h2 :: h3 :: h4 :: h5 :: h6 :: t).take (e - k) = h0 :: h1 :: h2 :: h3 :: h4 :: h5 :: h6 :: p := by
    rw [show e - k = (n - 5) + 7 by omega]; simp only [List.take_succ_cons, hp]
  have d4 : (b.take e).drop k = h0 :: h1 :: h2 :: h3 :: h4 :: h5 :: h6 :: p := by rw [List.drop_take, hd, d3]
  rw [← hp]
  have f1 := iGetReq_ok p (by omega)
  have hsz := getReqB_sz p
  have hnil := @getReq_nil p
  generalize getReqB p = q at f1 hsz hnil ⊢
  obtain ⟨r, nx, code⟩ := q
  simp only at f1 hsz hnil ⊢
  have f2 := iputRec_ok ((now : Int), (dr : Int), r) (by simp only; omega)
  have hev : (k : Int) + 2 + (n : Int) = (e : Int) := by omega
  rw [hev]
  by_cases hcode : code = 0
  case neg =>
    rw [if_neg (fun x => hcode x.1)]
    obtain ⟨m, pp, hs, bd⟩ := r
    simp -implicitDefEqProofs [iGetRec_m, q0, q1, q2, w7, hd, dt, wrap_b, w2, s0, a1, a2, w7k, r1, r2, r3, r4, r5, d1, d2, d7, f1, s2, s3, a3, a4, s5, a5, hcode]
  subst hcode
  have law := rec_law h0 h1 h2 h3 h4 h5 h6 p r (by omega) (hnil rfl) now dr hnow hdr
  generalize recB ((now : Int), (dr : Int), r) = rb at f2 law
  by_cases hr : rb = h0 :: h1 :: h2 :: h3 :: h4 :: h5 :: h6 :: p
  · rw [if_pos ⟨rfl, law.1 hr⟩]
    obtain ⟨m, pp, hs, bd⟩ := r
    simp only [recA] at f2
    simp -implicitDefEqProofs [iGetRec_m, q0, q1, q2, w7, hd, dt, wrap_b, w2, s0, a1, a2, w7k, r1, r2, r3, r4, r5, d1, d2, d3, d4, d7, f1, f2, s2, s3, a3, a4, s5, a5, hr]
  · rw [if_neg (fun x => hr (law.2 x.2))]
    obtain ⟨m, pp, hs, bd⟩ := r
    simp only [recA] at f2
    simp -implicitDefEqProofs [iGetRec_m, q0, q1, q2, w7, hd, dt, wrap_b, w2, s0, a1, a2, w7k, r1, r2, r3, r4, r5, d1, d2, d3, d4, d7, f1, f2, s2, s3, a3, a4, s5, a5, hr]
end Go.Proofs.YtniakiefibpgmaaGreatDoorK
