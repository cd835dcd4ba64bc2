/- The library's functions: what is reckoned of them is what they give back. -/
import Derived.Test.YtniakiefibpgmaaGreatDoorF11
import Derived.Test.YtniakiefibpgmaaGreatDoorShelf
import Derived.Shelf.Strings.SlTrimAscii
import Derived.Lib.AtoiErrMem
set_option linter.unusedVariables false
set_option linter.unusedSimpArgs false
namespace Go.Proofs.YtniakiefibpgmaaGreatDoorK
open Go.RowKit
/-- A cell that holds something of a kind. -/
def CellP (Q : Value → Prop) (b : Nat) (w : World) : Prop := ∃ v, w.cell? ⟨b, 0, none⟩ = some v ∧ Q v
theorem CellP.stay {Q : Value → Prop} {b : Nat} {w w' : World} (h : CellP Q b w) (hb : w'.heap[b]? = w.heap[b]?) : CellP Q b w' := by
  obtain ⟨v, h1, h2⟩ := h
  exact ⟨v, by rw [World.cell?_of_block (w := w) hb]; exact h1, h2⟩
theorem CellP.lt {Q : Value → Prop} {b : Nat} {w : World} (h : CellP Q b w) : b < w.heap.size := by
  obtain ⟨v, h1, _⟩ := h
  rcases Nat.lt_or_ge b w.heap.size with q | q
  · exact q
  · simp [World.cell?, Array.getElem?_eq_none q] at h1
abbrev IsI64 (v : Value) : Prop := ∃ m, v = .int .i64 m
abbrev IsErr (v : Value) : Prop := v = .nilIface ∨ ∃ te pe, v = .iface te pe
noncomputable def gPow : Nat := (Tryz.prog.globalNamed "internal/strconv.uint64pow10").getD 0
theorem gPow_eq : Tryz.prog.globalNamed "internal/strconv.uint64pow10" = some gPow := by unfold gPow; kernel_rfl
theorem pow_lt {w : World} (h : Lib.TabIs Tryz.prog w "internal/strconv.uint64pow10" .u64 Lib.pow10Tab) : gPow < w.heap.size := by
  unfold Lib.TabIs World.var? at h
  rw [gPow_eq] at h
  simp only [Option.bind_some] at h
  rcases Nat.lt_or_ge gPow w.heap.size with q | q
  · exact q
  · rw [Array.getElem?_eq_none q] at h; cases h
theorem pow_stay {w w' : World} (h : Lib.TabIs Tryz.prog w "internal/strconv.uint64pow10" .u64 Lib.pow10Tab) (hb : w'.heap[gPow]? = w.heap[gPow]?) : Lib.TabIs Tryz.prog w' "internal/strconv.uint64pow10" .u64 Lib.pow10Tab := by
  unfold Lib.TabIs World.var? at h ⊢
  rw [gPow_eq] at h ⊢
  simp only [Option.bind_some] at h ⊢
  rw [hb]
  exact h
theorem below_gr (w : World) (q : Nat) (os : Array Obj) : Below w.heap.size w (Go.Sort.grow (w.drewN q) os) :=
  ⟨rfl, rfl, rfl, by show w.heap.size ≤ (w.heap ++ os).size; rw [Array.size_append]; exact Nat.le_add_right _ _, fun k hk => by
    show (w.heap ++ os)[k]? = w.heap[k]?
    exact Array.getElem?_append_left hk⟩
noncomputable def gB : Nat := (max (max (max gPow 0) 6) 7) + 1
noncomputable def gl0 : Globs := ⟨gB, fun w => Lib.TabIs Tryz.prog w "internal/strconv.uint64pow10" .u64 Lib.pow10Tab ∧ CellP IsI64 0 w ∧ CellP IsErr 6 w ∧ CellP IsErr 7 w ∧ True, fun w w' h hb => ⟨pow_stay h.1 (hb.block gPow (by unfold gB; omega)), CellP.stay h.2.1 (hb.block 0 (by unfold gB; omega)), CellP.stay h.2.2.1 (hb.block 6 (by unfold gB; omega)), CellP.stay h.2.2.2.1 (hb.block 7 (by unfold gB; omega)), trivial⟩⟩
theorem G_pow {w : World} (h : gl0.G w) : Lib.TabIs Tryz.prog w "internal/strconv.uint64pow10" .u64 Lib.pow10Tab := h.1
theorem G_max {w : World} (h : gl0.G w) : CellP IsI64 0 w := h.2.1
theorem G_syn {w : World} (h : gl0.G w) : CellP IsErr 6 w := h.2.2.1
theorem G_ran {w : World} (h : gl0.G w) : CellP IsErr 7 w := h.2.2.2.1
theorem gl_size {w : World} (h : gl0.G w) : gl0.B ≤ w.heap.size := by
  have h0 := pow_lt (G_pow h)
  have h1 := CellP.lt (G_max h)
  have h2 := CellP.lt (G_syn h)
  have h3 := CellP.lt (G_ran h)
  show gB ≤ _
  unfold gB; omega
theorem max_shaped {w : World} (h : w.ShapedOpen Tryz.prog) : CellP IsI64 0 w := by
  obtain ⟨m, hm⟩ := Tryz.laysM146.s1_3 w h
  exact ⟨_, hm, m, rfl⟩

theorem ext_ctr {f : Nat} {as' : List AV} {x : D} (hfn : ∃ fn, Tryz.prog.funcs[f]? = some fn ∧ (fn.name == "runtime.NumGoroutine") = false ∧ fn.body.isNone = false)
    (h : ∀ (w : World) (ok : Nat → Prop) (loc : Nat → Option (Nat × Nat × Nat)) (So : Nat → Nat → Prop) (vs : List Value), gl0.G w → (∀ b, ok b → b < w.heap.size) → RegsOK w ok loc So [] vs as' → Calls Tryz.prog f vs.toArray w fun e w' => ∃ v, e = .returned v ∧ Below w.heap.size w w' ∧ ∀ ok', Rd w' ok' v x) :
    Ctr Tryz.prog gl0 f as' [] ([], .one (.fz x)) := by
  refine ⟨hfn, fun w ok own loc So vs hG _ _ hent => (h w ok loc So vs hG (fun b hb => (hent.okl b hb).1) hent.regs).mono fun e w' ⟨v, he, hb, hr⟩ => ⟨v, fun _ _ => False, fun _ _ => False, [v], he, ?_⟩⟩
  refine ⟨Keep.of_below hb, rfl, fun k x hx => hx.elim, fun k k' x hx => hx.elim, fun j x hx => hx.elim, fun j j' x hx => hx.elim, fun k ob hk => by simp at hk, by simp only [Shape], fun j u c hu hc => ?_⟩
  cases j with
  | succ j => simp at hu
  | zero =>
    simp only [List.getElem?_cons_zero, Option.some.injEq, RV.cells] at hu hc
    subst hu hc
    exact hr _
theorem ext_ctrT {f : Nat} {as' : List AV} {xs : List D} (hfn : ∃ fn, Tryz.prog.funcs[f]? = some fn ∧ (fn.name == "runtime.NumGoroutine") = false ∧ fn.body.isNone = false)
    (h : ∀ (w : World) (ok : Nat → Prop) (loc : Nat → Option (Nat × Nat × Nat)) (So : Nat → Nat → Prop) (vs : List Value), gl0.G w → (∀ b, ok b → b < w.heap.size) → RegsOK w ok loc So [] vs as' → Calls Tryz.prog f vs.toArray w fun e w' => ∃ us : List Value, e = .returned (.tuple us.toArray) ∧ Below w.heap.size w w' ∧ us.length = xs.length ∧ ∀ (ok' : Nat → Prop) (j : Nat) u d, us[j]? = some u → xs[j]? = some d → Rd w' ok' u d) :
    Ctr Tryz.prog gl0 f as' [] ([], .tup (xs.map fun d => .one (.fz d))) := by
  refine ⟨hfn, fun w ok own loc So vs hG _ _ hent => (h w ok loc So vs hG (fun b hb => (hent.okl b hb).1) hent.regs).mono fun e w' ⟨us, he, hb, hlen, hr⟩ => ⟨.tuple us.toArray, fun _ _ => False, fun _ _ => False, us, he, ?_⟩⟩
  have key : ∀ (us : List Value) (xs : List D), us.length = xs.length → ShapeL us (xs.map fun d => .one (.fz d)) us := by
    intro us
    induction us with
    | nil => intro xs hl; cases xs with
      | nil => simp only [List.map_nil, ShapeL]
      | cons a l => simp at hl
    | cons u us ih => intro xs hl; cases xs with
      | nil => simp at hl
      | cons a l =>
        simp only [List.map_cons, ShapeL]
        exact ⟨[u], us, rfl, by simp only [Shape], ih l (by simpa using hl)⟩
  have cells : ∀ xs : List D, RV.cellsL (xs.map fun d => .one (.fz d)) = xs.map RC.fz := by
    intro xs
    induction xs with
    | nil => rfl
    | cons a l ih => simp only [List.map_cons, RV.cellsL, RV.cells, ih]; rfl
  refine ⟨Keep.of_below hb, rfl, fun k x hx => hx.elim, fun k k' x hx => hx.elim, fun j x hx => hx.elim, fun j j' x hx => hx.elim, fun k ob hk => by simp at hk, ?_, fun j u c hu hc => ?_⟩
  · simp only [Shape]
    exact ⟨us, rfl, key us xs hlen⟩
  · simp only [RV.cells] at hc
    rw [cells, List.getElem?_map] at hc
    obtain ⟨d, hd, rfl⟩ := Option.map_eq_some_iff.1 hc
    exact hr _ j u d hu hd
theorem ext_ctrW {f : Nat} {as' : List AV} {x : D} (hfn : ∃ fn, Tryz.prog.funcs[f]? = some fn ∧ (fn.name == "runtime.NumGoroutine") = false ∧ fn.body.isNone = false)
    (h : ∀ (w : World) (ok : Nat → Prop) (loc : Nat → Option (Nat × Nat × Nat)) (So : Nat → Nat → Prop) (vs : List Value), gl0.G w → (∀ b, ok b → b < w.heap.size) → RegsOK w ok loc So [] vs as' → Calls Tryz.prog f vs.toArray w fun e w' => ∃ v, e = .returned v ∧ Below w.heap.size w w' ∧ Rd w' (fun b => w.heap.size ≤ b ∧ b < w'.heap.size) v x) :
    Ctr Tryz.prog gl0 f as' [] ([], .one (.fz x)) := by
  refine ⟨hfn, fun w ok own loc So vs hG _ _ hent => (h w ok loc So vs hG (fun b hb => (hent.okl b hb).1) hent.regs).mono fun e w' ⟨v, he, hb, hr⟩ => ⟨v, fun _ _ => False, fun _ _ => False, [v], he, ?_⟩⟩
  refine ⟨Keep.of_below hb, rfl, fun k x hx => hx.elim, fun k k' x hx => hx.elim, fun j x hx => hx.elim, fun j j' x hx => hx.elim, fun k ob hk => by simp at hk, by simp only [Shape], fun j u c hu hc => ?_⟩
  cases j with
  | succ j => simp at hu
  | zero =>
    simp only [List.getElem?_cons_zero, Option.some.injEq, RV.cells] at hu hc
    subst hu hc
    exact hr.mono (fun b hb => ⟨.inr (.inr hb.1), hb.2, fun _ q => q, fun _ q => q⟩) (fun _ _ => rfl)
theorem rd_s {w : World} {ok : Nat → Prop} {v : Value} {l : List UInt8} (h : Rd w ok v (.s l)) : v = .string ⟨l.toArray⟩ := by
  cases h; rfl
theorem rd_u {w : World} {ok : Nat → Prop} {v : Value} {b : UInt8} (h : Rd w ok v (.u b)) : v = .int .u8 b.toNat := by
  cases h; rfl
theorem regs_one {w : World} {ok : Nat → Prop} {loc : Nat → Option (Nat × Nat × Nat)} {So : Nat → Nat → Prop} {objs : List (Nat × Ob)} {vs : List Value} {a : D} (h : RegsOK w ok loc So objs vs [.d a]) : ∃ u, vs = [u] ∧ Rd w ok u a := by
  match vs, h with
  | [u], h => simp only [RegsOK, RegOK] at h; exact ⟨u, rfl, h.1⟩
  | [], h => simp only [RegsOK] at h
  | _ :: _ :: _, h => simp only [RegsOK] at h; exact h.2.elim
theorem regs_two {w : World} {ok : Nat → Prop} {loc : Nat → Option (Nat × Nat × Nat)} {So : Nat → Nat → Prop} {objs : List (Nat × Ob)} {vs : List Value} {a b : D} (h : RegsOK w ok loc So objs vs [.d a, .d b]) : ∃ u v, vs = [u, v] ∧ Rd w ok u a ∧ Rd w ok v b := by
  match vs, h with
  | [u, v], h => simp only [RegsOK, RegOK] at h; exact ⟨u, v, rfl, h.1, h.2.1⟩
  | [], h => simp only [RegsOK] at h
  | [_], h => simp only [RegsOK] at h; exact h.2.elim
  | _ :: _ :: _ :: _, h => simp only [RegsOK] at h; exact h.2.2.elim
theorem indexB : ∀ (l : List UInt8) (c : UInt8), Lib.indexByte l c = if l.contains c then (l.findIdx (· == c) : Int) else -1
  | [], c => rfl
  | b :: l, c => by
    have ih := indexB l c
    simp only [Lib.indexByte, List.contains_cons, List.findIdx_cons]
    by_cases h : b = c
    · subst h; simp
    · have h1 : (b == c) = false := by simpa using h
      have h2 : (c == b) = false := by simpa using Ne.symm h
      rw [ih, h1, h2]
      cases hc : l.contains c <;> simp
theorem x_strings_Contains_c {l : List AV} {r : List (Option Ob) × RV} (h : x_strings_Contains_e l = some r) : Ctr Tryz.prog gl0 x_strings_Contains l [] r := by
  unfold x_strings_Contains_e at h
  split at h
  case h_2 => cases h
  rename_i a c
  obtain rfl := Option.some.inj h
  refine ext_ctr ⟨_, Tryz.func141, by kernel_rfl, by kernel_rfl⟩ (fun w ok loc So vs hG hok hr => ?_)
  obtain ⟨u, v, rfl, h1, h2⟩ := regs_two hr
  obtain rfl := rd_s h1
  obtain rfl := rd_s h2
  refine (Tryz.strings_Contains_one ⟨a.toArray⟩ c w).mono fun e w' ⟨he, hw⟩ => ⟨_, he, by rw [hw]; exact Below.refl _ _, fun ok' => ?_⟩
  have e : decide (0 ≤ Lib.indexByte a c) = a.contains c := by
    rw [indexB]
    cases a.contains c <;> simp
  rw [e]
  exact .b _
theorem x_strings_IndexByte_c {l : List AV} {r : List (Option Ob) × RV} (h : x_strings_IndexByte_e l = some r) : Ctr Tryz.prog gl0 x_strings_IndexByte l [] r := by
  unfold x_strings_IndexByte_e at h
  split at h
  case h_2 => cases h
  rename_i a c
  obtain rfl := Option.some.inj h
  refine ext_ctr ⟨_, Tryz.func269, by kernel_rfl, by kernel_rfl⟩ (fun w ok loc So vs hG hok hr => ?_)
  obtain ⟨u, v, rfl, h1, h2⟩ := regs_two hr
  obtain rfl := rd_s h1
  obtain rfl := rd_u h2
  refine (Tryz.strings_IndexByte ⟨a.toArray⟩ c.toNat w).mono fun e w' ⟨he, hw⟩ => ⟨_, he, by rw [hw]; exact Below.refl _ _, fun ok' => ?_⟩
  have e : (c.toNat : Int).toNat.toUInt8 = c := by simp
  rw [e, indexB]
  exact .i _ _
theorem joinB_eq : ∀ (sep : List UInt8) (l : List (List UInt8)), joinB sep l = Lib.join l sep
  | sep, [] => rfl
  | sep, [a] => by simp [joinB, Lib.join, List.intercalate]
  | sep, a :: b :: l => by
    have := joinB_eq sep (b :: l)
    simp only [joinB, this, Lib.join, List.intercalate, List.intersperse]
    cases l <;> simp [List.intersperse]
theorem x_strings_Join_c {l : List AV} {r : List (Option Ob) × RV} (h : x_strings_Join_e l = some r) : Ctr Tryz.prog gl0 x_strings_Join l [] r := by
  unfold x_strings_Join_e at h
  split at h
  case h_2 => cases h
  rename_i xs sep
  split at h
  case isFalse => cases h
  rename_i hc
  obtain rfl := Option.some.inj h
  refine ext_ctr ⟨_, Tryz.func277, by kernel_rfl, by kernel_rfl⟩ (fun w ok loc So vs hG hok hr => ?_)
  obtain ⟨u, v, rfl, h1, h2⟩ := regs_two hr
  obtain rfl := rd_s h2
  have hmap : (xs.map fun a => (⟨a.toArray⟩ : ByteArray)).map (·.data.toList) = xs := by simp [List.map_map, Function.comp_def]
  cases h1 with
  | nil A c =>
    refine (Tryz.strings_Join_none A c ⟨sep.toArray⟩ w).mono fun e w' ⟨he, hw⟩ => ⟨_, he, by rw [hw]; exact Below.refl _ _, fun ok' => ?_⟩
    exact .s []
  | sl b off c _ _ us hb hcap hm hrd =>
    have := Tryz.strings_Join b off c (xs.map fun a => ⟨a.toArray⟩) ⟨sep.toArray⟩ w (fun j x hx => by
      rw [List.getElem?_map] at hx
      obtain ⟨a, ha, rfl⟩ := Option.map_eq_some_iff.1 hx
      have h3 := hm j a 0 (.s a) ha rfl
      have h4 := rd_s (hrd j a 0 (.s a) ha rfl)
      rw [h4] at h3
      simpa [T.w] using h3) (hok b hb) (by simpa using hc.1) (by simpa using hcap) (by rw [hmap]; rw [← joinB_eq]; exact hc.2)
    rw [hmap, List.length_map] at this
    refine this.mono fun e w' ⟨he, hw⟩ => ⟨_, he, hw, fun ok' => ?_⟩
    rw [joinB_eq]
    exact .s _
theorem x_strconv_Itoa_c {l : List AV} {r : List (Option Ob) × RV} (h : x_strconv_Itoa_e l = some r) : Ctr Tryz.prog gl0 x_strconv_Itoa l [] r := by
  unfold x_strconv_Itoa_e at h
  split at h
  case h_2 => cases h
  rename_i n
  split at h
  case isFalse => cases h
  rename_i hc
  obtain rfl := Option.some.inj h
  refine ext_ctr ⟨_, Tryz.func60, by kernel_rfl, by kernel_rfl⟩ (fun w ok loc So vs hG hok hr => ?_)
  obtain ⟨u, rfl, h1⟩ := regs_one hr
  cases h1
  refine (Tryz.strconv_Itoa n (by omega) (by omega) w (G_pow hG)).mono fun e w' ⟨he, k, os, hw⟩ => ⟨_, he, by rw [hw]; exact below_gr w k os, fun ok' => ?_⟩
  rw [Lib.itoa, if_neg (by omega)]
  exact .s _
theorem trimS_eq (s : List UInt8) : Lib.trimS s [32, 9] = trimL (trimR s) := by
  have e : (([32, 9] : List UInt8).contains ·) = blankB := by
    funext b
    simp only [blankB, List.contains_cons, List.contains_nil, Bool.or_false]
  unfold Lib.trimS Lib.trimLeftS Lib.trimRightS trimL trimR trimL
  rw [e]
theorem x_strings_Trim_c {l : List AV} {r : List (Option Ob) × RV} (h : x_strings_Trim_e l = some r) : Ctr Tryz.prog gl0 x_strings_Trim l [] r := by
  unfold x_strings_Trim_e at h
  split at h
  case h_2 => cases h
  rename_i a c
  split at h
  case isFalse => cases h
  rename_i hc
  obtain ⟨rfl, hs⟩ := hc
  obtain rfl := Option.some.inj h
  refine ext_ctr ⟨_, Tryz.func206, by kernel_rfl, by kernel_rfl⟩ (fun w ok loc So vs hG hok hr => ?_)
  obtain ⟨u, v, rfl, h1, h2⟩ := regs_two hr
  obtain rfl := rd_s h1
  obtain rfl := rd_s h2
  refine (Any.strings_Trim_laid Tryz.lays160 (by kernel_rfl) ⟨a.toArray⟩ ⟨([32, 9] : List UInt8).toArray⟩ w (show a.toArray.size ≤ 9223372036854775807 by simpa using hs) (by decide) (ascii_of_all (by decide))).mono fun e w' ⟨he, hw⟩ => ⟨_, he, hw, fun ok' => ?_⟩
  rw [show (⟨a.toArray⟩ : ByteArray).data.toList = a from rfl, show (⟨([32, 9] : List UInt8).toArray⟩ : ByteArray).data.toList = [32, 9] from rfl, trimS_eq]
  exact .s _
theorem index_idx : ∀ (s sep : List UInt8), Lib.index s sep = idxI sep s
  | [], sep => by unfold Lib.index idxI idxN; cases sep.isEmpty <;> rfl
  | b :: l, sep => by
    have ih := index_idx l sep
    rw [Lib.index]
    unfold idxI
    rw [idxN]
    cases hp : sep.isPrefixOf (b :: l)
    · rw [ih]
      unfold idxI
      cases idxN sep l with
      | none => simp
      | some i =>
        have h : ((i : Int) == -1) = false := by rw [beq_eq_false_iff_ne]; omega
        simp [h]
    · simp
theorem splitK_eq (sep : List UInt8) (hsep : sep ≠ []) (F : List UInt8 → List (List UInt8)) (h1 : ∀ s, idxN sep s = none → F s = [s]) (h2 : ∀ s i, idxN sep s = some i → F s = s.take i :: F (s.drop (i + sep.length))) :
    ∀ (n : Nat) (s : List UInt8) (fuel : Nat), s.length ≤ n → s.length < fuel → Lib.splitK sep 0 (Lib.countFrom sep fuel s) s = F s := by
  have hp : 1 ≤ sep.length := List.length_pos_iff.2 hsep
  intro n
  induction n with
  | zero =>
    intro s fuel hn hf
    obtain rfl := List.eq_nil_of_length_eq_zero (Nat.le_zero.1 hn)
    obtain ⟨f, rfl⟩ : ∃ f, fuel = f + 1 := ⟨fuel - 1, by omega⟩
    have hi : idxN sep [] = none := by
      cases h : idxN sep [] with
      | none => rfl
      | some i => have := idxN_lt hsep h; rw [List.length_nil] at this; omega
    rw [h1 _ hi, Lib.countFrom, index_idx]
    unfold idxI
    rw [hi]; rfl
  | succ n ih =>
    intro s fuel hn hf
    obtain ⟨f, rfl⟩ : ∃ f, fuel = f + 1 := ⟨fuel - 1, by omega⟩
    rw [Lib.countFrom]
    cases hi : idxN sep s with
    | none =>
      rw [h1 _ hi, index_idx]
      unfold idxI
      rw [hi]; rfl
    | some i =>
      have hlt := idxN_lt hsep hi
      have hb : ((i : Int) == -1) = false := by rw [beq_eq_false_iff_ne]; omega
      have hx : Lib.index s sep = (i : Int) := by rw [index_idx]; unfold idxI; rw [hi]
      rw [h2 _ _ hi, hx, hb]
      simp only [Bool.false_eq_true, if_false]
      rw [Nat.add_comm 1, Lib.splitK, hx, hb]
      simp only [Bool.false_eq_true, if_false, Int.toNat_natCast, Nat.add_zero]
      rw [ih (s.drop (i + sep.length)) f (by rw [List.length_drop]; omega) (by rw [List.length_drop]; omega)]
theorem split_lib {sep s : List UInt8} {l : List (List UInt8)} (h : splitB sep s = some l) : Lib.split s sep = l ∧ sep ≠ [] := by
  unfold splitB at h
  split at h
  · rename_i c
    obtain rfl := Option.some.inj h
    refine ⟨splitK_eq [c] (by simp) (splitC c) (fun s hs => by unfold splitC; rw [splC_none c s hs]) (fun s i hs => by rw [show splitC c s = (splC c s).1 :: (splC c s).2 from rfl, splC_some c s i hs]; rfl) s.length s _ (Nat.le_refl _) (Nat.lt_succ_self _), by simp⟩
  · obtain rfl := Option.some.inj h
    refine ⟨splitK_eq [13, 10] (by simp) linesB (fun s hs => by unfold linesB; rw [lnC_none s hs]) (fun s i hs => by rw [show linesB s = (lnC s).1 :: (lnC s).2 from rfl, lnC_some s i hs]; rfl) s.length s _ (Nat.le_refl _) (Nat.lt_succ_self _), by simp⟩
  · cases h
theorem below_cells (w : World) (c : Array Value) (t : TypeId) : Below w.heap.size w (w.alloc (.cells c t)) :=
  ⟨rfl, rfl, rfl, by show w.heap.size ≤ (w.heap.push _).size; rw [Array.size_push]; exact Nat.le_succ _, fun k hk => by
    show (w.heap.push _)[k]? = w.heap[k]?
    rw [Array.getElem?_push, if_neg (by omega)]⟩
theorem x_strings_Split_c {l : List AV} {r : List (Option Ob) × RV} (h : x_strings_Split_e l = some r) : Ctr Tryz.prog gl0 x_strings_Split l [] r := by
  unfold x_strings_Split_e at h
  split at h
  case h_2 => cases h
  rename_i a c
  split at h
  case isFalse => cases h
  rename_i hc
  obtain ⟨q, hq, rfl⟩ := Option.map_eq_some_iff.1 h
  obtain ⟨hlib, hne⟩ := split_lib hq
  refine ext_ctrW ⟨_, Tryz.func98, by kernel_rfl, by kernel_rfl⟩ (fun w ok loc So vs hG hok hr => ?_)
  obtain ⟨u, v, rfl, h1, h2⟩ := regs_two hr
  obtain rfl := rd_s h1
  obtain rfl := rd_s h2
  obtain ⟨_, hm, m, rfl⟩ := G_max hG
  have hp : 1 ≤ c.length := List.length_pos_iff.2 hne
  have hsz : 1 ≤ (⟨c.toArray⟩ : ByteArray).size := by show 1 ≤ c.toArray.size; simpa using hp
  refine (Tryz.strings_Split ⟨a.toArray⟩ ⟨c.toArray⟩ m w (show a.toArray.size < 4294967281 by simpa using hc) hm hsz).mono fun e w' ⟨he, hw⟩ => ?_
  have hdat : (Lib.splitB ⟨c.toArray⟩ 0 (Lib.countB ⟨a.toArray⟩ ⟨c.toArray⟩) ⟨a.toArray⟩).map (·.data.toList) = q := by rw [Lib.splitB_data]; exact hlib
  have hlen := Lib.splitB_all ⟨c.toArray⟩ hsz 0 _ ⟨a.toArray⟩ rfl
  generalize hL : Lib.splitB ⟨c.toArray⟩ 0 (Lib.countB ⟨a.toArray⟩ ⟨c.toArray⟩) ⟨a.toArray⟩ = L at he hw hdat hlen
  have hql : Lib.countB ⟨a.toArray⟩ ⟨c.toArray⟩ + 1 = q.length := by rw [← hdat, List.length_map]; omega
  rw [hql] at he
  subst hw
  refine ⟨_, he, below_cells _ _ _, ?_⟩
  refine Rd.sl w.heap.size 0 q.length .str q (fun i _ => .string (L.getD i ByteArray.empty)) ⟨Nat.le_refl _, by show w.heap.size < (w.heap.push _).size; rw [Array.size_push]; exact Nat.lt_succ_self _⟩ (Nat.le_refl _) (fun i x j d hx hd => ?_) (fun i x j d hx hd => ?_)
  · cases j with
    | succ j => simp [cellsT] at hd
    | zero =>
      have hi : i < L.length := by have := (List.getElem?_eq_some_iff.1 hx).1; rw [← hdat, List.length_map] at this; exact this
      rw [World.cell?_alloc_at _ _ _ _ rfl]
      simp [T.w, List.getD, hi]
  · cases j with
    | succ j => simp [cellsT] at hd
    | zero =>
      simp only [cellsT, List.getElem?_cons_zero, Option.some.injEq] at hd
      subst hd
      rw [← hdat, List.getElem?_map] at hx
      obtain ⟨b, hb, rfl⟩ := Option.map_eq_some_iff.1 hx
      simp only [List.getD, hb, Option.getD_some]
      exact .s _
theorem cut_eq (s sep : List UInt8) : Lib.cut s sep = cutB sep s := by
  unfold Lib.cut cutB
  rw [index_idx]
  unfold idxI
  cases idxN sep s with
  | none => simp
  | some i => simp
theorem below_drew (w : World) (n : Nat) : Below w.heap.size w (w.drewN n) := ⟨rfl, rfl, rfl, Nat.le_refl _, fun k _ => rfl⟩
theorem x_strings_Cut_c {l : List AV} {r : List (Option Ob) × RV} (h : x_strings_Cut_e l = some r) : Ctr Tryz.prog gl0 x_strings_Cut l [] r := by
  unfold x_strings_Cut_e at h
  split at h
  case h_2 => cases h
  rename_i a c
  split at h
  case isFalse => cases h
  rename_i hc
  obtain rfl := Option.some.inj h
  refine ext_ctrT (xs := [.s (cutB c a).1, .s (cutB c a).2.1, .b (cutB c a).2.2]) ⟨_, Tryz.func142, by kernel_rfl, by kernel_rfl⟩ (fun w ok loc So vs hG hok hr => ?_)
  obtain ⟨u, v, rfl, h1, h2⟩ := regs_two hr
  obtain rfl := rd_s h1
  obtain rfl := rd_s h2
  obtain ⟨_, hm, m, rfl⟩ := G_max hG
  refine (Tryz.strings_Cut ⟨a.toArray⟩ ⟨c.toArray⟩ m w (show a.toArray.size < 4294967281 by simpa using hc) hm).mono fun e w' ⟨he, n, hw⟩ => ⟨_, he, by rw [hw]; exact below_drew _ _, rfl, fun ok' j u d hu hd => ?_⟩
  rw [show (⟨a.toArray⟩ : ByteArray).data.toList = a from rfl, show (⟨c.toArray⟩ : ByteArray).data.toList = c from rfl, cut_eq] at hu
  match j with
  | 0 => simp only [List.getElem?_cons_zero, Option.some.injEq] at hu hd; subst hu hd; exact .s _
  | 1 => simp only [List.getElem?_cons_zero, List.getElem?_cons_succ, Option.some.injEq] at hu hd; subst hu hd; exact .s _
  | 2 => simp only [List.getElem?_cons_zero, List.getElem?_cons_succ, Option.some.injEq] at hu hd; subst hu hd; exact .b _
  | j + 3 => simp at hd
theorem x_strconv_Atoi_c {l : List AV} {r : List (Option Ob) × RV} (h : x_strconv_Atoi_e l = some r) : Ctr Tryz.prog gl0 x_strconv_Atoi l [] r := by
  unfold x_strconv_Atoi_e at h
  split at h
  case h_2 => cases h
  rename_i a
  split at h
  case isFalse => cases h
  rename_i hc
  obtain rfl := Option.some.inj h
  have two : ∀ (w' : World) (n : Int) (v : Value) (t : Bool), (∀ ok', Rd w' ok' v (.e t)) → ∀ (ok' : Nat → Prop) (j : Nat) (u : Value) (d : D), ([.int .i64 n, v] : List Value)[j]? = some u → ([.i .i64 n, .e t] : List D)[j]? = some d → Rd w' ok' u d := by
    intro w' n v t hv ok' j u d hu hd
    match j with
    | 0 => simp only [List.getElem?_cons_zero, Option.some.injEq] at hu hd; subst hu hd; exact .i _ _
    | 1 => simp only [List.getElem?_cons_zero, List.getElem?_cons_succ, Option.some.injEq] at hu hd; subst hu hd; exact hv _
    | j + 2 => simp at hd
  have hsz : (⟨a.toArray⟩ : ByteArray).size ≤ 281474976710656 := by show a.toArray.size ≤ _; simpa using hc
  rcases ha : Lib.atoiAll a with n | _ | _
  · refine ext_ctrT (xs := [.i .i64 n, .e true]) ⟨_, Tryz.func245, by kernel_rfl, by kernel_rfl⟩ (fun w ok loc So vs hG hok hr => ?_)
    obtain ⟨u, rfl, h1⟩ := regs_one hr
    obtain rfl := rd_s h1
    refine (Tryz.strconv_Atoi_ok ⟨a.toArray⟩ (by omega) n ha w).mono fun e w' ⟨he, hw⟩ => ⟨[.int .i64 n, .nilIface], he, ?_, rfl, two w' n _ true fun _ => .e0⟩
    rcases hw with rfl | ⟨t, rfl⟩
    · exact Below.refl _ _
    · exact Lib.bytesWorld_below _ _ _
  · refine ext_ctrT (xs := [.i .i64 0, .e false]) ⟨_, Tryz.func245, by kernel_rfl, by kernel_rfl⟩ (fun w ok loc So vs hG hok hr => ?_)
    obtain ⟨u, rfl, h1⟩ := regs_one hr
    obtain rfl := rd_s h1
    obtain ⟨ev, hv, hev⟩ := G_syn hG
    exact (Any.strconv_Atoi_syntax Tryz.laysC172 ⟨a.toArray⟩ hsz ha ev w hv hev).mono fun e w' ⟨N, he, _, _, hw⟩ => ⟨_, he, hw, rfl, two w' 0 _ false fun _ => .e1 _ _⟩
  · refine ext_ctrT (xs := [.i .i64 (Lib.atoiSat a), .e false]) ⟨_, Tryz.func245, by kernel_rfl, by kernel_rfl⟩ (fun w ok loc So vs hG hok hr => ?_)
    obtain ⟨u, rfl, h1⟩ := regs_one hr
    obtain rfl := rd_s h1
    obtain ⟨ev, hv, hev⟩ := G_ran hG
    exact (Any.strconv_Atoi_range Tryz.laysC172 ⟨a.toArray⟩ hsz ha ev w hv hev).mono fun e w' ⟨N, he, _, _, hw⟩ => ⟨_, he, hw, rfl, two w' _ _ false fun _ => .e1 _ _⟩
theorem x_strings_HasPrefix_c {l : List AV} {r : List (Option Ob) × RV} (h : x_strings_HasPrefix_e l = some r) : Ctr Tryz.prog gl0 x_strings_HasPrefix l [] r := by
  unfold x_strings_HasPrefix_e at h
  split at h
  case h_2 => cases h
  rename_i a c
  obtain rfl := Option.some.inj h
  refine ext_ctr ⟨_, Tryz.func162, by kernel_rfl, by kernel_rfl⟩ (fun w ok loc So vs hG hok hr => ?_)
  obtain ⟨u, v, rfl, h1, h2⟩ := regs_two hr
  obtain rfl := rd_s h1
  obtain rfl := rd_s h2
  exact (Tryz.strings_HasPrefix ⟨a.toArray⟩ ⟨c.toArray⟩ w).mono fun e w' ⟨he, hw⟩ => ⟨_, he, by rw [hw]; exact Below.refl _ _, fun ok' => .b _⟩
theorem x_strings_TrimLeft_c {l : List AV} {r : List (Option Ob) × RV} (h : x_strings_TrimLeft_e l = some r) : Ctr Tryz.prog gl0 x_strings_TrimLeft l [] r := by
  unfold x_strings_TrimLeft_e at h
  split at h
  case h_2 => cases h
  rename_i a c
  split at h
  case isFalse => cases h
  rename_i hc
  obtain rfl := Option.some.inj h
  refine ext_ctr ⟨_, Tryz.func165, by kernel_rfl, by kernel_rfl⟩ (fun w ok loc So vs hG hok hr => ?_)
  obtain ⟨u, v, rfl, h1, h2⟩ := regs_two hr
  obtain rfl := rd_s h1
  obtain rfl := rd_s h2
  exact (Tryz.strings_TrimLeft_one ⟨a.toArray⟩ c hc w).mono fun e w' ⟨he, hw⟩ => ⟨_, he, by rw [hw]; exact Below.refl _ _, fun ok' => .s _⟩
theorem two_sb {w' : World} {s : List UInt8} {b : Bool} : ∀ (ok' : Nat → Prop) (j : Nat) (u : Value) (d : D), ([.string ⟨s.toArray⟩, .bool b] : List Value)[j]? = some u → ([.s s, .b b] : List D)[j]? = some d → Rd w' ok' u d := by
  intro ok' j u d hu hd
  match j with
  | 0 => simp only [List.getElem?_cons_zero, Option.some.injEq] at hu hd; subst hu hd; exact .s _
  | 1 => simp only [List.getElem?_cons_zero, List.getElem?_cons_succ, Option.some.injEq] at hu hd; subst hu hd; exact .b _
  | j + 2 => simp at hd
theorem x_strings_CutPrefix_c {l : List AV} {r : List (Option Ob) × RV} (h : x_strings_CutPrefix_e l = some r) : Ctr Tryz.prog gl0 x_strings_CutPrefix l [] r := by
  unfold x_strings_CutPrefix_e at h
  split at h
  case h_2 => cases h
  rename_i a c
  obtain rfl := Option.some.inj h
  refine ext_ctrT (xs := [.s (Lib.trimPrefix a c), .b (Lib.hasPrefix a c)]) ⟨_, Tryz.func182, by kernel_rfl, by kernel_rfl⟩ (fun w ok loc So vs hG hok hr => ?_)
  obtain ⟨u, v, rfl, h1, h2⟩ := regs_two hr
  obtain rfl := rd_s h1
  obtain rfl := rd_s h2
  exact (Tryz.strings_CutPrefix ⟨a.toArray⟩ ⟨c.toArray⟩ w).mono fun e w' ⟨he, hw⟩ => ⟨_, he, by rw [hw]; exact Below.refl _ _, rfl, two_sb⟩
theorem x_strings_CutSuffix_c {l : List AV} {r : List (Option Ob) × RV} (h : x_strings_CutSuffix_e l = some r) : Ctr Tryz.prog gl0 x_strings_CutSuffix l [] r := by
  unfold x_strings_CutSuffix_e at h
  split at h
  case h_2 => cases h
  rename_i a c
  split at h
  case isFalse => cases h
  rename_i hc
  obtain rfl := Option.some.inj h
  refine ext_ctrT (xs := [.s (Lib.trimSuffix a c), .b (Lib.hasSuffix a c)]) ⟨_, Tryz.func183, by kernel_rfl, by kernel_rfl⟩ (fun w ok loc So vs hG hok hr => ?_)
  obtain ⟨u, v, rfl, h1, h2⟩ := regs_two hr
  obtain rfl := rd_s h1
  obtain rfl := rd_s h2
  exact (Tryz.strings_CutSuffix ⟨a.toArray⟩ ⟨c.toArray⟩ w (by show a.toArray.size ≤ _; simpa using hc)).mono fun e w' ⟨he, hw⟩ => ⟨_, he, by rw [hw]; exact Below.refl _ _, rfl, two_sb⟩
theorem ext_ok (f : Nat) (l : List AV) (obs : List Ob) (r : List (Option Ob) × RV) (h : extE f l obs = some r) : Ctr Tryz.prog gl0 f l obs r := by
  unfold extE at h
  split at h
  · by_cases h0 : f = x_strings_Contains
    · rw [if_pos h0] at h; subst h0; exact x_strings_Contains_c h
    rw [if_neg h0] at h
    by_cases h0 : f = x_strings_IndexByte
    · rw [if_pos h0] at h; subst h0; exact x_strings_IndexByte_c h
    rw [if_neg h0] at h
    by_cases h0 : f = x_strings_Join
    · rw [if_pos h0] at h; subst h0; exact x_strings_Join_c h
    rw [if_neg h0] at h
    by_cases h0 : f = x_strconv_Itoa
    · rw [if_pos h0] at h; subst h0; exact x_strconv_Itoa_c h
    rw [if_neg h0] at h
    by_cases h0 : f = x_strings_Trim
    · rw [if_pos h0] at h; subst h0; exact x_strings_Trim_c h
    rw [if_neg h0] at h
    by_cases h0 : f = x_strings_Split
    · rw [if_pos h0] at h; subst h0; exact x_strings_Split_c h
    rw [if_neg h0] at h
    by_cases h0 : f = x_strings_Cut
    · rw [if_pos h0] at h; subst h0; exact x_strings_Cut_c h
    rw [if_neg h0] at h
    by_cases h0 : f = x_strconv_Atoi
    · rw [if_pos h0] at h; subst h0; exact x_strconv_Atoi_c h
    rw [if_neg h0] at h
    by_cases h0 : f = x_strings_HasPrefix
    · rw [if_pos h0] at h; subst h0; exact x_strings_HasPrefix_c h
    rw [if_neg h0] at h
    by_cases h0 : f = x_strings_TrimLeft
    · rw [if_pos h0] at h; subst h0; exact x_strings_TrimLeft_c h
    rw [if_neg h0] at h
    by_cases h0 : f = x_strings_CutPrefix
    · rw [if_pos h0] at h; subst h0; exact x_strings_CutPrefix_c h
    rw [if_neg h0] at h
    by_cases h0 : f = x_strings_CutSuffix
    · rw [if_pos h0] at h; subst h0; exact x_strings_CutSuffix_c h
    rw [if_neg h0] at h
    cases h
  · cases h
end Go.Proofs.YtniakiefibpgmaaGreatDoorK
