/- What the functions come to. -/
import Derived.Test.YtniakiefibpgmaaGreatDoorF6
set_option linter.unusedVariables false
set_option linter.unusedSimpArgs false
namespace Go.Proofs.YtniakiefibpgmaaGreatDoorK
open Go.RowKit
theorem wat_ok (l : List UInt8) (i : Nat) (hl : l.length ≤ 1048576) (hi : i ≤ 1000) : ∃ a : Int, 0 ≤ a ∧ a ≤ 255 ∧ V wat [.d (.sl .u8 l), i6 i] [] = rI a := by
  rw [V_eq (fn := wat_m) (by kernel_rfl)]
  by_cases h : i < l.length
  · refine ⟨(l[i].toNat : Int), by omega, by have := l[i].toNat_lt; omega, ?_⟩
    simp -implicitDefEqProofs [wat_m, h, get_some h, (eq_true (by omega) : ((i : Int) < (l.length : Int)) = True), wrap_b]
  · refine ⟨((i : Int) * 31 + (l.length : Int) * 7).tmod 256, ?_, ?_, ?_⟩
    · exact Int.tmod_nonneg _ (by omega)
    · have := Int.tmod_lt_of_pos ((i : Int) * 31 + (l.length : Int) * 7) (show (0 : Int) < 256 by omega); omega
    · simp -implicitDefEqProofs [wat_m, (eq_false (by omega) : ((i : Int) < (l.length : Int)) = False), (wrI (by omega) (by omega) : IntKind.i64.wrap ((i : Int) * 31) = (i : Int) * 31), (wrI (by omega) (by omega) : IntKind.i64.wrap ((l.length : Int) * 7) = (l.length : Int) * 7), (wrI (by omega) (by omega) : IntKind.i64.wrap ((i : Int) * 31 + (l.length : Int) * 7) = (i : Int) * 31 + (l.length : Int) * 7)]
def decF : Nat → Nat → List UInt8
  | 0, n => [UInt8.ofNat (48 + n)]
  | f + 1, n => if n < 10 then [UInt8.ofNat (48 + n)] else decF f (n / 10) ++ [UInt8.ofNat (48 + n % 10)]
theorem decF_ok : ∀ (f n : Nat), n < 10 ^ (f + 1) → decF f n = Lib.decDigits n
  | 0, n, h => by rw [decB_small (by omega)]; rfl
  | f + 1, n, h => by
    unfold decF
    split
    · rename_i h1; rw [decB_small h1]
    · rename_i h1; rw [decB_big h1, decF_ok f (n / 10) (by rw [Nat.pow_succ] at h; omega)]
def ext1 : XF := fun f l obs => if f = x_strconv_Itoa then (match l, obs with | [.d (.i .i64 n)], [] => if 0 ≤ n ∧ n < 100000 then some ([], .one (.fz (.s (decF 4 n.toNat)))) else none | _, _ => none) else extE f l obs
theorem ext1_le : LeX ext1 extE := by
  intro f l obs r h
  unfold ext1 at h
  split at h
  · rename_i hf
    subst hf
    split at h
    · rename_i n
      split at h
      · rename_i hn
        rw [show extE x_strconv_Itoa [.d (.i .i64 n)] [] = x_strconv_Itoa_e [.d (.i .i64 n)] from rfl]
        unfold x_strconv_Itoa_e
        dsimp only
        rw [if_pos ⟨hn.1, by omega⟩, ← decF_ok 4 n.toNat (by omega)]
        exact h
      · cases h
    · cases h
  · exact h
theorem ev_le {E E' : XF} (Tb : Nat → Option Fn) (h : LeX E E') : ∀ k, LeX (ev Tb E k) (ev Tb E' k)
  | 0 => fun f ds obs r h => by simp [ev] at h
  | k + 1 => fun f ds obs r hr => by
    simp only [ev] at hr ⊢
    split at hr
    · exact evFn_mono (ev_le Tb h k) (Nat.le_refl k) hr
    · exact h _ _ _ _ hr
theorem V_of {k f : Nat} {ds : List AV} {r : List (Option Ob) × RV} (h : ev tab ext1 k f ds [] = some r) : V f ds [] = some r := evL_of _ _ (ev_le tab ext1_le k _ _ _ _ h)
abbrev lkT (v : List UInt8) (n : Int) : List TRes.den := [([[97]], (false, (v, (n, []))))]
abbrev lkL (n : Int) : List TLock.den := [(n, ([[97]], (true, (false, 50))))]
abbrev lkR (T : List TRes.den) (L : List TLock.den) (now ver : Int) (d u : List Int) : RV := .agg [.fz (.sl TRes T), .fz (.sl TLock L), .fz (.i .i64 now), .fz (.i .i64 ver), .fz (.sl (.int .i64) d), .fz (.sl (.int .i64) u)]
abbrev lkO (T : List TRes.den) (L : List TLock.den) (now ver : Int) (d u : List Int) : RV := .agg [.own (.sl TRes T), .own (.sl TLock L), .fz (.i .i64 now), .fz (.i .i64 ver), .own (.sl (.int .i64) d), .own (.sl (.int .i64) u)]
abbrev lkA (T : List TRes.den) (L : List TLock.den) (now ver : Int) (d u : List Int) : AV := .agg [.d (.sl TRes T), .d (.sl TLock L), i6 now, i6 ver, .d (.sl (.int .i64) d), .d (.sl (.int .i64) u)]
abbrev lkQ (m b : List UInt8) (h : AV) : AV := .agg [.d (.s m), .d (.s [47, 97]), h, .d (.s b)]
abbrev lkP (c : Int) (h : List THead.den) : RV := .agg [.fz (.i .i64 c), .own (.sl THead h), .fz (.s [])]
abbrev lkI (n : Int) : List UInt8 := [60, UInt8.ofNat (48 + n.toNat), 62]
abbrev old3 : List UInt8 := [111, 108, 100]
abbrev new3 : List UInt8 := [110, 101, 119]
abbrev put3 : List UInt8 := [80, 85, 84]
abbrev etag4 (c : UInt8) : List THead.den := [([101, 116, 97, 103], [34, 118, c, 34])]
theorem lk_new : V iSrvNew [] [] = some ([], lkO [] [] 0 1 [] []) := V_of (k := 300) (by kernel_rfl)
abbrev N9 (n : Int) : Prop := n = 1 ∨ n = 2 ∨ n = 3 ∨ n = 4 ∨ n = 5 ∨ n = 6 ∨ n = 7 ∨ n = 8 ∨ n = 9
theorem lk_draw (n : Int) (hn : N9 n) : V iDraw [lkA [] [] 0 1 [] [], i6 n] [] = some ([], lkO [] [] 0 1 [n] []) := by
  rcases hn with rfl | rfl | rfl | rfl | rfl | rfl | rfl | rfl | rfl <;> exact V_of (k := 300) (by kernel_rfl)
abbrev lkK (c : UInt8) : List UInt8 := [60, c, 62]
abbrev ltok : List UInt8 := [108, 111, 99, 107, 45, 116, 111, 107, 101, 110]
end Go.Proofs.YtniakiefibpgmaaGreatDoorK
