/-
  What the functions that sum a call do: the program's and the document's. PRINTED by wip/tools/mkdrc.py.
-/
import Derived.Test.YtlhlgmodhblplaaJtWalk
set_option autoImplicit false
set_option linter.all false
set_option maxRecDepth 10000
namespace Go.Jt
noncomputable section
variable [Gl]
def irW : FnIR := ⟨15, [.cell 2 4 true], (.seq (.reg [⟨some 2, .alloc (.rep 4 (.int .u8 0)), none⟩]) (.seq (.reg [⟨some 3, .mv (.tmp 0), none⟩, ⟨some 4, .bin .shr 0 (.tmp 3) (.cst (.int .u64 24)), none⟩, ⟨some 5, .cvi .u8 (.tmp 4), none⟩, ⟨some 6, .mv (.tmp 0), none⟩, ⟨some 7, .bin .shr 0 (.tmp 6) (.cst (.int .u64 16)), none⟩, ⟨some 8, .cvi .u8 (.tmp 7), none⟩, ⟨some 9, .mv (.tmp 0), none⟩, ⟨some 10, .bin .shr 0 (.tmp 9) (.cst (.int .u64 8)), none⟩, ⟨some 11, .cvi .u8 (.tmp 10), none⟩, ⟨some 12, .mv (.tmp 0), none⟩, ⟨some 13, .cvi .u8 (.tmp 12), none⟩, ⟨some 14, .build (.rep 4 (.int .u8 0)) [(0, 1, (.tmp 5)), (1, 1, (.tmp 8)), (2, 1, (.tmp 11)), (3, 1, (.tmp 13))], none⟩, ⟨none, .st 4 (.tmp 2) (.tmp 14), none⟩]) .ret))⟩
def irPut : FnIR := ⟨13, [.tmp 4], (.seq (.reg [⟨some 4, .mv (.cst .nils), none⟩]) (.seq (.reg [⟨some 5, .mv (.tmp 0), none⟩, ⟨some 6, .mv (.tmp 0), none⟩, ⟨some 7, .len 1 (.tmp 6), none⟩, ⟨some 8, .mv (.tmp 0), none⟩, ⟨some 9, .len 1 (.tmp 8), none⟩, ⟨some 10, .sll 1 (.tmp 5) none (some (.tmp 7)) (some (.tmp 9)), none⟩, ⟨some 11, .mv (.tmp 1), none⟩, ⟨some 12, .app 1 1 (.one (.int .u8 0)) false (.tmp 10) (.tmp 11), none⟩, ⟨some 4, .mv (.tmp 12), none⟩]) .ret))⟩
def irWord (gW gPut : Nat) : FnIR := ⟨11, [.tmp 4], (.seq (.reg [⟨some 4, .mv (.cst .nils), none⟩]) (.seq (.reg [⟨some 6, .mv (.tmp 1), none⟩, ⟨some 7, .call (.cst (.fn (.fn (.func gW)) [] [])) [(.tmp 6)], none⟩, ⟨some 5, .alloc (.rep 4 (.int .u8 0)), none⟩, ⟨none, .st 4 (.tmp 5) (.tmp 7), none⟩]) (.seq (.reg [⟨some 8, .mv (.tmp 0), none⟩, ⟨some 9, .sla 4 1 (.tmp 5) none none none, none⟩, ⟨some 10, .call (.cst (.fn (.fn (.func gPut)) [] [])) [(.tmp 8), (.tmp 9)], none⟩, ⟨some 4, .mv (.tmp 10), none⟩]) .ret)))⟩
theorem w_does {tbl : Nat → Option FT} {N f : Nat} {gW : Nat} (hW : tbl gW = some (.code irW)) (x : Nat) (H : AH) : ∃ H' : AH, Ext H H' ∧ Does (RUN tbl N (f + 1)) gW [(.int .u32 (.ofNat x))] H (.agg (Rp.sub (Rp.put (.rep 4 (.int .u8 (.ofNat 0))) 0 4 (Rp.set (Rp.set (Rp.set (Rp.set (.rep 4 (.int .u8 (.ofNat 0))) 0 (.int .u8 (.ofNat ((x / 16777216) % 256)))) 1 (.int .u8 (.ofNat ((x / 65536) % 256)))) 2 (.int .u8 (.ofNat ((x / 256) % 256)))) 3 (.int .u8 (.ofNat (x % 256))))) 0 4)) H' := by
  have g1 := get_new_here (H) (.cells (.rep 4 (.int .u8 (.ofNat 0))) false false)
  have l2 := Nat.lt_succ_self (H).n
  have g3 := get_set_here (H := (H).new (.cells (.rep 4 (.int .u8 (.ofNat 0))) false false)) (H).n (.cells (Rp.put (.rep 4 (.int .u8 (.ofNat 0))) 0 4 (Rp.set (Rp.set (Rp.set (Rp.set (.rep 4 (.int .u8 (.ofNat 0))) 0 (.int .u8 (.ofNat ((x / 16777216) % 256)))) 1 (.int .u8 (.ofNat ((x / 65536) % 256)))) 2 (.int .u8 (.ofNat ((x / 256) % 256)))) 3 (.int .u8 (.ofNat (x % 256))))) false false)
  refine ⟨((H).new (.cells (.rep 4 (.int .u8 (.ofNat 0))) false false)).set (H).n (.cells (Rp.put (.rep 4 (.int .u8 (.ofNat 0))) 0 4 (Rp.set (Rp.set (Rp.set (Rp.set (.rep 4 (.int .u8 (.ofNat 0))) 0 (.int .u8 (.ofNat ((x / 16777216) % 256)))) 1 (.int .u8 (.ofNat ((x / 65536) % 256)))) 2 (.int .u8 (.ofNat ((x / 256) % 256)))) 3 (.int .u8 (.ofNat (x % 256))))) false false), (((Ext.refl H).new (.cells (.rep 4 (.int .u8 (.ofNat 0))) false false)).set _ (.cells (Rp.put (.rep 4 (.int .u8 (.ofNat 0))) 0 4 (Rp.set (Rp.set (Rp.set (Rp.set (.rep 4 (.int .u8 (.ofNat 0))) 0 (.int .u8 (.ofNat ((x / 16777216) % 256)))) 1 (.int .u8 (.ofNat ((x / 65536) % 256)))) 2 (.int .u8 (.ofNat ((x / 256) % 256)))) 3 (.int .u8 (.ofNat (x % 256))))) false false) ((Ext.refl H)).1), Does.of hW fun k => ?_⟩
  show den _ _ none irW.body [(.int .u32 (.ofNat x)), .tup [], .tup [], .tup [], .tup [], .tup [], .tup [], .tup [], .tup [], .tup [], .tup [], .tup [], .tup [], .tup [], .tup []] [] H (finK irW k) = _
  unfold irW
  refine (den_seq ..).trans ?_
  refine (den_reg ..).trans ?_
  refine (runOps_cons ..).trans ((stepE (v := (.ptr (H).n 0)) (by intro f as h; cases h) (fun K => w_alloc K) _).trans ?_)
  refine (runOps_nil ..).trans ?_
  refine (den_seq ..).trans ?_
  refine (den_reg ..).trans ?_
  refine (runOps_cons ..).trans ((step_mv ..).trans ?_)
  refine (runOps_cons ..).trans ((stepE (v := (.int .u32 (.ofNat (x / 16777216)))) (by intro f as h; cases h) (fun K => w_bin (fun K => shr_u (a := x) (b := 24) (p := 16777216) (by rfl) K) K) _).trans ?_)
  refine (runOps_cons ..).trans ((stepE (v := (.int .u8 (.ofNat ((x / 16777216) % 256)))) (by intro f as h; cases h) (fun K => w_cvi (r := ((x / 16777216) % 256)) (by rfl) (by rfl) K) _).trans ?_)
  refine (runOps_cons ..).trans ((step_mv ..).trans ?_)
  refine (runOps_cons ..).trans ((stepE (v := (.int .u32 (.ofNat (x / 65536)))) (by intro f as h; cases h) (fun K => w_bin (fun K => shr_u (a := x) (b := 16) (p := 65536) (by rfl) K) K) _).trans ?_)
  refine (runOps_cons ..).trans ((stepE (v := (.int .u8 (.ofNat ((x / 65536) % 256)))) (by intro f as h; cases h) (fun K => w_cvi (r := ((x / 65536) % 256)) (by rfl) (by rfl) K) _).trans ?_)
  refine (runOps_cons ..).trans ((step_mv ..).trans ?_)
  refine (runOps_cons ..).trans ((stepE (v := (.int .u32 (.ofNat (x / 256)))) (by intro f as h; cases h) (fun K => w_bin (fun K => shr_u (a := x) (b := 8) (p := 256) (by rfl) K) K) _).trans ?_)
  refine (runOps_cons ..).trans ((stepE (v := (.int .u8 (.ofNat ((x / 256) % 256)))) (by intro f as h; cases h) (fun K => w_cvi (r := ((x / 256) % 256)) (by rfl) (by rfl) K) _).trans ?_)
  refine (runOps_cons ..).trans ((step_mv ..).trans ?_)
  refine (runOps_cons ..).trans ((stepE (v := (.int .u8 (.ofNat (x % 256)))) (by intro f as h; cases h) (fun K => w_cvi (r := (x % 256)) (by rfl) (by rfl) K) _).trans ?_)
  refine (runOps_cons ..).trans ((stepE (v := (.agg (Rp.set (Rp.set (Rp.set (Rp.set (.rep 4 (.int .u8 (.ofNat 0))) 0 (.int .u8 (.ofNat ((x / 16777216) % 256)))) 1 (.int .u8 (.ofNat ((x / 65536) % 256)))) 2 (.int .u8 (.ofNat ((x / 256) % 256)))) 3 (.int .u8 (.ofNat (x % 256)))))) (by intro f as h; cases h) (fun K => w_build (r := (Rp.set (Rp.set (Rp.set (Rp.set (.rep 4 (.int .u8 (.ofNat 0))) 0 (.int .u8 (.ofNat ((x / 16777216) % 256)))) 1 (.int .u8 (.ofNat ((x / 65536) % 256)))) 2 (.int .u8 (.ofNat ((x / 256) % 256)))) 3 (.int .u8 (.ofNat (x % 256))))) (by intro K; rfl) K) _).trans ?_)
  refine (runOps_cons ..).trans ((stepN (v := .undef) (by intro f as h; cases h) (fun K => w_sta (by rfl) (by rfl) g1 (by rfl) (by rfl) K) _).trans ?_)
  refine (runOps_nil ..).trans ?_
  refine (den_ret ..).trans ?_
  exact fin_cell (by rfl) (by rfl) g3 (by rfl) k

theorem put_does {tbl : Nat → Option FT} {N f : Nat} {gPut : Nat} (hP : tbl gPut = some (.code irPut)) {b : Nat} {a : Rp AV} {st ro : Bool} (H : AH) (hg : H.get b = some (.cells a st ro)) (hb : b < H.n) (hl : Nat.ble 4 a.len = true) : Does (RUN tbl N (f + 1)) gPut [.nils, .slc b 0 4 4] H (.slu H.n 0 4 1) (H.new (.cells (Rp.sub a 0 4) false false)) := by
  refine Does.of hP fun k => ?_
  show den _ _ none irPut.body [.nils, .slc b 0 4 4, .tup [], .tup [], .tup [], .tup [], .tup [], .tup [], .tup [], .tup [], .tup [], .tup [], .tup []] [] H (finK irPut k) = _
  unfold irPut
  refine (den_seq ..).trans ?_
  refine (den_reg ..).trans ?_
  refine (runOps_cons ..).trans ((step_mv ..).trans ?_)
  refine (runOps_nil ..).trans ?_
  refine (den_seq ..).trans ?_
  refine (den_reg ..).trans ?_
  refine (runOps_cons ..).trans ((step_mv ..).trans ?_)
  refine (runOps_cons ..).trans ((step_mv ..).trans ?_)
  refine (runOps_cons ..).trans ((stepE (v := (.int .i64 (.ofNat 0))) (by intro f as h; cases h) (fun K => w_lit (by intro K; rfl) K) _).trans ?_)
  refine (runOps_cons ..).trans ((step_mv ..).trans ?_)
  refine (runOps_cons ..).trans ((stepE (v := (.int .i64 (.ofNat 0))) (by intro f as h; cases h) (fun K => w_lit (by intro K; rfl) K) _).trans ?_)
  refine (runOps_cons ..).trans ((stepE (v := .nils) (by intro f as h; cases h) (fun K => w_lit (by intro K; rfl) K) _).trans ?_)
  refine (runOps_cons ..).trans ((step_mv ..).trans ?_)
  refine (runOps_cons ..).trans ((stepE (v := (.slu (H).n 0 4 1)) (by intro f as h; cases h) (fun K => w_appnil (by rfl) (by rfl) hg hl (by rfl) (by rfl) K) _).trans ?_)
  refine (runOps_cons ..).trans ((step_mv ..).trans ?_)
  refine (runOps_nil ..).trans ?_
  refine (den_ret ..).trans ?_
  exact fin_tmp (by rfl) (by rfl) k

theorem word_does {tbl : Nat → Option FT} {N f : Nat} {gWord gW gPut : Nat} (hWord : tbl gWord = some (.code (irWord gW gPut))) (hW : tbl gW = some (.code irW)) (hP : tbl gPut = some (.code irPut)) (x : Nat) (H : AH) : ∃ (H' : AH) (b : Nat), Ext H H' ∧ H'.get b = some (.cells (Rp.sub (Rp.put (.rep 4 (.int .u8 (.ofNat 0))) 0 4 (Rp.sub (Rp.put (.rep 4 (.int .u8 (.ofNat 0))) 0 4 (Rp.set (Rp.set (Rp.set (Rp.set (.rep 4 (.int .u8 (.ofNat 0))) 0 (.int .u8 (.ofNat ((x / 16777216) % 256)))) 1 (.int .u8 (.ofNat ((x / 65536) % 256)))) 2 (.int .u8 (.ofNat ((x / 256) % 256)))) 3 (.int .u8 (.ofNat (x % 256))))) 0 4)) 0 4) false false) ∧ H.n ≤ b ∧ b < H'.n ∧ Does (RUN tbl N (f + 1 + 1)) gWord [.nils, (.int .u32 (.ofNat x))] H (.slu b 0 4 1) H' := by
  obtain ⟨h1, e2, d3⟩ := w_does (tbl := tbl) (N := N) (f := f) hW x (H)
  have g4 := get_new_here (h1) (.cells (.rep 4 (.int .u8 (.ofNat 0))) false false)
  have l5 := Nat.lt_succ_self (h1).n
  have g6 := get_set_here (H := (h1).new (.cells (.rep 4 (.int .u8 (.ofNat 0))) false false)) (h1).n (.cells (Rp.put (.rep 4 (.int .u8 (.ofNat 0))) 0 4 (Rp.sub (Rp.put (.rep 4 (.int .u8 (.ofNat 0))) 0 4 (Rp.set (Rp.set (Rp.set (Rp.set (.rep 4 (.int .u8 (.ofNat 0))) 0 (.int .u8 (.ofNat ((x / 16777216) % 256)))) 1 (.int .u8 (.ofNat ((x / 65536) % 256)))) 2 (.int .u8 (.ofNat ((x / 256) % 256)))) 3 (.int .u8 (.ofNat (x % 256))))) 0 4)) false false)
  have d7 := put_does (tbl := tbl) (N := N) (f := f) hP (((h1).new (.cells (.rep 4 (.int .u8 (.ofNat 0))) false false)).set (h1).n (.cells (Rp.put (.rep 4 (.int .u8 (.ofNat 0))) 0 4 (Rp.sub (Rp.put (.rep 4 (.int .u8 (.ofNat 0))) 0 4 (Rp.set (Rp.set (Rp.set (Rp.set (.rep 4 (.int .u8 (.ofNat 0))) 0 (.int .u8 (.ofNat ((x / 16777216) % 256)))) 1 (.int .u8 (.ofNat ((x / 65536) % 256)))) 2 (.int .u8 (.ofNat ((x / 256) % 256)))) 3 (.int .u8 (.ofNat (x % 256))))) 0 4)) false false)) g6 l5 (by rfl)
  have q8 := Nat.ne_of_lt l5
  have g9 := get_new_old (o' := (.cells (Rp.sub (Rp.put (.rep 4 (.int .u8 (.ofNat 0))) 0 4 (Rp.sub (Rp.put (.rep 4 (.int .u8 (.ofNat 0))) 0 4 (Rp.set (Rp.set (Rp.set (Rp.set (.rep 4 (.int .u8 (.ofNat 0))) 0 (.int .u8 (.ofNat ((x / 16777216) % 256)))) 1 (.int .u8 (.ofNat ((x / 65536) % 256)))) 2 (.int .u8 (.ofNat ((x / 256) % 256)))) 3 (.int .u8 (.ofNat (x % 256))))) 0 4)) 0 4) false false)) g6 l5
  have l10 := Nat.lt_succ_of_lt l5
  have g11 := get_new_here (((h1).new (.cells (.rep 4 (.int .u8 (.ofNat 0))) false false)).set (h1).n (.cells (Rp.put (.rep 4 (.int .u8 (.ofNat 0))) 0 4 (Rp.sub (Rp.put (.rep 4 (.int .u8 (.ofNat 0))) 0 4 (Rp.set (Rp.set (Rp.set (Rp.set (.rep 4 (.int .u8 (.ofNat 0))) 0 (.int .u8 (.ofNat ((x / 16777216) % 256)))) 1 (.int .u8 (.ofNat ((x / 65536) % 256)))) 2 (.int .u8 (.ofNat ((x / 256) % 256)))) 3 (.int .u8 (.ofNat (x % 256))))) 0 4)) false false)) (.cells (Rp.sub (Rp.put (.rep 4 (.int .u8 (.ofNat 0))) 0 4 (Rp.sub (Rp.put (.rep 4 (.int .u8 (.ofNat 0))) 0 4 (Rp.set (Rp.set (Rp.set (Rp.set (.rep 4 (.int .u8 (.ofNat 0))) 0 (.int .u8 (.ofNat ((x / 16777216) % 256)))) 1 (.int .u8 (.ofNat ((x / 65536) % 256)))) 2 (.int .u8 (.ofNat ((x / 256) % 256)))) 3 (.int .u8 (.ofNat (x % 256))))) 0 4)) 0 4) false false)
  have l12 := Nat.lt_succ_self (((h1).new (.cells (.rep 4 (.int .u8 (.ofNat 0))) false false)).set (h1).n (.cells (Rp.put (.rep 4 (.int .u8 (.ofNat 0))) 0 4 (Rp.sub (Rp.put (.rep 4 (.int .u8 (.ofNat 0))) 0 4 (Rp.set (Rp.set (Rp.set (Rp.set (.rep 4 (.int .u8 (.ofNat 0))) 0 (.int .u8 (.ofNat ((x / 16777216) % 256)))) 1 (.int .u8 (.ofNat ((x / 65536) % 256)))) 2 (.int .u8 (.ofNat ((x / 256) % 256)))) 3 (.int .u8 (.ofNat (x % 256))))) 0 4)) false false)).n
  refine ⟨(((h1).new (.cells (.rep 4 (.int .u8 (.ofNat 0))) false false)).set (h1).n (.cells (Rp.put (.rep 4 (.int .u8 (.ofNat 0))) 0 4 (Rp.sub (Rp.put (.rep 4 (.int .u8 (.ofNat 0))) 0 4 (Rp.set (Rp.set (Rp.set (Rp.set (.rep 4 (.int .u8 (.ofNat 0))) 0 (.int .u8 (.ofNat ((x / 16777216) % 256)))) 1 (.int .u8 (.ofNat ((x / 65536) % 256)))) 2 (.int .u8 (.ofNat ((x / 256) % 256)))) 3 (.int .u8 (.ofNat (x % 256))))) 0 4)) false false)).new (.cells (Rp.sub (Rp.put (.rep 4 (.int .u8 (.ofNat 0))) 0 4 (Rp.sub (Rp.put (.rep 4 (.int .u8 (.ofNat 0))) 0 4 (Rp.set (Rp.set (Rp.set (Rp.set (.rep 4 (.int .u8 (.ofNat 0))) 0 (.int .u8 (.ofNat ((x / 16777216) % 256)))) 1 (.int .u8 (.ofNat ((x / 65536) % 256)))) 2 (.int .u8 (.ofNat ((x / 256) % 256)))) 3 (.int .u8 (.ofNat (x % 256))))) 0 4)) 0 4) false false), (((h1).new (.cells (.rep 4 (.int .u8 (.ofNat 0))) false false)).set (h1).n (.cells (Rp.put (.rep 4 (.int .u8 (.ofNat 0))) 0 4 (Rp.sub (Rp.put (.rep 4 (.int .u8 (.ofNat 0))) 0 4 (Rp.set (Rp.set (Rp.set (Rp.set (.rep 4 (.int .u8 (.ofNat 0))) 0 (.int .u8 (.ofNat ((x / 16777216) % 256)))) 1 (.int .u8 (.ofNat ((x / 65536) % 256)))) 2 (.int .u8 (.ofNat ((x / 256) % 256)))) 3 (.int .u8 (.ofNat (x % 256))))) 0 4)) false false)).n, (((((Ext.refl H).trans e2).new (.cells (.rep 4 (.int .u8 (.ofNat 0))) false false)).set _ (.cells (Rp.put (.rep 4 (.int .u8 (.ofNat 0))) 0 4 (Rp.sub (Rp.put (.rep 4 (.int .u8 (.ofNat 0))) 0 4 (Rp.set (Rp.set (Rp.set (Rp.set (.rep 4 (.int .u8 (.ofNat 0))) 0 (.int .u8 (.ofNat ((x / 16777216) % 256)))) 1 (.int .u8 (.ofNat ((x / 65536) % 256)))) 2 (.int .u8 (.ofNat ((x / 256) % 256)))) 3 (.int .u8 (.ofNat (x % 256))))) 0 4)) false false) (((Ext.refl H).trans e2)).1).new (.cells (Rp.sub (Rp.put (.rep 4 (.int .u8 (.ofNat 0))) 0 4 (Rp.sub (Rp.put (.rep 4 (.int .u8 (.ofNat 0))) 0 4 (Rp.set (Rp.set (Rp.set (Rp.set (.rep 4 (.int .u8 (.ofNat 0))) 0 (.int .u8 (.ofNat ((x / 16777216) % 256)))) 1 (.int .u8 (.ofNat ((x / 65536) % 256)))) 2 (.int .u8 (.ofNat ((x / 256) % 256)))) 3 (.int .u8 (.ofNat (x % 256))))) 0 4)) 0 4) false false)), g11, (((((Ext.refl H).trans e2).new (.cells (.rep 4 (.int .u8 (.ofNat 0))) false false)).set _ (.cells (Rp.put (.rep 4 (.int .u8 (.ofNat 0))) 0 4 (Rp.sub (Rp.put (.rep 4 (.int .u8 (.ofNat 0))) 0 4 (Rp.set (Rp.set (Rp.set (Rp.set (.rep 4 (.int .u8 (.ofNat 0))) 0 (.int .u8 (.ofNat ((x / 16777216) % 256)))) 1 (.int .u8 (.ofNat ((x / 65536) % 256)))) 2 (.int .u8 (.ofNat ((x / 256) % 256)))) 3 (.int .u8 (.ofNat (x % 256))))) 0 4)) false false) (((Ext.refl H).trans e2)).1)).1, l12, Does.of hWord fun k => ?_⟩
  show den _ _ none (irWord gW gPut).body [.nils, (.int .u32 (.ofNat x)), .tup [], .tup [], .tup [], .tup [], .tup [], .tup [], .tup [], .tup [], .tup []] [] H (finK (irWord gW gPut) k) = _
  unfold irWord
  refine (den_seq ..).trans ?_
  refine (den_reg ..).trans ?_
  refine (runOps_cons ..).trans ((step_mv ..).trans ?_)
  refine (runOps_nil ..).trans ?_
  refine (den_seq ..).trans ?_
  refine (den_reg ..).trans ?_
  refine (runOps_cons ..).trans ((step_mv ..).trans ?_)
  refine (runOps_cons ..).trans ((w_call d3 rfl rfl _).trans ?_)
  refine (runOps_cons ..).trans ((stepE (v := (.ptr (h1).n 0)) (by intro f as h; cases h) (fun K => w_alloc K) _).trans ?_)
  refine (runOps_cons ..).trans ((stepN (v := .undef) (by intro f as h; cases h) (fun K => w_sta (by rfl) (by rfl) g4 (by rfl) (by rfl) K) _).trans ?_)
  refine (runOps_nil ..).trans ?_
  refine (den_seq ..).trans ?_
  refine (den_reg ..).trans ?_
  refine (runOps_cons ..).trans ((step_mv ..).trans ?_)
  refine (runOps_cons ..).trans ((stepE (v := (.slc (h1).n 0 4 4)) (by intro f as h; cases h) (fun K => w_lit (by intro K; rfl) K) _).trans ?_)
  refine (runOps_cons ..).trans ((w_call d7 rfl rfl _).trans ?_)
  refine (runOps_cons ..).trans ((step_mv ..).trans ?_)
  refine (runOps_nil ..).trans ?_
  refine (den_ret ..).trans ?_
  exact fin_tmp (by rfl) (by rfl) k

def irLong : FnIR := ⟨19, [.tmp 2], (.seq (.reg [⟨some 2, .mv (.cst .nils), none⟩]) (.seq (.reg [⟨some 5, .mks 1 1 (.one (.int .u8 0)) (.cst (.int .i64 8)) (.cst (.int .i64 8)), none⟩, ⟨some 3, .mv (.tmp 5), none⟩]) (.seq (.seq (.reg [⟨some 6, .mv (.cst (.int .i64 0)), none⟩]) (.block 0 (.loop (.seq (.reg [⟨some 7, .bin .lss 0 (.tmp 6) (.cst (.int .i64 8)), none⟩]) (.seq (.cond (.tmp 7) .skip (.exit 0)) (.seq (.block 1 (.seq (.reg [⟨some 8, .mv (.tmp 6), none⟩, ⟨some 4, .mv (.tmp 8), none⟩]) (.seq (.reg [⟨some 9, .mv (.tmp 3), none⟩, ⟨some 10, .mv (.tmp 4), none⟩, ⟨some 11, .bin .sub 0 (.cst (.int .i64 7)) (.tmp 10), none⟩, ⟨some 12, .mv (.tmp 0), none⟩, ⟨some 13, .cvi .u8 (.tmp 12), none⟩, ⟨some 14, .ixs 1 (.tmp 9) (.tmp 11), none⟩, ⟨none, .st 1 (.tmp 14) (.tmp 13), none⟩]) (.reg [⟨some 15, .mv (.tmp 0), none⟩, ⟨some 16, .bin .shr 0 (.tmp 15) (.cst (.int .u64 8)), none⟩, ⟨some 0, .mv (.tmp 16), none⟩])))) (.reg [⟨some 17, .bin .add 0 (.tmp 6) (.cst (.int .i64 1)), none⟩, ⟨some 6, .mv (.tmp 17), none⟩]))))))) (.seq (.reg [⟨some 18, .mv (.tmp 3), none⟩, ⟨some 2, .mv (.tmp 18), none⟩]) .ret))))⟩
def irOnB : FnIR := ⟨21, [.tmp 4], (.seq (.reg [⟨some 4, .mv (.cst (.int .u64 0)), none⟩]) (.seq (.seq (.reg [⟨some 6, .mv (.tmp 1), none⟩, ⟨some 7, .len 1 (.tmp 6), none⟩, ⟨some 8, .mv (.cst (.int .i64 0)), none⟩]) (.block 0 (.loop (.seq (.reg [⟨some 9, .bin .lss 0 (.tmp 8) (.tmp 7), none⟩]) (.seq (.cond (.tmp 9) .skip (.exit 0)) (.seq (.block 1 (.seq (.reg [⟨some 10, .mv (.tmp 8), none⟩, ⟨some 5, .mv (.tmp 10), none⟩]) (.reg [⟨some 11, .mv (.tmp 0), none⟩, ⟨some 12, .mv (.tmp 1), none⟩, ⟨some 13, .mv (.tmp 5), none⟩, ⟨some 14, .ixs 1 (.tmp 12) (.tmp 13), none⟩, ⟨some 15, .ld1 (.tmp 14), none⟩, ⟨some 16, .cvi .u64 (.tmp 15), none⟩, ⟨some 17, .bin .xor 0 (.tmp 11) (.tmp 16), none⟩, ⟨some 18, .bin .mul 0 (.tmp 17) (.cst (.int .u64 1099511628211)), none⟩, ⟨some 0, .mv (.tmp 18), none⟩]))) (.reg [⟨some 19, .bin .add 0 (.tmp 8) (.cst (.int .i64 1)), none⟩, ⟨some 8, .mv (.tmp 19), none⟩]))))))) (.seq (.reg [⟨some 20, .mv (.tmp 0), none⟩, ⟨some 4, .mv (.tmp 20), none⟩]) .ret)))⟩
theorem long_does {tbl : Nat → Option FT} {N f : Nat} {gLong : Nat} (hL : tbl gLong = some (.code irLong)) (x : Nat) (H : AH) : ∃ (H' : AH) (b : Nat), Ext H H' ∧ H'.get b = some (.cells (Rp.set (Rp.set (Rp.set (Rp.set (Rp.set (Rp.set (Rp.set (Rp.set (.rep 8 (.int .u8 (.ofNat 0))) 7 (.int .u8 (.ofNat (x % 256)))) 6 (.int .u8 (.ofNat ((x / 256) % 256)))) 5 (.int .u8 (.ofNat (((x / 256) / 256) % 256)))) 4 (.int .u8 (.ofNat ((((x / 256) / 256) / 256) % 256)))) 3 (.int .u8 (.ofNat (((((x / 256) / 256) / 256) / 256) % 256)))) 2 (.int .u8 (.ofNat ((((((x / 256) / 256) / 256) / 256) / 256) % 256)))) 1 (.int .u8 (.ofNat (((((((x / 256) / 256) / 256) / 256) / 256) / 256) % 256)))) 0 (.int .u8 (.ofNat ((((((((x / 256) / 256) / 256) / 256) / 256) / 256) / 256) % 256)))) false false) ∧ H.n ≤ b ∧ b < H'.n ∧ Does (RUN tbl (N + 20) (f + 1)) gLong [(.int .u64 (.ofNat x))] H (.slc b 0 8 8) H' := by
  have g1 := get_new_here (H) (.cells (.rep 8 (.int .u8 (.ofNat 0))) false false)
  have l2 := Nat.lt_succ_self (H).n
  have g3 := get_set_here (H := (H).new (.cells (.rep 8 (.int .u8 (.ofNat 0))) false false)) (H).n (.cells (Rp.set (.rep 8 (.int .u8 (.ofNat 0))) 7 (.int .u8 (.ofNat (x % 256)))) false false)
  have g4 := get_set_here (H := ((H).new (.cells (.rep 8 (.int .u8 (.ofNat 0))) false false)).set (H).n (.cells (Rp.set (.rep 8 (.int .u8 (.ofNat 0))) 7 (.int .u8 (.ofNat (x % 256)))) false false)) (H).n (.cells (Rp.set (Rp.set (.rep 8 (.int .u8 (.ofNat 0))) 7 (.int .u8 (.ofNat (x % 256)))) 6 (.int .u8 (.ofNat ((x / 256) % 256)))) false false)
  have g5 := get_set_here (H := (((H).new (.cells (.rep 8 (.int .u8 (.ofNat 0))) false false)).set (H).n (.cells (Rp.set (.rep 8 (.int .u8 (.ofNat 0))) 7 (.int .u8 (.ofNat (x % 256)))) false false)).set (H).n (.cells (Rp.set (Rp.set (.rep 8 (.int .u8 (.ofNat 0))) 7 (.int .u8 (.ofNat (x % 256)))) 6 (.int .u8 (.ofNat ((x / 256) % 256)))) false false)) (H).n (.cells (Rp.set (Rp.set (Rp.set (.rep 8 (.int .u8 (.ofNat 0))) 7 (.int .u8 (.ofNat (x % 256)))) 6 (.int .u8 (.ofNat ((x / 256) % 256)))) 5 (.int .u8 (.ofNat (((x / 256) / 256) % 256)))) false false)
  have g6 := get_set_here (H := ((((H).new (.cells (.rep 8 (.int .u8 (.ofNat 0))) false false)).set (H).n (.cells (Rp.set (.rep 8 (.int .u8 (.ofNat 0))) 7 (.int .u8 (.ofNat (x % 256)))) false false)).set (H).n (.cells (Rp.set (Rp.set (.rep 8 (.int .u8 (.ofNat 0))) 7 (.int .u8 (.ofNat (x % 256)))) 6 (.int .u8 (.ofNat ((x / 256) % 256)))) false false)).set (H).n (.cells (Rp.set (Rp.set (Rp.set (.rep 8 (.int .u8 (.ofNat 0))) 7 (.int .u8 (.ofNat (x % 256)))) 6 (.int .u8 (.ofNat ((x / 256) % 256)))) 5 (.int .u8 (.ofNat (((x / 256) / 256) % 256)))) false false)) (H).n (.cells (Rp.set (Rp.set (Rp.set (Rp.set (.rep 8 (.int .u8 (.ofNat 0))) 7 (.int .u8 (.ofNat (x % 256)))) 6 (.int .u8 (.ofNat ((x / 256) % 256)))) 5 (.int .u8 (.ofNat (((x / 256) / 256) % 256)))) 4 (.int .u8 (.ofNat ((((x / 256) / 256) / 256) % 256)))) false false)
  have g7 := get_set_here (H := (((((H).new (.cells (.rep 8 (.int .u8 (.ofNat 0))) false false)).set (H).n (.cells (Rp.set (.rep 8 (.int .u8 (.ofNat 0))) 7 (.int .u8 (.ofNat (x % 256)))) false false)).set (H).n (.cells (Rp.set (Rp.set (.rep 8 (.int .u8 (.ofNat 0))) 7 (.int .u8 (.ofNat (x % 256)))) 6 (.int .u8 (.ofNat ((x / 256) % 256)))) false false)).set (H).n (.cells (Rp.set (Rp.set (Rp.set (.rep 8 (.int .u8 (.ofNat 0))) 7 (.int .u8 (.ofNat (x % 256)))) 6 (.int .u8 (.ofNat ((x / 256) % 256)))) 5 (.int .u8 (.ofNat (((x / 256) / 256) % 256)))) false false)).set (H).n (.cells (Rp.set (Rp.set (Rp.set (Rp.set (.rep 8 (.int .u8 (.ofNat 0))) 7 (.int .u8 (.ofNat (x % 256)))) 6 (.int .u8 (.ofNat ((x / 256) % 256)))) 5 (.int .u8 (.ofNat (((x / 256) / 256) % 256)))) 4 (.int .u8 (.ofNat ((((x / 256) / 256) / 256) % 256)))) false false)) (H).n (.cells (Rp.set (Rp.set (Rp.set (Rp.set (Rp.set (.rep 8 (.int .u8 (.ofNat 0))) 7 (.int .u8 (.ofNat (x % 256)))) 6 (.int .u8 (.ofNat ((x / 256) % 256)))) 5 (.int .u8 (.ofNat (((x / 256) / 256) % 256)))) 4 (.int .u8 (.ofNat ((((x / 256) / 256) / 256) % 256)))) 3 (.int .u8 (.ofNat (((((x / 256) / 256) / 256) / 256) % 256)))) false false)
  have g8 := get_set_here (H := ((((((H).new (.cells (.rep 8 (.int .u8 (.ofNat 0))) false false)).set (H).n (.cells (Rp.set (.rep 8 (.int .u8 (.ofNat 0))) 7 (.int .u8 (.ofNat (x % 256)))) false false)).set (H).n (.cells (Rp.set (Rp.set (.rep 8 (.int .u8 (.ofNat 0))) 7 (.int .u8 (.ofNat (x % 256)))) 6 (.int .u8 (.ofNat ((x / 256) % 256)))) false false)).set (H).n (.cells (Rp.set (Rp.set (Rp.set (.rep 8 (.int .u8 (.ofNat 0))) 7 (.int .u8 (.ofNat (x % 256)))) 6 (.int .u8 (.ofNat ((x / 256) % 256)))) 5 (.int .u8 (.ofNat (((x / 256) / 256) % 256)))) false false)).set (H).n (.cells (Rp.set (Rp.set (Rp.set (Rp.set (.rep 8 (.int .u8 (.ofNat 0))) 7 (.int .u8 (.ofNat (x % 256)))) 6 (.int .u8 (.ofNat ((x / 256) % 256)))) 5 (.int .u8 (.ofNat (((x / 256) / 256) % 256)))) 4 (.int .u8 (.ofNat ((((x / 256) / 256) / 256) % 256)))) false false)).set (H).n (.cells (Rp.set (Rp.set (Rp.set (Rp.set (Rp.set (.rep 8 (.int .u8 (.ofNat 0))) 7 (.int .u8 (.ofNat (x % 256)))) 6 (.int .u8 (.ofNat ((x / 256) % 256)))) 5 (.int .u8 (.ofNat (((x / 256) / 256) % 256)))) 4 (.int .u8 (.ofNat ((((x / 256) / 256) / 256) % 256)))) 3 (.int .u8 (.ofNat (((((x / 256) / 256) / 256) / 256) % 256)))) false false)) (H).n (.cells (Rp.set (Rp.set (Rp.set (Rp.set (Rp.set (Rp.set (.rep 8 (.int .u8 (.ofNat 0))) 7 (.int .u8 (.ofNat (x % 256)))) 6 (.int .u8 (.ofNat ((x / 256) % 256)))) 5 (.int .u8 (.ofNat (((x / 256) / 256) % 256)))) 4 (.int .u8 (.ofNat ((((x / 256) / 256) / 256) % 256)))) 3 (.int .u8 (.ofNat (((((x / 256) / 256) / 256) / 256) % 256)))) 2 (.int .u8 (.ofNat ((((((x / 256) / 256) / 256) / 256) / 256) % 256)))) false false)
  have g9 := get_set_here (H := (((((((H).new (.cells (.rep 8 (.int .u8 (.ofNat 0))) false false)).set (H).n (.cells (Rp.set (.rep 8 (.int .u8 (.ofNat 0))) 7 (.int .u8 (.ofNat (x % 256)))) false false)).set (H).n (.cells (Rp.set (Rp.set (.rep 8 (.int .u8 (.ofNat 0))) 7 (.int .u8 (.ofNat (x % 256)))) 6 (.int .u8 (.ofNat ((x / 256) % 256)))) false false)).set (H).n (.cells (Rp.set (Rp.set (Rp.set (.rep 8 (.int .u8 (.ofNat 0))) 7 (.int .u8 (.ofNat (x % 256)))) 6 (.int .u8 (.ofNat ((x / 256) % 256)))) 5 (.int .u8 (.ofNat (((x / 256) / 256) % 256)))) false false)).set (H).n (.cells (Rp.set (Rp.set (Rp.set (Rp.set (.rep 8 (.int .u8 (.ofNat 0))) 7 (.int .u8 (.ofNat (x % 256)))) 6 (.int .u8 (.ofNat ((x / 256) % 256)))) 5 (.int .u8 (.ofNat (((x / 256) / 256) % 256)))) 4 (.int .u8 (.ofNat ((((x / 256) / 256) / 256) % 256)))) false false)).set (H).n (.cells (Rp.set (Rp.set (Rp.set (Rp.set (Rp.set (.rep 8 (.int .u8 (.ofNat 0))) 7 (.int .u8 (.ofNat (x % 256)))) 6 (.int .u8 (.ofNat ((x / 256) % 256)))) 5 (.int .u8 (.ofNat (((x / 256) / 256) % 256)))) 4 (.int .u8 (.ofNat ((((x / 256) / 256) / 256) % 256)))) 3 (.int .u8 (.ofNat (((((x / 256) / 256) / 256) / 256) % 256)))) false false)).set (H).n (.cells (Rp.set (Rp.set (Rp.set (Rp.set (Rp.set (Rp.set (.rep 8 (.int .u8 (.ofNat 0))) 7 (.int .u8 (.ofNat (x % 256)))) 6 (.int .u8 (.ofNat ((x / 256) % 256)))) 5 (.int .u8 (.ofNat (((x / 256) / 256) % 256)))) 4 (.int .u8 (.ofNat ((((x / 256) / 256) / 256) % 256)))) 3 (.int .u8 (.ofNat (((((x / 256) / 256) / 256) / 256) % 256)))) 2 (.int .u8 (.ofNat ((((((x / 256) / 256) / 256) / 256) / 256) % 256)))) false false)) (H).n (.cells (Rp.set (Rp.set (Rp.set (Rp.set (Rp.set (Rp.set (Rp.set (.rep 8 (.int .u8 (.ofNat 0))) 7 (.int .u8 (.ofNat (x % 256)))) 6 (.int .u8 (.ofNat ((x / 256) % 256)))) 5 (.int .u8 (.ofNat (((x / 256) / 256) % 256)))) 4 (.int .u8 (.ofNat ((((x / 256) / 256) / 256) % 256)))) 3 (.int .u8 (.ofNat (((((x / 256) / 256) / 256) / 256) % 256)))) 2 (.int .u8 (.ofNat ((((((x / 256) / 256) / 256) / 256) / 256) % 256)))) 1 (.int .u8 (.ofNat (((((((x / 256) / 256) / 256) / 256) / 256) / 256) % 256)))) false false)
  have g10 := get_set_here (H := ((((((((H).new (.cells (.rep 8 (.int .u8 (.ofNat 0))) false false)).set (H).n (.cells (Rp.set (.rep 8 (.int .u8 (.ofNat 0))) 7 (.int .u8 (.ofNat (x % 256)))) false false)).set (H).n (.cells (Rp.set (Rp.set (.rep 8 (.int .u8 (.ofNat 0))) 7 (.int .u8 (.ofNat (x % 256)))) 6 (.int .u8 (.ofNat ((x / 256) % 256)))) false false)).set (H).n (.cells (Rp.set (Rp.set (Rp.set (.rep 8 (.int .u8 (.ofNat 0))) 7 (.int .u8 (.ofNat (x % 256)))) 6 (.int .u8 (.ofNat ((x / 256) % 256)))) 5 (.int .u8 (.ofNat (((x / 256) / 256) % 256)))) false false)).set (H).n (.cells (Rp.set (Rp.set (Rp.set (Rp.set (.rep 8 (.int .u8 (.ofNat 0))) 7 (.int .u8 (.ofNat (x % 256)))) 6 (.int .u8 (.ofNat ((x / 256) % 256)))) 5 (.int .u8 (.ofNat (((x / 256) / 256) % 256)))) 4 (.int .u8 (.ofNat ((((x / 256) / 256) / 256) % 256)))) false false)).set (H).n (.cells (Rp.set (Rp.set (Rp.set (Rp.set (Rp.set (.rep 8 (.int .u8 (.ofNat 0))) 7 (.int .u8 (.ofNat (x % 256)))) 6 (.int .u8 (.ofNat ((x / 256) % 256)))) 5 (.int .u8 (.ofNat (((x / 256) / 256) % 256)))) 4 (.int .u8 (.ofNat ((((x / 256) / 256) / 256) % 256)))) 3 (.int .u8 (.ofNat (((((x / 256) / 256) / 256) / 256) % 256)))) false false)).set (H).n (.cells (Rp.set (Rp.set (Rp.set (Rp.set (Rp.set (Rp.set (.rep 8 (.int .u8 (.ofNat 0))) 7 (.int .u8 (.ofNat (x % 256)))) 6 (.int .u8 (.ofNat ((x / 256) % 256)))) 5 (.int .u8 (.ofNat (((x / 256) / 256) % 256)))) 4 (.int .u8 (.ofNat ((((x / 256) / 256) / 256) % 256)))) 3 (.int .u8 (.ofNat (((((x / 256) / 256) / 256) / 256) % 256)))) 2 (.int .u8 (.ofNat ((((((x / 256) / 256) / 256) / 256) / 256) % 256)))) false false)).set (H).n (.cells (Rp.set (Rp.set (Rp.set (Rp.set (Rp.set (Rp.set (Rp.set (.rep 8 (.int .u8 (.ofNat 0))) 7 (.int .u8 (.ofNat (x % 256)))) 6 (.int .u8 (.ofNat ((x / 256) % 256)))) 5 (.int .u8 (.ofNat (((x / 256) / 256) % 256)))) 4 (.int .u8 (.ofNat ((((x / 256) / 256) / 256) % 256)))) 3 (.int .u8 (.ofNat (((((x / 256) / 256) / 256) / 256) % 256)))) 2 (.int .u8 (.ofNat ((((((x / 256) / 256) / 256) / 256) / 256) % 256)))) 1 (.int .u8 (.ofNat (((((((x / 256) / 256) / 256) / 256) / 256) / 256) % 256)))) false false)) (H).n (.cells (Rp.set (Rp.set (Rp.set (Rp.set (Rp.set (Rp.set (Rp.set (Rp.set (.rep 8 (.int .u8 (.ofNat 0))) 7 (.int .u8 (.ofNat (x % 256)))) 6 (.int .u8 (.ofNat ((x / 256) % 256)))) 5 (.int .u8 (.ofNat (((x / 256) / 256) % 256)))) 4 (.int .u8 (.ofNat ((((x / 256) / 256) / 256) % 256)))) 3 (.int .u8 (.ofNat (((((x / 256) / 256) / 256) / 256) % 256)))) 2 (.int .u8 (.ofNat ((((((x / 256) / 256) / 256) / 256) / 256) % 256)))) 1 (.int .u8 (.ofNat (((((((x / 256) / 256) / 256) / 256) / 256) / 256) % 256)))) 0 (.int .u8 (.ofNat ((((((((x / 256) / 256) / 256) / 256) / 256) / 256) / 256) % 256)))) false false)
  refine ⟨(((((((((H).new (.cells (.rep 8 (.int .u8 (.ofNat 0))) false false)).set (H).n (.cells (Rp.set (.rep 8 (.int .u8 (.ofNat 0))) 7 (.int .u8 (.ofNat (x % 256)))) false false)).set (H).n (.cells (Rp.set (Rp.set (.rep 8 (.int .u8 (.ofNat 0))) 7 (.int .u8 (.ofNat (x % 256)))) 6 (.int .u8 (.ofNat ((x / 256) % 256)))) false false)).set (H).n (.cells (Rp.set (Rp.set (Rp.set (.rep 8 (.int .u8 (.ofNat 0))) 7 (.int .u8 (.ofNat (x % 256)))) 6 (.int .u8 (.ofNat ((x / 256) % 256)))) 5 (.int .u8 (.ofNat (((x / 256) / 256) % 256)))) false false)).set (H).n (.cells (Rp.set (Rp.set (Rp.set (Rp.set (.rep 8 (.int .u8 (.ofNat 0))) 7 (.int .u8 (.ofNat (x % 256)))) 6 (.int .u8 (.ofNat ((x / 256) % 256)))) 5 (.int .u8 (.ofNat (((x / 256) / 256) % 256)))) 4 (.int .u8 (.ofNat ((((x / 256) / 256) / 256) % 256)))) false false)).set (H).n (.cells (Rp.set (Rp.set (Rp.set (Rp.set (Rp.set (.rep 8 (.int .u8 (.ofNat 0))) 7 (.int .u8 (.ofNat (x % 256)))) 6 (.int .u8 (.ofNat ((x / 256) % 256)))) 5 (.int .u8 (.ofNat (((x / 256) / 256) % 256)))) 4 (.int .u8 (.ofNat ((((x / 256) / 256) / 256) % 256)))) 3 (.int .u8 (.ofNat (((((x / 256) / 256) / 256) / 256) % 256)))) false false)).set (H).n (.cells (Rp.set (Rp.set (Rp.set (Rp.set (Rp.set (Rp.set (.rep 8 (.int .u8 (.ofNat 0))) 7 (.int .u8 (.ofNat (x % 256)))) 6 (.int .u8 (.ofNat ((x / 256) % 256)))) 5 (.int .u8 (.ofNat (((x / 256) / 256) % 256)))) 4 (.int .u8 (.ofNat ((((x / 256) / 256) / 256) % 256)))) 3 (.int .u8 (.ofNat (((((x / 256) / 256) / 256) / 256) % 256)))) 2 (.int .u8 (.ofNat ((((((x / 256) / 256) / 256) / 256) / 256) % 256)))) false false)).set (H).n (.cells (Rp.set (Rp.set (Rp.set (Rp.set (Rp.set (Rp.set (Rp.set (.rep 8 (.int .u8 (.ofNat 0))) 7 (.int .u8 (.ofNat (x % 256)))) 6 (.int .u8 (.ofNat ((x / 256) % 256)))) 5 (.int .u8 (.ofNat (((x / 256) / 256) % 256)))) 4 (.int .u8 (.ofNat ((((x / 256) / 256) / 256) % 256)))) 3 (.int .u8 (.ofNat (((((x / 256) / 256) / 256) / 256) % 256)))) 2 (.int .u8 (.ofNat ((((((x / 256) / 256) / 256) / 256) / 256) % 256)))) 1 (.int .u8 (.ofNat (((((((x / 256) / 256) / 256) / 256) / 256) / 256) % 256)))) false false)).set (H).n (.cells (Rp.set (Rp.set (Rp.set (Rp.set (Rp.set (Rp.set (Rp.set (Rp.set (.rep 8 (.int .u8 (.ofNat 0))) 7 (.int .u8 (.ofNat (x % 256)))) 6 (.int .u8 (.ofNat ((x / 256) % 256)))) 5 (.int .u8 (.ofNat (((x / 256) / 256) % 256)))) 4 (.int .u8 (.ofNat ((((x / 256) / 256) / 256) % 256)))) 3 (.int .u8 (.ofNat (((((x / 256) / 256) / 256) / 256) % 256)))) 2 (.int .u8 (.ofNat ((((((x / 256) / 256) / 256) / 256) / 256) % 256)))) 1 (.int .u8 (.ofNat (((((((x / 256) / 256) / 256) / 256) / 256) / 256) % 256)))) 0 (.int .u8 (.ofNat ((((((((x / 256) / 256) / 256) / 256) / 256) / 256) / 256) % 256)))) false false), (H).n, ((((((((((Ext.refl H).new (.cells (.rep 8 (.int .u8 (.ofNat 0))) false false)).set _ (.cells (Rp.set (.rep 8 (.int .u8 (.ofNat 0))) 7 (.int .u8 (.ofNat (x % 256)))) false false) ((Ext.refl H)).1).set _ (.cells (Rp.set (Rp.set (.rep 8 (.int .u8 (.ofNat 0))) 7 (.int .u8 (.ofNat (x % 256)))) 6 (.int .u8 (.ofNat ((x / 256) % 256)))) false false) ((Ext.refl H)).1).set _ (.cells (Rp.set (Rp.set (Rp.set (.rep 8 (.int .u8 (.ofNat 0))) 7 (.int .u8 (.ofNat (x % 256)))) 6 (.int .u8 (.ofNat ((x / 256) % 256)))) 5 (.int .u8 (.ofNat (((x / 256) / 256) % 256)))) false false) ((Ext.refl H)).1).set _ (.cells (Rp.set (Rp.set (Rp.set (Rp.set (.rep 8 (.int .u8 (.ofNat 0))) 7 (.int .u8 (.ofNat (x % 256)))) 6 (.int .u8 (.ofNat ((x / 256) % 256)))) 5 (.int .u8 (.ofNat (((x / 256) / 256) % 256)))) 4 (.int .u8 (.ofNat ((((x / 256) / 256) / 256) % 256)))) false false) ((Ext.refl H)).1).set _ (.cells (Rp.set (Rp.set (Rp.set (Rp.set (Rp.set (.rep 8 (.int .u8 (.ofNat 0))) 7 (.int .u8 (.ofNat (x % 256)))) 6 (.int .u8 (.ofNat ((x / 256) % 256)))) 5 (.int .u8 (.ofNat (((x / 256) / 256) % 256)))) 4 (.int .u8 (.ofNat ((((x / 256) / 256) / 256) % 256)))) 3 (.int .u8 (.ofNat (((((x / 256) / 256) / 256) / 256) % 256)))) false false) ((Ext.refl H)).1).set _ (.cells (Rp.set (Rp.set (Rp.set (Rp.set (Rp.set (Rp.set (.rep 8 (.int .u8 (.ofNat 0))) 7 (.int .u8 (.ofNat (x % 256)))) 6 (.int .u8 (.ofNat ((x / 256) % 256)))) 5 (.int .u8 (.ofNat (((x / 256) / 256) % 256)))) 4 (.int .u8 (.ofNat ((((x / 256) / 256) / 256) % 256)))) 3 (.int .u8 (.ofNat (((((x / 256) / 256) / 256) / 256) % 256)))) 2 (.int .u8 (.ofNat ((((((x / 256) / 256) / 256) / 256) / 256) % 256)))) false false) ((Ext.refl H)).1).set _ (.cells (Rp.set (Rp.set (Rp.set (Rp.set (Rp.set (Rp.set (Rp.set (.rep 8 (.int .u8 (.ofNat 0))) 7 (.int .u8 (.ofNat (x % 256)))) 6 (.int .u8 (.ofNat ((x / 256) % 256)))) 5 (.int .u8 (.ofNat (((x / 256) / 256) % 256)))) 4 (.int .u8 (.ofNat ((((x / 256) / 256) / 256) % 256)))) 3 (.int .u8 (.ofNat (((((x / 256) / 256) / 256) / 256) % 256)))) 2 (.int .u8 (.ofNat ((((((x / 256) / 256) / 256) / 256) / 256) % 256)))) 1 (.int .u8 (.ofNat (((((((x / 256) / 256) / 256) / 256) / 256) / 256) % 256)))) false false) ((Ext.refl H)).1).set _ (.cells (Rp.set (Rp.set (Rp.set (Rp.set (Rp.set (Rp.set (Rp.set (Rp.set (.rep 8 (.int .u8 (.ofNat 0))) 7 (.int .u8 (.ofNat (x % 256)))) 6 (.int .u8 (.ofNat ((x / 256) % 256)))) 5 (.int .u8 (.ofNat (((x / 256) / 256) % 256)))) 4 (.int .u8 (.ofNat ((((x / 256) / 256) / 256) % 256)))) 3 (.int .u8 (.ofNat (((((x / 256) / 256) / 256) / 256) % 256)))) 2 (.int .u8 (.ofNat ((((((x / 256) / 256) / 256) / 256) / 256) % 256)))) 1 (.int .u8 (.ofNat (((((((x / 256) / 256) / 256) / 256) / 256) / 256) % 256)))) 0 (.int .u8 (.ofNat ((((((((x / 256) / 256) / 256) / 256) / 256) / 256) / 256) % 256)))) false false) ((Ext.refl H)).1), g10, ((Ext.refl H)).1, l2, Does.of hL fun k => ?_⟩
  show den _ _ none irLong.body [(.int .u64 (.ofNat x)), .tup [], .tup [], .tup [], .tup [], .tup [], .tup [], .tup [], .tup [], .tup [], .tup [], .tup [], .tup [], .tup [], .tup [], .tup [], .tup [], .tup [], .tup []] [] H (finK irLong k) = _
  unfold irLong
  refine (den_seq ..).trans ?_
  refine (den_reg ..).trans ?_
  refine (runOps_cons ..).trans ((step_mv ..).trans ?_)
  refine (runOps_nil ..).trans ?_
  refine (den_seq ..).trans ?_
  refine (den_reg ..).trans ?_
  refine (runOps_cons ..).trans ((stepE (v := (.slc (H).n 0 8 8)) (by intro f as h; cases h) (fun K => w_mks (by rfl) (by rfl) (by rfl) (by rfl) (by rfl) K) _).trans ?_)
  refine (runOps_cons ..).trans ((step_mv ..).trans ?_)
  refine (runOps_nil ..).trans ?_
  refine (den_seq ..).trans ?_
  refine (den_seq ..).trans ?_
  refine (den_reg ..).trans ?_
  refine (runOps_cons ..).trans ((step_mv ..).trans ?_)
  refine (runOps_nil ..).trans ?_
  refine (den_block ..).trans ?_
  refine (den_loop' ..).trans ?_
  refine (iter_succ ..).trans ?_
  refine (den_seq ..).trans ?_
  refine (den_reg ..).trans ?_
  refine (runOps_cons ..).trans ((stepE (v := (.bool true)) (by intro f as h; cases h) (fun K => w_lit (v := (.bool true)) (by intro K; rfl) K) _).trans ?_)
  refine (runOps_nil ..).trans ?_
  refine (den_seq ..).trans ?_
  refine (den_condT rfl).trans ?_
  refine (den_skip ..).trans ?_
  refine (den_seq ..).trans ?_
  refine (den_block ..).trans ?_
  refine (den_seq ..).trans ?_
  refine (den_reg ..).trans ?_
  refine (runOps_cons ..).trans ((step_mv ..).trans ?_)
  refine (runOps_cons ..).trans ((step_mv ..).trans ?_)
  refine (runOps_nil ..).trans ?_
  refine (den_seq ..).trans ?_
  refine (den_reg ..).trans ?_
  refine (runOps_cons ..).trans ((step_mv ..).trans ?_)
  refine (runOps_cons ..).trans ((step_mv ..).trans ?_)
  refine (runOps_cons ..).trans ((stepE (v := (.int .i64 (.ofNat 7))) (by intro f as h; cases h) (fun K => w_lit (v := (.int .i64 (.ofNat 7))) (by intro K; rfl) K) _).trans ?_)
  refine (runOps_cons ..).trans ((step_mv ..).trans ?_)
  refine (runOps_cons ..).trans ((stepE (v := (.int .u8 (.ofNat (x % 256)))) (by intro f as h; cases h) (fun K => w_cvi (r := (x % 256)) (by rfl) (by rfl) K) _).trans ?_)
  refine (runOps_cons ..).trans ((stepE (v := (.ptr (H).n 7)) (by intro f as h; cases h) (fun K => w_ixs (b := (H).n) (o := 0) (n := 7) (r := 7) (by rfl) (by rfl) (by omega) (by rfl) K) _).trans ?_)
  refine (runOps_cons ..).trans ((stepN (v := .undef) (by intro f as h; cases h) (fun K => w_st1 (v := (.int .u8 (.ofNat (x % 256)))) (by rfl) (by rfl) (by rfl) g1 (by rfl) K) _).trans ?_)
  refine (runOps_nil ..).trans ?_
  refine (den_reg ..).trans ?_
  refine (runOps_cons ..).trans ((step_mv ..).trans ?_)
  refine (runOps_cons ..).trans ((stepE (v := (.int .u64 (.ofNat (x / 256)))) (by intro f as h; cases h) (fun K => w_bin (fun K => shr_u (a := x) (b := 8) (p := 256) (by rfl) K) K) _).trans ?_)
  refine (runOps_cons ..).trans ((step_mv ..).trans ?_)
  refine (runOps_nil ..).trans ?_
  refine (den_reg ..).trans ?_
  refine (runOps_cons ..).trans ((stepE (v := (.int .i64 (.ofNat 1))) (by intro f as h; cases h) (fun K => w_lit (v := (.int .i64 (.ofNat 1))) (by intro K; rfl) K) _).trans ?_)
  refine (runOps_cons ..).trans ((step_mv ..).trans ?_)
  refine (runOps_nil ..).trans ?_
  refine (iter_succ ..).trans ?_
  refine (den_seq ..).trans ?_
  refine (den_reg ..).trans ?_
  refine (runOps_cons ..).trans ((stepE (v := (.bool true)) (by intro f as h; cases h) (fun K => w_lit (v := (.bool true)) (by intro K; rfl) K) _).trans ?_)
  refine (runOps_nil ..).trans ?_
  refine (den_seq ..).trans ?_
  refine (den_condT rfl).trans ?_
  refine (den_skip ..).trans ?_
  refine (den_seq ..).trans ?_
  refine (den_block ..).trans ?_
  refine (den_seq ..).trans ?_
  refine (den_reg ..).trans ?_
  refine (runOps_cons ..).trans ((step_mv ..).trans ?_)
  refine (runOps_cons ..).trans ((step_mv ..).trans ?_)
  refine (runOps_nil ..).trans ?_
  refine (den_seq ..).trans ?_
  refine (den_reg ..).trans ?_
  refine (runOps_cons ..).trans ((step_mv ..).trans ?_)
  refine (runOps_cons ..).trans ((step_mv ..).trans ?_)
  refine (runOps_cons ..).trans ((stepE (v := (.int .i64 (.ofNat 6))) (by intro f as h; cases h) (fun K => w_lit (v := (.int .i64 (.ofNat 6))) (by intro K; rfl) K) _).trans ?_)
  refine (runOps_cons ..).trans ((step_mv ..).trans ?_)
  refine (runOps_cons ..).trans ((stepE (v := (.int .u8 (.ofNat ((x / 256) % 256)))) (by intro f as h; cases h) (fun K => w_cvi (r := ((x / 256) % 256)) (by rfl) (by rfl) K) _).trans ?_)
  refine (runOps_cons ..).trans ((stepE (v := (.ptr (H).n 6)) (by intro f as h; cases h) (fun K => w_ixs (b := (H).n) (o := 0) (n := 6) (r := 6) (by rfl) (by rfl) (by omega) (by rfl) K) _).trans ?_)
  refine (runOps_cons ..).trans ((stepN (v := .undef) (by intro f as h; cases h) (fun K => w_st1 (v := (.int .u8 (.ofNat ((x / 256) % 256)))) (by rfl) (by rfl) (by rfl) g3 (by rfl) K) _).trans ?_)
  refine (runOps_nil ..).trans ?_
  refine (den_reg ..).trans ?_
  refine (runOps_cons ..).trans ((step_mv ..).trans ?_)
  refine (runOps_cons ..).trans ((stepE (v := (.int .u64 (.ofNat ((x / 256) / 256)))) (by intro f as h; cases h) (fun K => w_bin (fun K => shr_u (a := (x / 256)) (b := 8) (p := 256) (by rfl) K) K) _).trans ?_)
  refine (runOps_cons ..).trans ((step_mv ..).trans ?_)
  refine (runOps_nil ..).trans ?_
  refine (den_reg ..).trans ?_
  refine (runOps_cons ..).trans ((stepE (v := (.int .i64 (.ofNat 2))) (by intro f as h; cases h) (fun K => w_lit (v := (.int .i64 (.ofNat 2))) (by intro K; rfl) K) _).trans ?_)
  refine (runOps_cons ..).trans ((step_mv ..).trans ?_)
  refine (runOps_nil ..).trans ?_
  refine (iter_succ ..).trans ?_
  refine (den_seq ..).trans ?_
  refine (den_reg ..).trans ?_
  refine (runOps_cons ..).trans ((stepE (v := (.bool true)) (by intro f as h; cases h) (fun K => w_lit (v := (.bool true)) (by intro K; rfl) K) _).trans ?_)
  refine (runOps_nil ..).trans ?_
  refine (den_seq ..).trans ?_
  refine (den_condT rfl).trans ?_
  refine (den_skip ..).trans ?_
  refine (den_seq ..).trans ?_
  refine (den_block ..).trans ?_
  refine (den_seq ..).trans ?_
  refine (den_reg ..).trans ?_
  refine (runOps_cons ..).trans ((step_mv ..).trans ?_)
  refine (runOps_cons ..).trans ((step_mv ..).trans ?_)
  refine (runOps_nil ..).trans ?_
  refine (den_seq ..).trans ?_
  refine (den_reg ..).trans ?_
  refine (runOps_cons ..).trans ((step_mv ..).trans ?_)
  refine (runOps_cons ..).trans ((step_mv ..).trans ?_)
  refine (runOps_cons ..).trans ((stepE (v := (.int .i64 (.ofNat 5))) (by intro f as h; cases h) (fun K => w_lit (v := (.int .i64 (.ofNat 5))) (by intro K; rfl) K) _).trans ?_)
  refine (runOps_cons ..).trans ((step_mv ..).trans ?_)
  refine (runOps_cons ..).trans ((stepE (v := (.int .u8 (.ofNat (((x / 256) / 256) % 256)))) (by intro f as h; cases h) (fun K => w_cvi (r := (((x / 256) / 256) % 256)) (by rfl) (by rfl) K) _).trans ?_)
  refine (runOps_cons ..).trans ((stepE (v := (.ptr (H).n 5)) (by intro f as h; cases h) (fun K => w_ixs (b := (H).n) (o := 0) (n := 5) (r := 5) (by rfl) (by rfl) (by omega) (by rfl) K) _).trans ?_)
  refine (runOps_cons ..).trans ((stepN (v := .undef) (by intro f as h; cases h) (fun K => w_st1 (v := (.int .u8 (.ofNat (((x / 256) / 256) % 256)))) (by rfl) (by rfl) (by rfl) g4 (by rfl) K) _).trans ?_)
  refine (runOps_nil ..).trans ?_
  refine (den_reg ..).trans ?_
  refine (runOps_cons ..).trans ((step_mv ..).trans ?_)
  refine (runOps_cons ..).trans ((stepE (v := (.int .u64 (.ofNat (((x / 256) / 256) / 256)))) (by intro f as h; cases h) (fun K => w_bin (fun K => shr_u (a := ((x / 256) / 256)) (b := 8) (p := 256) (by rfl) K) K) _).trans ?_)
  refine (runOps_cons ..).trans ((step_mv ..).trans ?_)
  refine (runOps_nil ..).trans ?_
  refine (den_reg ..).trans ?_
  refine (runOps_cons ..).trans ((stepE (v := (.int .i64 (.ofNat 3))) (by intro f as h; cases h) (fun K => w_lit (v := (.int .i64 (.ofNat 3))) (by intro K; rfl) K) _).trans ?_)
  refine (runOps_cons ..).trans ((step_mv ..).trans ?_)
  refine (runOps_nil ..).trans ?_
  refine (iter_succ ..).trans ?_
  refine (den_seq ..).trans ?_
  refine (den_reg ..).trans ?_
  refine (runOps_cons ..).trans ((stepE (v := (.bool true)) (by intro f as h; cases h) (fun K => w_lit (v := (.bool true)) (by intro K; rfl) K) _).trans ?_)
  refine (runOps_nil ..).trans ?_
  refine (den_seq ..).trans ?_
  refine (den_condT rfl).trans ?_
  refine (den_skip ..).trans ?_
  refine (den_seq ..).trans ?_
  refine (den_block ..).trans ?_
  refine (den_seq ..).trans ?_
  refine (den_reg ..).trans ?_
  refine (runOps_cons ..).trans ((step_mv ..).trans ?_)
  refine (runOps_cons ..).trans ((step_mv ..).trans ?_)
  refine (runOps_nil ..).trans ?_
  refine (den_seq ..).trans ?_
  refine (den_reg ..).trans ?_
  refine (runOps_cons ..).trans ((step_mv ..).trans ?_)
  refine (runOps_cons ..).trans ((step_mv ..).trans ?_)
  refine (runOps_cons ..).trans ((stepE (v := (.int .i64 (.ofNat 4))) (by intro f as h; cases h) (fun K => w_lit (v := (.int .i64 (.ofNat 4))) (by intro K; rfl) K) _).trans ?_)
  refine (runOps_cons ..).trans ((step_mv ..).trans ?_)
  refine (runOps_cons ..).trans ((stepE (v := (.int .u8 (.ofNat ((((x / 256) / 256) / 256) % 256)))) (by intro f as h; cases h) (fun K => w_cvi (r := ((((x / 256) / 256) / 256) % 256)) (by rfl) (by rfl) K) _).trans ?_)
  refine (runOps_cons ..).trans ((stepE (v := (.ptr (H).n 4)) (by intro f as h; cases h) (fun K => w_ixs (b := (H).n) (o := 0) (n := 4) (r := 4) (by rfl) (by rfl) (by omega) (by rfl) K) _).trans ?_)
  refine (runOps_cons ..).trans ((stepN (v := .undef) (by intro f as h; cases h) (fun K => w_st1 (v := (.int .u8 (.ofNat ((((x / 256) / 256) / 256) % 256)))) (by rfl) (by rfl) (by rfl) g5 (by rfl) K) _).trans ?_)
  refine (runOps_nil ..).trans ?_
  refine (den_reg ..).trans ?_
  refine (runOps_cons ..).trans ((step_mv ..).trans ?_)
  refine (runOps_cons ..).trans ((stepE (v := (.int .u64 (.ofNat ((((x / 256) / 256) / 256) / 256)))) (by intro f as h; cases h) (fun K => w_bin (fun K => shr_u (a := (((x / 256) / 256) / 256)) (b := 8) (p := 256) (by rfl) K) K) _).trans ?_)
  refine (runOps_cons ..).trans ((step_mv ..).trans ?_)
  refine (runOps_nil ..).trans ?_
  refine (den_reg ..).trans ?_
  refine (runOps_cons ..).trans ((stepE (v := (.int .i64 (.ofNat 4))) (by intro f as h; cases h) (fun K => w_lit (v := (.int .i64 (.ofNat 4))) (by intro K; rfl) K) _).trans ?_)
  refine (runOps_cons ..).trans ((step_mv ..).trans ?_)
  refine (runOps_nil ..).trans ?_
  refine (iter_succ ..).trans ?_
  refine (den_seq ..).trans ?_
  refine (den_reg ..).trans ?_
  refine (runOps_cons ..).trans ((stepE (v := (.bool true)) (by intro f as h; cases h) (fun K => w_lit (v := (.bool true)) (by intro K; rfl) K) _).trans ?_)
  refine (runOps_nil ..).trans ?_
  refine (den_seq ..).trans ?_
  refine (den_condT rfl).trans ?_
  refine (den_skip ..).trans ?_
  refine (den_seq ..).trans ?_
  refine (den_block ..).trans ?_
  refine (den_seq ..).trans ?_
  refine (den_reg ..).trans ?_
  refine (runOps_cons ..).trans ((step_mv ..).trans ?_)
  refine (runOps_cons ..).trans ((step_mv ..).trans ?_)
  refine (runOps_nil ..).trans ?_
  refine (den_seq ..).trans ?_
  refine (den_reg ..).trans ?_
  refine (runOps_cons ..).trans ((step_mv ..).trans ?_)
  refine (runOps_cons ..).trans ((step_mv ..).trans ?_)
  refine (runOps_cons ..).trans ((stepE (v := (.int .i64 (.ofNat 3))) (by intro f as h; cases h) (fun K => w_lit (v := (.int .i64 (.ofNat 3))) (by intro K; rfl) K) _).trans ?_)
  refine (runOps_cons ..).trans ((step_mv ..).trans ?_)
  refine (runOps_cons ..).trans ((stepE (v := (.int .u8 (.ofNat (((((x / 256) / 256) / 256) / 256) % 256)))) (by intro f as h; cases h) (fun K => w_cvi (r := (((((x / 256) / 256) / 256) / 256) % 256)) (by rfl) (by rfl) K) _).trans ?_)
  refine (runOps_cons ..).trans ((stepE (v := (.ptr (H).n 3)) (by intro f as h; cases h) (fun K => w_ixs (b := (H).n) (o := 0) (n := 3) (r := 3) (by rfl) (by rfl) (by omega) (by rfl) K) _).trans ?_)
  refine (runOps_cons ..).trans ((stepN (v := .undef) (by intro f as h; cases h) (fun K => w_st1 (v := (.int .u8 (.ofNat (((((x / 256) / 256) / 256) / 256) % 256)))) (by rfl) (by rfl) (by rfl) g6 (by rfl) K) _).trans ?_)
  refine (runOps_nil ..).trans ?_
  refine (den_reg ..).trans ?_
  refine (runOps_cons ..).trans ((step_mv ..).trans ?_)
  refine (runOps_cons ..).trans ((stepE (v := (.int .u64 (.ofNat (((((x / 256) / 256) / 256) / 256) / 256)))) (by intro f as h; cases h) (fun K => w_bin (fun K => shr_u (a := ((((x / 256) / 256) / 256) / 256)) (b := 8) (p := 256) (by rfl) K) K) _).trans ?_)
  refine (runOps_cons ..).trans ((step_mv ..).trans ?_)
  refine (runOps_nil ..).trans ?_
  refine (den_reg ..).trans ?_
  refine (runOps_cons ..).trans ((stepE (v := (.int .i64 (.ofNat 5))) (by intro f as h; cases h) (fun K => w_lit (v := (.int .i64 (.ofNat 5))) (by intro K; rfl) K) _).trans ?_)
  refine (runOps_cons ..).trans ((step_mv ..).trans ?_)
  refine (runOps_nil ..).trans ?_
  refine (iter_succ ..).trans ?_
  refine (den_seq ..).trans ?_
  refine (den_reg ..).trans ?_
  refine (runOps_cons ..).trans ((stepE (v := (.bool true)) (by intro f as h; cases h) (fun K => w_lit (v := (.bool true)) (by intro K; rfl) K) _).trans ?_)
  refine (runOps_nil ..).trans ?_
  refine (den_seq ..).trans ?_
  refine (den_condT rfl).trans ?_
  refine (den_skip ..).trans ?_
  refine (den_seq ..).trans ?_
  refine (den_block ..).trans ?_
  refine (den_seq ..).trans ?_
  refine (den_reg ..).trans ?_
  refine (runOps_cons ..).trans ((step_mv ..).trans ?_)
  refine (runOps_cons ..).trans ((step_mv ..).trans ?_)
  refine (runOps_nil ..).trans ?_
  refine (den_seq ..).trans ?_
  refine (den_reg ..).trans ?_
  refine (runOps_cons ..).trans ((step_mv ..).trans ?_)
  refine (runOps_cons ..).trans ((step_mv ..).trans ?_)
  refine (runOps_cons ..).trans ((stepE (v := (.int .i64 (.ofNat 2))) (by intro f as h; cases h) (fun K => w_lit (v := (.int .i64 (.ofNat 2))) (by intro K; rfl) K) _).trans ?_)
  refine (runOps_cons ..).trans ((step_mv ..).trans ?_)
  refine (runOps_cons ..).trans ((stepE (v := (.int .u8 (.ofNat ((((((x / 256) / 256) / 256) / 256) / 256) % 256)))) (by intro f as h; cases h) (fun K => w_cvi (r := ((((((x / 256) / 256) / 256) / 256) / 256) % 256)) (by rfl) (by rfl) K) _).trans ?_)
  refine (runOps_cons ..).trans ((stepE (v := (.ptr (H).n 2)) (by intro f as h; cases h) (fun K => w_ixs (b := (H).n) (o := 0) (n := 2) (r := 2) (by rfl) (by rfl) (by omega) (by rfl) K) _).trans ?_)
  refine (runOps_cons ..).trans ((stepN (v := .undef) (by intro f as h; cases h) (fun K => w_st1 (v := (.int .u8 (.ofNat ((((((x / 256) / 256) / 256) / 256) / 256) % 256)))) (by rfl) (by rfl) (by rfl) g7 (by rfl) K) _).trans ?_)
  refine (runOps_nil ..).trans ?_
  refine (den_reg ..).trans ?_
  refine (runOps_cons ..).trans ((step_mv ..).trans ?_)
  refine (runOps_cons ..).trans ((stepE (v := (.int .u64 (.ofNat ((((((x / 256) / 256) / 256) / 256) / 256) / 256)))) (by intro f as h; cases h) (fun K => w_bin (fun K => shr_u (a := (((((x / 256) / 256) / 256) / 256) / 256)) (b := 8) (p := 256) (by rfl) K) K) _).trans ?_)
  refine (runOps_cons ..).trans ((step_mv ..).trans ?_)
  refine (runOps_nil ..).trans ?_
  refine (den_reg ..).trans ?_
  refine (runOps_cons ..).trans ((stepE (v := (.int .i64 (.ofNat 6))) (by intro f as h; cases h) (fun K => w_lit (v := (.int .i64 (.ofNat 6))) (by intro K; rfl) K) _).trans ?_)
  refine (runOps_cons ..).trans ((step_mv ..).trans ?_)
  refine (runOps_nil ..).trans ?_
  refine (iter_succ ..).trans ?_
  refine (den_seq ..).trans ?_
  refine (den_reg ..).trans ?_
  refine (runOps_cons ..).trans ((stepE (v := (.bool true)) (by intro f as h; cases h) (fun K => w_lit (v := (.bool true)) (by intro K; rfl) K) _).trans ?_)
  refine (runOps_nil ..).trans ?_
  refine (den_seq ..).trans ?_
  refine (den_condT rfl).trans ?_
  refine (den_skip ..).trans ?_
  refine (den_seq ..).trans ?_
  refine (den_block ..).trans ?_
  refine (den_seq ..).trans ?_
  refine (den_reg ..).trans ?_
  refine (runOps_cons ..).trans ((step_mv ..).trans ?_)
  refine (runOps_cons ..).trans ((step_mv ..).trans ?_)
  refine (runOps_nil ..).trans ?_
  refine (den_seq ..).trans ?_
  refine (den_reg ..).trans ?_
  refine (runOps_cons ..).trans ((step_mv ..).trans ?_)
  refine (runOps_cons ..).trans ((step_mv ..).trans ?_)
  refine (runOps_cons ..).trans ((stepE (v := (.int .i64 (.ofNat 1))) (by intro f as h; cases h) (fun K => w_lit (v := (.int .i64 (.ofNat 1))) (by intro K; rfl) K) _).trans ?_)
  refine (runOps_cons ..).trans ((step_mv ..).trans ?_)
  refine (runOps_cons ..).trans ((stepE (v := (.int .u8 (.ofNat (((((((x / 256) / 256) / 256) / 256) / 256) / 256) % 256)))) (by intro f as h; cases h) (fun K => w_cvi (r := (((((((x / 256) / 256) / 256) / 256) / 256) / 256) % 256)) (by rfl) (by rfl) K) _).trans ?_)
  refine (runOps_cons ..).trans ((stepE (v := (.ptr (H).n 1)) (by intro f as h; cases h) (fun K => w_ixs (b := (H).n) (o := 0) (n := 1) (r := 1) (by rfl) (by rfl) (by omega) (by rfl) K) _).trans ?_)
  refine (runOps_cons ..).trans ((stepN (v := .undef) (by intro f as h; cases h) (fun K => w_st1 (v := (.int .u8 (.ofNat (((((((x / 256) / 256) / 256) / 256) / 256) / 256) % 256)))) (by rfl) (by rfl) (by rfl) g8 (by rfl) K) _).trans ?_)
  refine (runOps_nil ..).trans ?_
  refine (den_reg ..).trans ?_
  refine (runOps_cons ..).trans ((step_mv ..).trans ?_)
  refine (runOps_cons ..).trans ((stepE (v := (.int .u64 (.ofNat (((((((x / 256) / 256) / 256) / 256) / 256) / 256) / 256)))) (by intro f as h; cases h) (fun K => w_bin (fun K => shr_u (a := ((((((x / 256) / 256) / 256) / 256) / 256) / 256)) (b := 8) (p := 256) (by rfl) K) K) _).trans ?_)
  refine (runOps_cons ..).trans ((step_mv ..).trans ?_)
  refine (runOps_nil ..).trans ?_
  refine (den_reg ..).trans ?_
  refine (runOps_cons ..).trans ((stepE (v := (.int .i64 (.ofNat 7))) (by intro f as h; cases h) (fun K => w_lit (v := (.int .i64 (.ofNat 7))) (by intro K; rfl) K) _).trans ?_)
  refine (runOps_cons ..).trans ((step_mv ..).trans ?_)
  refine (runOps_nil ..).trans ?_
  refine (iter_succ ..).trans ?_
  refine (den_seq ..).trans ?_
  refine (den_reg ..).trans ?_
  refine (runOps_cons ..).trans ((stepE (v := (.bool true)) (by intro f as h; cases h) (fun K => w_lit (v := (.bool true)) (by intro K; rfl) K) _).trans ?_)
  refine (runOps_nil ..).trans ?_
  refine (den_seq ..).trans ?_
  refine (den_condT rfl).trans ?_
  refine (den_skip ..).trans ?_
  refine (den_seq ..).trans ?_
  refine (den_block ..).trans ?_
  refine (den_seq ..).trans ?_
  refine (den_reg ..).trans ?_
  refine (runOps_cons ..).trans ((step_mv ..).trans ?_)
  refine (runOps_cons ..).trans ((step_mv ..).trans ?_)
  refine (runOps_nil ..).trans ?_
  refine (den_seq ..).trans ?_
  refine (den_reg ..).trans ?_
  refine (runOps_cons ..).trans ((step_mv ..).trans ?_)
  refine (runOps_cons ..).trans ((step_mv ..).trans ?_)
  refine (runOps_cons ..).trans ((stepE (v := (.int .i64 (.ofNat 0))) (by intro f as h; cases h) (fun K => w_lit (v := (.int .i64 (.ofNat 0))) (by intro K; rfl) K) _).trans ?_)
  refine (runOps_cons ..).trans ((step_mv ..).trans ?_)
  refine (runOps_cons ..).trans ((stepE (v := (.int .u8 (.ofNat ((((((((x / 256) / 256) / 256) / 256) / 256) / 256) / 256) % 256)))) (by intro f as h; cases h) (fun K => w_cvi (r := ((((((((x / 256) / 256) / 256) / 256) / 256) / 256) / 256) % 256)) (by rfl) (by rfl) K) _).trans ?_)
  refine (runOps_cons ..).trans ((stepE (v := (.ptr (H).n 0)) (by intro f as h; cases h) (fun K => w_ixs (b := (H).n) (o := 0) (n := 0) (r := 0) (by rfl) (by rfl) (by omega) (by rfl) K) _).trans ?_)
  refine (runOps_cons ..).trans ((stepN (v := .undef) (by intro f as h; cases h) (fun K => w_st1 (v := (.int .u8 (.ofNat ((((((((x / 256) / 256) / 256) / 256) / 256) / 256) / 256) % 256)))) (by rfl) (by rfl) (by rfl) g9 (by rfl) K) _).trans ?_)
  refine (runOps_nil ..).trans ?_
  refine (den_reg ..).trans ?_
  refine (runOps_cons ..).trans ((step_mv ..).trans ?_)
  refine (runOps_cons ..).trans ((stepE (v := (.int .u64 (.ofNat ((((((((x / 256) / 256) / 256) / 256) / 256) / 256) / 256) / 256)))) (by intro f as h; cases h) (fun K => w_bin (fun K => shr_u (a := (((((((x / 256) / 256) / 256) / 256) / 256) / 256) / 256)) (b := 8) (p := 256) (by rfl) K) K) _).trans ?_)
  refine (runOps_cons ..).trans ((step_mv ..).trans ?_)
  refine (runOps_nil ..).trans ?_
  refine (den_reg ..).trans ?_
  refine (runOps_cons ..).trans ((stepE (v := (.int .i64 (.ofNat 8))) (by intro f as h; cases h) (fun K => w_lit (v := (.int .i64 (.ofNat 8))) (by intro K; rfl) K) _).trans ?_)
  refine (runOps_cons ..).trans ((step_mv ..).trans ?_)
  refine (runOps_nil ..).trans ?_
  refine (iter_succ ..).trans ?_
  refine (den_seq ..).trans ?_
  refine (den_reg ..).trans ?_
  refine (runOps_cons ..).trans ((stepE (v := (.bool false)) (by intro f as h; cases h) (fun K => w_lit (v := (.bool false)) (by intro K; rfl) K) _).trans ?_)
  refine (runOps_nil ..).trans ?_
  refine (den_seq ..).trans ?_
  refine (den_condF rfl).trans ?_
  refine (den_exit ..).trans ?_
  refine (cond_beq ..).trans ?_
  refine (den_seq ..).trans ?_
  refine (den_reg ..).trans ?_
  refine (runOps_cons ..).trans ((step_mv ..).trans ?_)
  refine (runOps_cons ..).trans ((step_mv ..).trans ?_)
  refine (runOps_nil ..).trans ?_
  refine (den_ret ..).trans ?_
  exact fin_tmp (by rfl) (by rfl) k

theorem onB_does {tbl : Nat → Option FT} {N f : Nat} {gOn : Nat} (hO : tbl gOn = some (.code irOnB)) (u c0 c1 c2 c3 c4 c5 c6 c7 : Nat) {b : Nat} {a : Rp AV} {st ro : Bool} (hv : a.get 0 = some (.int .u8 (.ofNat c0)) ∧ a.get 1 = some (.int .u8 (.ofNat c1)) ∧ a.get 2 = some (.int .u8 (.ofNat c2)) ∧ a.get 3 = some (.int .u8 (.ofNat c3)) ∧ a.get 4 = some (.int .u8 (.ofNat c4)) ∧ a.get 5 = some (.int .u8 (.ofNat c5)) ∧ a.get 6 = some (.int .u8 (.ofNat c6)) ∧ a.get 7 = some (.int .u8 (.ofNat c7))) (H : AH) (hg : H.get b = some (.cells a st ro)) : Does (RUN tbl (N + 20) (f + 1)) gOn [.int .u64 (.ofNat u), .slc b 0 8 8] H (.int .u64 (.ofNat (fnvS (fnvS (fnvS (fnvS (fnvS (fnvS (fnvS (fnvS u (c0 % 18446744073709551616)) (c1 % 18446744073709551616)) (c2 % 18446744073709551616)) (c3 % 18446744073709551616)) (c4 % 18446744073709551616)) (c5 % 18446744073709551616)) (c6 % 18446744073709551616)) (c7 % 18446744073709551616)))) H := by
  obtain ⟨hv0, hv1, hv2, hv3, hv4, hv5, hv6, hv7⟩ := hv
  refine Does.of hO fun k => ?_
  show den _ _ none irOnB.body [.int .u64 (.ofNat u), .slc b 0 8 8, .tup [], .tup [], .tup [], .tup [], .tup [], .tup [], .tup [], .tup [], .tup [], .tup [], .tup [], .tup [], .tup [], .tup [], .tup [], .tup [], .tup [], .tup [], .tup []] [] H (finK irOnB k) = _
  unfold irOnB
  refine (den_seq ..).trans ?_
  refine (den_reg ..).trans ?_
  refine (runOps_cons ..).trans ((step_mv ..).trans ?_)
  refine (runOps_nil ..).trans ?_
  refine (den_seq ..).trans ?_
  refine (den_seq ..).trans ?_
  refine (den_reg ..).trans ?_
  refine (runOps_cons ..).trans ((step_mv ..).trans ?_)
  refine (runOps_cons ..).trans ((stepE (v := (.int .i64 (.ofNat 8))) (by intro f as h; cases h) (fun K => len_slc (by rfl) K) _).trans ?_)
  refine (runOps_cons ..).trans ((step_mv ..).trans ?_)
  refine (runOps_nil ..).trans ?_
  refine (den_block ..).trans ?_
  refine (den_loop' ..).trans ?_
  refine (iter_succ ..).trans ?_
  refine (den_seq ..).trans ?_
  refine (den_reg ..).trans ?_
  refine (runOps_cons ..).trans ((stepE (v := (.bool true)) (by intro f as h; cases h) (fun K => w_lit (v := (.bool true)) (by intro K; rfl) K) _).trans ?_)
  refine (runOps_nil ..).trans ?_
  refine (den_seq ..).trans ?_
  refine (den_condT rfl).trans ?_
  refine (den_skip ..).trans ?_
  refine (den_seq ..).trans ?_
  refine (den_block ..).trans ?_
  refine (den_seq ..).trans ?_
  refine (den_reg ..).trans ?_
  refine (runOps_cons ..).trans ((step_mv ..).trans ?_)
  refine (runOps_cons ..).trans ((step_mv ..).trans ?_)
  refine (runOps_nil ..).trans ?_
  refine (den_reg ..).trans ?_
  refine (runOps_cons ..).trans ((step_mv ..).trans ?_)
  refine (runOps_cons ..).trans ((step_mv ..).trans ?_)
  refine (runOps_cons ..).trans ((step_mv ..).trans ?_)
  refine (runOps_cons ..).trans ((stepE (v := (.ptr b 0)) (by intro f as h; cases h) (fun K => w_ixs (b := b) (o := 0) (n := 0) (r := 0) (by rfl) (by rfl) (by omega) (by rfl) K) _).trans ?_)
  refine (runOps_cons ..).trans ((stepE (v := (.int .u8 (.ofNat c0))) (by intro f as h; cases h) (fun K => w_ld1 (by rfl) hg hv0 K) _).trans ?_)
  refine (runOps_cons ..).trans ((stepE (v := (.int .u64 (.ofNat (c0 % 18446744073709551616)))) (by intro f as h; cases h) (fun K => w_cvi (r := (c0 % 18446744073709551616)) (by rfl) (by rfl) K) _).trans ?_)
  refine (runOps_cons ..).trans ((stepE (v := (.int .u64 (.ofNat (fnvX u (c0 % 18446744073709551616))))) (by intro f as h; cases h) (fun K => w_bin (fun K => xor_u64 u (c0 % 18446744073709551616) _ _ K) K) _).trans ?_)
  refine (runOps_cons ..).trans ((stepE (v := (.int .u64 (.ofNat (fnvS u (c0 % 18446744073709551616))))) (by intro f as h; cases h) (fun K => w_bin (fun K => mul_u64 (fnvX u (c0 % 18446744073709551616)) 1099511628211 _ _ K) K) _).trans ?_)
  refine (runOps_cons ..).trans ((step_mv ..).trans ?_)
  refine (runOps_nil ..).trans ?_
  refine (den_reg ..).trans ?_
  refine (runOps_cons ..).trans ((stepE (v := (.int .i64 (.ofNat 1))) (by intro f as h; cases h) (fun K => w_lit (v := (.int .i64 (.ofNat 1))) (by intro K; rfl) K) _).trans ?_)
  refine (runOps_cons ..).trans ((step_mv ..).trans ?_)
  refine (runOps_nil ..).trans ?_
  refine (iter_succ ..).trans ?_
  refine (den_seq ..).trans ?_
  refine (den_reg ..).trans ?_
  refine (runOps_cons ..).trans ((stepE (v := (.bool true)) (by intro f as h; cases h) (fun K => w_lit (v := (.bool true)) (by intro K; rfl) K) _).trans ?_)
  refine (runOps_nil ..).trans ?_
  refine (den_seq ..).trans ?_
  refine (den_condT rfl).trans ?_
  refine (den_skip ..).trans ?_
  refine (den_seq ..).trans ?_
  refine (den_block ..).trans ?_
  refine (den_seq ..).trans ?_
  refine (den_reg ..).trans ?_
  refine (runOps_cons ..).trans ((step_mv ..).trans ?_)
  refine (runOps_cons ..).trans ((step_mv ..).trans ?_)
  refine (runOps_nil ..).trans ?_
  refine (den_reg ..).trans ?_
  refine (runOps_cons ..).trans ((step_mv ..).trans ?_)
  refine (runOps_cons ..).trans ((step_mv ..).trans ?_)
  refine (runOps_cons ..).trans ((step_mv ..).trans ?_)
  refine (runOps_cons ..).trans ((stepE (v := (.ptr b 1)) (by intro f as h; cases h) (fun K => w_ixs (b := b) (o := 0) (n := 1) (r := 1) (by rfl) (by rfl) (by omega) (by rfl) K) _).trans ?_)
  refine (runOps_cons ..).trans ((stepE (v := (.int .u8 (.ofNat c1))) (by intro f as h; cases h) (fun K => w_ld1 (by rfl) hg hv1 K) _).trans ?_)
  refine (runOps_cons ..).trans ((stepE (v := (.int .u64 (.ofNat (c1 % 18446744073709551616)))) (by intro f as h; cases h) (fun K => w_cvi (r := (c1 % 18446744073709551616)) (by rfl) (by rfl) K) _).trans ?_)
  refine (runOps_cons ..).trans ((stepE (v := (.int .u64 (.ofNat (fnvX (fnvS u (c0 % 18446744073709551616)) (c1 % 18446744073709551616))))) (by intro f as h; cases h) (fun K => w_bin (fun K => xor_u64 (fnvS u (c0 % 18446744073709551616)) (c1 % 18446744073709551616) _ _ K) K) _).trans ?_)
  refine (runOps_cons ..).trans ((stepE (v := (.int .u64 (.ofNat (fnvS (fnvS u (c0 % 18446744073709551616)) (c1 % 18446744073709551616))))) (by intro f as h; cases h) (fun K => w_bin (fun K => mul_u64 (fnvX (fnvS u (c0 % 18446744073709551616)) (c1 % 18446744073709551616)) 1099511628211 _ _ K) K) _).trans ?_)
  refine (runOps_cons ..).trans ((step_mv ..).trans ?_)
  refine (runOps_nil ..).trans ?_
  refine (den_reg ..).trans ?_
  refine (runOps_cons ..).trans ((stepE (v := (.int .i64 (.ofNat 2))) (by intro f as h; cases h) (fun K => w_lit (v := (.int .i64 (.ofNat 2))) (by intro K; rfl) K) _).trans ?_)
  refine (runOps_cons ..).trans ((step_mv ..).trans ?_)
  refine (runOps_nil ..).trans ?_
  refine (iter_succ ..).trans ?_
  refine (den_seq ..).trans ?_
  refine (den_reg ..).trans ?_
  refine (runOps_cons ..).trans ((stepE (v := (.bool true)) (by intro f as h; cases h) (fun K => w_lit (v := (.bool true)) (by intro K; rfl) K) _).trans ?_)
  refine (runOps_nil ..).trans ?_
  refine (den_seq ..).trans ?_
  refine (den_condT rfl).trans ?_
  refine (den_skip ..).trans ?_
  refine (den_seq ..).trans ?_
  refine (den_block ..).trans ?_
  refine (den_seq ..).trans ?_
  refine (den_reg ..).trans ?_
  refine (runOps_cons ..).trans ((step_mv ..).trans ?_)
  refine (runOps_cons ..).trans ((step_mv ..).trans ?_)
  refine (runOps_nil ..).trans ?_
  refine (den_reg ..).trans ?_
  refine (runOps_cons ..).trans ((step_mv ..).trans ?_)
  refine (runOps_cons ..).trans ((step_mv ..).trans ?_)
  refine (runOps_cons ..).trans ((step_mv ..).trans ?_)
  refine (runOps_cons ..).trans ((stepE (v := (.ptr b 2)) (by intro f as h; cases h) (fun K => w_ixs (b := b) (o := 0) (n := 2) (r := 2) (by rfl) (by rfl) (by omega) (by rfl) K) _).trans ?_)
  refine (runOps_cons ..).trans ((stepE (v := (.int .u8 (.ofNat c2))) (by intro f as h; cases h) (fun K => w_ld1 (by rfl) hg hv2 K) _).trans ?_)
  refine (runOps_cons ..).trans ((stepE (v := (.int .u64 (.ofNat (c2 % 18446744073709551616)))) (by intro f as h; cases h) (fun K => w_cvi (r := (c2 % 18446744073709551616)) (by rfl) (by rfl) K) _).trans ?_)
  refine (runOps_cons ..).trans ((stepE (v := (.int .u64 (.ofNat (fnvX (fnvS (fnvS u (c0 % 18446744073709551616)) (c1 % 18446744073709551616)) (c2 % 18446744073709551616))))) (by intro f as h; cases h) (fun K => w_bin (fun K => xor_u64 (fnvS (fnvS u (c0 % 18446744073709551616)) (c1 % 18446744073709551616)) (c2 % 18446744073709551616) _ _ K) K) _).trans ?_)
  refine (runOps_cons ..).trans ((stepE (v := (.int .u64 (.ofNat (fnvS (fnvS (fnvS u (c0 % 18446744073709551616)) (c1 % 18446744073709551616)) (c2 % 18446744073709551616))))) (by intro f as h; cases h) (fun K => w_bin (fun K => mul_u64 (fnvX (fnvS (fnvS u (c0 % 18446744073709551616)) (c1 % 18446744073709551616)) (c2 % 18446744073709551616)) 1099511628211 _ _ K) K) _).trans ?_)
  refine (runOps_cons ..).trans ((step_mv ..).trans ?_)
  refine (runOps_nil ..).trans ?_
  refine (den_reg ..).trans ?_
  refine (runOps_cons ..).trans ((stepE (v := (.int .i64 (.ofNat 3))) (by intro f as h; cases h) (fun K => w_lit (v := (.int .i64 (.ofNat 3))) (by intro K; rfl) K) _).trans ?_)
  refine (runOps_cons ..).trans ((step_mv ..).trans ?_)
  refine (runOps_nil ..).trans ?_
  refine (iter_succ ..).trans ?_
  refine (den_seq ..).trans ?_
  refine (den_reg ..).trans ?_
  refine (runOps_cons ..).trans ((stepE (v := (.bool true)) (by intro f as h; cases h) (fun K => w_lit (v := (.bool true)) (by intro K; rfl) K) _).trans ?_)
  refine (runOps_nil ..).trans ?_
  refine (den_seq ..).trans ?_
  refine (den_condT rfl).trans ?_
  refine (den_skip ..).trans ?_
  refine (den_seq ..).trans ?_
  refine (den_block ..).trans ?_
  refine (den_seq ..).trans ?_
  refine (den_reg ..).trans ?_
  refine (runOps_cons ..).trans ((step_mv ..).trans ?_)
  refine (runOps_cons ..).trans ((step_mv ..).trans ?_)
  refine (runOps_nil ..).trans ?_
  refine (den_reg ..).trans ?_
  refine (runOps_cons ..).trans ((step_mv ..).trans ?_)
  refine (runOps_cons ..).trans ((step_mv ..).trans ?_)
  refine (runOps_cons ..).trans ((step_mv ..).trans ?_)
  refine (runOps_cons ..).trans ((stepE (v := (.ptr b 3)) (by intro f as h; cases h) (fun K => w_ixs (b := b) (o := 0) (n := 3) (r := 3) (by rfl) (by rfl) (by omega) (by rfl) K) _).trans ?_)
  refine (runOps_cons ..).trans ((stepE (v := (.int .u8 (.ofNat c3))) (by intro f as h; cases h) (fun K => w_ld1 (by rfl) hg hv3 K) _).trans ?_)
  refine (runOps_cons ..).trans ((stepE (v := (.int .u64 (.ofNat (c3 % 18446744073709551616)))) (by intro f as h; cases h) (fun K => w_cvi (r := (c3 % 18446744073709551616)) (by rfl) (by rfl) K) _).trans ?_)
  refine (runOps_cons ..).trans ((stepE (v := (.int .u64 (.ofNat (fnvX (fnvS (fnvS (fnvS u (c0 % 18446744073709551616)) (c1 % 18446744073709551616)) (c2 % 18446744073709551616)) (c3 % 18446744073709551616))))) (by intro f as h; cases h) (fun K => w_bin (fun K => xor_u64 (fnvS (fnvS (fnvS u (c0 % 18446744073709551616)) (c1 % 18446744073709551616)) (c2 % 18446744073709551616)) (c3 % 18446744073709551616) _ _ K) K) _).trans ?_)
  refine (runOps_cons ..).trans ((stepE (v := (.int .u64 (.ofNat (fnvS (fnvS (fnvS (fnvS u (c0 % 18446744073709551616)) (c1 % 18446744073709551616)) (c2 % 18446744073709551616)) (c3 % 18446744073709551616))))) (by intro f as h; cases h) (fun K => w_bin (fun K => mul_u64 (fnvX (fnvS (fnvS (fnvS u (c0 % 18446744073709551616)) (c1 % 18446744073709551616)) (c2 % 18446744073709551616)) (c3 % 18446744073709551616)) 1099511628211 _ _ K) K) _).trans ?_)
  refine (runOps_cons ..).trans ((step_mv ..).trans ?_)
  refine (runOps_nil ..).trans ?_
  refine (den_reg ..).trans ?_
  refine (runOps_cons ..).trans ((stepE (v := (.int .i64 (.ofNat 4))) (by intro f as h; cases h) (fun K => w_lit (v := (.int .i64 (.ofNat 4))) (by intro K; rfl) K) _).trans ?_)
  refine (runOps_cons ..).trans ((step_mv ..).trans ?_)
  refine (runOps_nil ..).trans ?_
  refine (iter_succ ..).trans ?_
  refine (den_seq ..).trans ?_
  refine (den_reg ..).trans ?_
  refine (runOps_cons ..).trans ((stepE (v := (.bool true)) (by intro f as h; cases h) (fun K => w_lit (v := (.bool true)) (by intro K; rfl) K) _).trans ?_)
  refine (runOps_nil ..).trans ?_
  refine (den_seq ..).trans ?_
  refine (den_condT rfl).trans ?_
  refine (den_skip ..).trans ?_
  refine (den_seq ..).trans ?_
  refine (den_block ..).trans ?_
  refine (den_seq ..).trans ?_
  refine (den_reg ..).trans ?_
  refine (runOps_cons ..).trans ((step_mv ..).trans ?_)
  refine (runOps_cons ..).trans ((step_mv ..).trans ?_)
  refine (runOps_nil ..).trans ?_
  refine (den_reg ..).trans ?_
  refine (runOps_cons ..).trans ((step_mv ..).trans ?_)
  refine (runOps_cons ..).trans ((step_mv ..).trans ?_)
  refine (runOps_cons ..).trans ((step_mv ..).trans ?_)
  refine (runOps_cons ..).trans ((stepE (v := (.ptr b 4)) (by intro f as h; cases h) (fun K => w_ixs (b := b) (o := 0) (n := 4) (r := 4) (by rfl) (by rfl) (by omega) (by rfl) K) _).trans ?_)
  refine (runOps_cons ..).trans ((stepE (v := (.int .u8 (.ofNat c4))) (by intro f as h; cases h) (fun K => w_ld1 (by rfl) hg hv4 K) _).trans ?_)
  refine (runOps_cons ..).trans ((stepE (v := (.int .u64 (.ofNat (c4 % 18446744073709551616)))) (by intro f as h; cases h) (fun K => w_cvi (r := (c4 % 18446744073709551616)) (by rfl) (by rfl) K) _).trans ?_)
  refine (runOps_cons ..).trans ((stepE (v := (.int .u64 (.ofNat (fnvX (fnvS (fnvS (fnvS (fnvS u (c0 % 18446744073709551616)) (c1 % 18446744073709551616)) (c2 % 18446744073709551616)) (c3 % 18446744073709551616)) (c4 % 18446744073709551616))))) (by intro f as h; cases h) (fun K => w_bin (fun K => xor_u64 (fnvS (fnvS (fnvS (fnvS u (c0 % 18446744073709551616)) (c1 % 18446744073709551616)) (c2 % 18446744073709551616)) (c3 % 18446744073709551616)) (c4 % 18446744073709551616) _ _ K) K) _).trans ?_)
  refine (runOps_cons ..).trans ((stepE (v := (.int .u64 (.ofNat (fnvS (fnvS (fnvS (fnvS (fnvS u (c0 % 18446744073709551616)) (c1 % 18446744073709551616)) (c2 % 18446744073709551616)) (c3 % 18446744073709551616)) (c4 % 18446744073709551616))))) (by intro f as h; cases h) (fun K => w_bin (fun K => mul_u64 (fnvX (fnvS (fnvS (fnvS (fnvS u (c0 % 18446744073709551616)) (c1 % 18446744073709551616)) (c2 % 18446744073709551616)) (c3 % 18446744073709551616)) (c4 % 18446744073709551616)) 1099511628211 _ _ K) K) _).trans ?_)
  refine (runOps_cons ..).trans ((step_mv ..).trans ?_)
  refine (runOps_nil ..).trans ?_
  refine (den_reg ..).trans ?_
  refine (runOps_cons ..).trans ((stepE (v := (.int .i64 (.ofNat 5))) (by intro f as h; cases h) (fun K => w_lit (v := (.int .i64 (.ofNat 5))) (by intro K; rfl) K) _).trans ?_)
  refine (runOps_cons ..).trans ((step_mv ..).trans ?_)
  refine (runOps_nil ..).trans ?_
  refine (iter_succ ..).trans ?_
  refine (den_seq ..).trans ?_
  refine (den_reg ..).trans ?_
  refine (runOps_cons ..).trans ((stepE (v := (.bool true)) (by intro f as h; cases h) (fun K => w_lit (v := (.bool true)) (by intro K; rfl) K) _).trans ?_)
  refine (runOps_nil ..).trans ?_
  refine (den_seq ..).trans ?_
  refine (den_condT rfl).trans ?_
  refine (den_skip ..).trans ?_
  refine (den_seq ..).trans ?_
  refine (den_block ..).trans ?_
  refine (den_seq ..).trans ?_
  refine (den_reg ..).trans ?_
  refine (runOps_cons ..).trans ((step_mv ..).trans ?_)
  refine (runOps_cons ..).trans ((step_mv ..).trans ?_)
  refine (runOps_nil ..).trans ?_
  refine (den_reg ..).trans ?_
  refine (runOps_cons ..).trans ((step_mv ..).trans ?_)
  refine (runOps_cons ..).trans ((step_mv ..).trans ?_)
  refine (runOps_cons ..).trans ((step_mv ..).trans ?_)
  refine (runOps_cons ..).trans ((stepE (v := (.ptr b 5)) (by intro f as h; cases h) (fun K => w_ixs (b := b) (o := 0) (n := 5) (r := 5) (by rfl) (by rfl) (by omega) (by rfl) K) _).trans ?_)
  refine (runOps_cons ..).trans ((stepE (v := (.int .u8 (.ofNat c5))) (by intro f as h; cases h) (fun K => w_ld1 (by rfl) hg hv5 K) _).trans ?_)
  refine (runOps_cons ..).trans ((stepE (v := (.int .u64 (.ofNat (c5 % 18446744073709551616)))) (by intro f as h; cases h) (fun K => w_cvi (r := (c5 % 18446744073709551616)) (by rfl) (by rfl) K) _).trans ?_)
  refine (runOps_cons ..).trans ((stepE (v := (.int .u64 (.ofNat (fnvX (fnvS (fnvS (fnvS (fnvS (fnvS u (c0 % 18446744073709551616)) (c1 % 18446744073709551616)) (c2 % 18446744073709551616)) (c3 % 18446744073709551616)) (c4 % 18446744073709551616)) (c5 % 18446744073709551616))))) (by intro f as h; cases h) (fun K => w_bin (fun K => xor_u64 (fnvS (fnvS (fnvS (fnvS (fnvS u (c0 % 18446744073709551616)) (c1 % 18446744073709551616)) (c2 % 18446744073709551616)) (c3 % 18446744073709551616)) (c4 % 18446744073709551616)) (c5 % 18446744073709551616) _ _ K) K) _).trans ?_)
  refine (runOps_cons ..).trans ((stepE (v := (.int .u64 (.ofNat (fnvS (fnvS (fnvS (fnvS (fnvS (fnvS u (c0 % 18446744073709551616)) (c1 % 18446744073709551616)) (c2 % 18446744073709551616)) (c3 % 18446744073709551616)) (c4 % 18446744073709551616)) (c5 % 18446744073709551616))))) (by intro f as h; cases h) (fun K => w_bin (fun K => mul_u64 (fnvX (fnvS (fnvS (fnvS (fnvS (fnvS u (c0 % 18446744073709551616)) (c1 % 18446744073709551616)) (c2 % 18446744073709551616)) (c3 % 18446744073709551616)) (c4 % 18446744073709551616)) (c5 % 18446744073709551616)) 1099511628211 _ _ K) K) _).trans ?_)
  refine (runOps_cons ..).trans ((step_mv ..).trans ?_)
  refine (runOps_nil ..).trans ?_
  refine (den_reg ..).trans ?_
  refine (runOps_cons ..).trans ((stepE (v := (.int .i64 (.ofNat 6))) (by intro f as h; cases h) (fun K => w_lit (v := (.int .i64 (.ofNat 6))) (by intro K; rfl) K) _).trans ?_)
  refine (runOps_cons ..).trans ((step_mv ..).trans ?_)
  refine (runOps_nil ..).trans ?_
  refine (iter_succ ..).trans ?_
  refine (den_seq ..).trans ?_
  refine (den_reg ..).trans ?_
  refine (runOps_cons ..).trans ((stepE (v := (.bool true)) (by intro f as h; cases h) (fun K => w_lit (v := (.bool true)) (by intro K; rfl) K) _).trans ?_)
  refine (runOps_nil ..).trans ?_
  refine (den_seq ..).trans ?_
  refine (den_condT rfl).trans ?_
  refine (den_skip ..).trans ?_
  refine (den_seq ..).trans ?_
  refine (den_block ..).trans ?_
  refine (den_seq ..).trans ?_
  refine (den_reg ..).trans ?_
  refine (runOps_cons ..).trans ((step_mv ..).trans ?_)
  refine (runOps_cons ..).trans ((step_mv ..).trans ?_)
  refine (runOps_nil ..).trans ?_
  refine (den_reg ..).trans ?_
  refine (runOps_cons ..).trans ((step_mv ..).trans ?_)
  refine (runOps_cons ..).trans ((step_mv ..).trans ?_)
  refine (runOps_cons ..).trans ((step_mv ..).trans ?_)
  refine (runOps_cons ..).trans ((stepE (v := (.ptr b 6)) (by intro f as h; cases h) (fun K => w_ixs (b := b) (o := 0) (n := 6) (r := 6) (by rfl) (by rfl) (by omega) (by rfl) K) _).trans ?_)
  refine (runOps_cons ..).trans ((stepE (v := (.int .u8 (.ofNat c6))) (by intro f as h; cases h) (fun K => w_ld1 (by rfl) hg hv6 K) _).trans ?_)
  refine (runOps_cons ..).trans ((stepE (v := (.int .u64 (.ofNat (c6 % 18446744073709551616)))) (by intro f as h; cases h) (fun K => w_cvi (r := (c6 % 18446744073709551616)) (by rfl) (by rfl) K) _).trans ?_)
  refine (runOps_cons ..).trans ((stepE (v := (.int .u64 (.ofNat (fnvX (fnvS (fnvS (fnvS (fnvS (fnvS (fnvS u (c0 % 18446744073709551616)) (c1 % 18446744073709551616)) (c2 % 18446744073709551616)) (c3 % 18446744073709551616)) (c4 % 18446744073709551616)) (c5 % 18446744073709551616)) (c6 % 18446744073709551616))))) (by intro f as h; cases h) (fun K => w_bin (fun K => xor_u64 (fnvS (fnvS (fnvS (fnvS (fnvS (fnvS u (c0 % 18446744073709551616)) (c1 % 18446744073709551616)) (c2 % 18446744073709551616)) (c3 % 18446744073709551616)) (c4 % 18446744073709551616)) (c5 % 18446744073709551616)) (c6 % 18446744073709551616) _ _ K) K) _).trans ?_)
  refine (runOps_cons ..).trans ((stepE (v := (.int .u64 (.ofNat (fnvS (fnvS (fnvS (fnvS (fnvS (fnvS (fnvS u (c0 % 18446744073709551616)) (c1 % 18446744073709551616)) (c2 % 18446744073709551616)) (c3 % 18446744073709551616)) (c4 % 18446744073709551616)) (c5 % 18446744073709551616)) (c6 % 18446744073709551616))))) (by intro f as h; cases h) (fun K => w_bin (fun K => mul_u64 (fnvX (fnvS (fnvS (fnvS (fnvS (fnvS (fnvS u (c0 % 18446744073709551616)) (c1 % 18446744073709551616)) (c2 % 18446744073709551616)) (c3 % 18446744073709551616)) (c4 % 18446744073709551616)) (c5 % 18446744073709551616)) (c6 % 18446744073709551616)) 1099511628211 _ _ K) K) _).trans ?_)
  refine (runOps_cons ..).trans ((step_mv ..).trans ?_)
  refine (runOps_nil ..).trans ?_
  refine (den_reg ..).trans ?_
  refine (runOps_cons ..).trans ((stepE (v := (.int .i64 (.ofNat 7))) (by intro f as h; cases h) (fun K => w_lit (v := (.int .i64 (.ofNat 7))) (by intro K; rfl) K) _).trans ?_)
  refine (runOps_cons ..).trans ((step_mv ..).trans ?_)
  refine (runOps_nil ..).trans ?_
  refine (iter_succ ..).trans ?_
  refine (den_seq ..).trans ?_
  refine (den_reg ..).trans ?_
  refine (runOps_cons ..).trans ((stepE (v := (.bool true)) (by intro f as h; cases h) (fun K => w_lit (v := (.bool true)) (by intro K; rfl) K) _).trans ?_)
  refine (runOps_nil ..).trans ?_
  refine (den_seq ..).trans ?_
  refine (den_condT rfl).trans ?_
  refine (den_skip ..).trans ?_
  refine (den_seq ..).trans ?_
  refine (den_block ..).trans ?_
  refine (den_seq ..).trans ?_
  refine (den_reg ..).trans ?_
  refine (runOps_cons ..).trans ((step_mv ..).trans ?_)
  refine (runOps_cons ..).trans ((step_mv ..).trans ?_)
  refine (runOps_nil ..).trans ?_
  refine (den_reg ..).trans ?_
  refine (runOps_cons ..).trans ((step_mv ..).trans ?_)
  refine (runOps_cons ..).trans ((step_mv ..).trans ?_)
  refine (runOps_cons ..).trans ((step_mv ..).trans ?_)
  refine (runOps_cons ..).trans ((stepE (v := (.ptr b 7)) (by intro f as h; cases h) (fun K => w_ixs (b := b) (o := 0) (n := 7) (r := 7) (by rfl) (by rfl) (by omega) (by rfl) K) _).trans ?_)
  refine (runOps_cons ..).trans ((stepE (v := (.int .u8 (.ofNat c7))) (by intro f as h; cases h) (fun K => w_ld1 (by rfl) hg hv7 K) _).trans ?_)
  refine (runOps_cons ..).trans ((stepE (v := (.int .u64 (.ofNat (c7 % 18446744073709551616)))) (by intro f as h; cases h) (fun K => w_cvi (r := (c7 % 18446744073709551616)) (by rfl) (by rfl) K) _).trans ?_)
  refine (runOps_cons ..).trans ((stepE (v := (.int .u64 (.ofNat (fnvX (fnvS (fnvS (fnvS (fnvS (fnvS (fnvS (fnvS u (c0 % 18446744073709551616)) (c1 % 18446744073709551616)) (c2 % 18446744073709551616)) (c3 % 18446744073709551616)) (c4 % 18446744073709551616)) (c5 % 18446744073709551616)) (c6 % 18446744073709551616)) (c7 % 18446744073709551616))))) (by intro f as h; cases h) (fun K => w_bin (fun K => xor_u64 (fnvS (fnvS (fnvS (fnvS (fnvS (fnvS (fnvS u (c0 % 18446744073709551616)) (c1 % 18446744073709551616)) (c2 % 18446744073709551616)) (c3 % 18446744073709551616)) (c4 % 18446744073709551616)) (c5 % 18446744073709551616)) (c6 % 18446744073709551616)) (c7 % 18446744073709551616) _ _ K) K) _).trans ?_)
  refine (runOps_cons ..).trans ((stepE (v := (.int .u64 (.ofNat (fnvS (fnvS (fnvS (fnvS (fnvS (fnvS (fnvS (fnvS u (c0 % 18446744073709551616)) (c1 % 18446744073709551616)) (c2 % 18446744073709551616)) (c3 % 18446744073709551616)) (c4 % 18446744073709551616)) (c5 % 18446744073709551616)) (c6 % 18446744073709551616)) (c7 % 18446744073709551616))))) (by intro f as h; cases h) (fun K => w_bin (fun K => mul_u64 (fnvX (fnvS (fnvS (fnvS (fnvS (fnvS (fnvS (fnvS u (c0 % 18446744073709551616)) (c1 % 18446744073709551616)) (c2 % 18446744073709551616)) (c3 % 18446744073709551616)) (c4 % 18446744073709551616)) (c5 % 18446744073709551616)) (c6 % 18446744073709551616)) (c7 % 18446744073709551616)) 1099511628211 _ _ K) K) _).trans ?_)
  refine (runOps_cons ..).trans ((step_mv ..).trans ?_)
  refine (runOps_nil ..).trans ?_
  refine (den_reg ..).trans ?_
  refine (runOps_cons ..).trans ((stepE (v := (.int .i64 (.ofNat 8))) (by intro f as h; cases h) (fun K => w_lit (v := (.int .i64 (.ofNat 8))) (by intro K; rfl) K) _).trans ?_)
  refine (runOps_cons ..).trans ((step_mv ..).trans ?_)
  refine (runOps_nil ..).trans ?_
  refine (iter_succ ..).trans ?_
  refine (den_seq ..).trans ?_
  refine (den_reg ..).trans ?_
  refine (runOps_cons ..).trans ((stepE (v := (.bool false)) (by intro f as h; cases h) (fun K => w_lit (v := (.bool false)) (by intro K; rfl) K) _).trans ?_)
  refine (runOps_nil ..).trans ?_
  refine (den_seq ..).trans ?_
  refine (den_condF rfl).trans ?_
  refine (den_exit ..).trans ?_
  refine (cond_beq ..).trans ?_
  refine (den_seq ..).trans ?_
  refine (den_reg ..).trans ?_
  refine (runOps_cons ..).trans ((step_mv ..).trans ?_)
  refine (runOps_cons ..).trans ((step_mv ..).trans ?_)
  refine (runOps_nil ..).trans ?_
  refine (den_ret ..).trans ?_
  exact fin_tmp (by rfl) (by rfl) k

def fnvLong (u x : Nat) : Nat := fnvS (fnvS (fnvS (fnvS (fnvS (fnvS (fnvS (fnvS u (((((((((x / 256) / 256) / 256) / 256) / 256) / 256) / 256) % 256) % 18446744073709551616)) ((((((((x / 256) / 256) / 256) / 256) / 256) / 256) % 256) % 18446744073709551616)) (((((((x / 256) / 256) / 256) / 256) / 256) % 256) % 18446744073709551616)) ((((((x / 256) / 256) / 256) / 256) % 256) % 18446744073709551616)) (((((x / 256) / 256) / 256) % 256) % 18446744073709551616)) ((((x / 256) / 256) % 256) % 18446744073709551616)) (((x / 256) % 256) % 18446744073709551616)) ((x % 256) % 18446744073709551616)
def irOf (gOnS gOn gLong : Nat) : FnIR := ⟨22, [.tmp 2], (.seq (.reg [⟨some 2, .mv (.cst (.int .u64 0)), none⟩]) (.seq (.reg [⟨some 3, .mv (.cst (.int .u64 14695981039346656037)), none⟩]) (.seq (.seq (.reg [⟨some 6, .mv (.tmp 0), none⟩, ⟨some 7, .len 1 (.tmp 6), none⟩, ⟨some 8, .mv (.cst (.int .i64 0)), none⟩]) (.block 0 (.loop (.seq (.reg [⟨some 9, .bin .lss 0 (.tmp 8) (.tmp 7), none⟩]) (.seq (.cond (.tmp 9) .skip (.exit 0)) (.seq (.block 1 (.seq (.reg [⟨some 10, .ixs 1 (.tmp 6) (.tmp 8), none⟩, ⟨some 11, .ld1 (.tmp 10), none⟩, ⟨some 5, .mv (.tmp 11), none⟩]) (.reg [⟨some 12, .mv (.tmp 3), none⟩, ⟨some 13, .mv (.tmp 5), none⟩, ⟨some 14, .len 0 (.tmp 13), none⟩, ⟨some 15, .cvi .u64 (.tmp 14), none⟩, ⟨some 16, .call (.cst (.fn (.fn (.func gLong)) [] [])) [(.tmp 15)], none⟩, ⟨some 17, .call (.cst (.fn (.fn (.func gOn)) [] [])) [(.tmp 12), (.tmp 16)], none⟩, ⟨some 18, .mv (.tmp 5), none⟩, ⟨some 19, .call (.cst (.fn (.fn (.func gOnS)) [] [])) [(.tmp 17), (.tmp 18)], none⟩, ⟨some 3, .mv (.tmp 19), none⟩]))) (.reg [⟨some 20, .bin .add 0 (.tmp 8) (.cst (.int .i64 1)), none⟩, ⟨some 8, .mv (.tmp 20), none⟩]))))))) (.seq (.reg [⟨some 21, .mv (.tmp 3), none⟩, ⟨some 2, .mv (.tmp 21), none⟩]) .ret))))⟩
theorem of_does {tbl : Nat → Option FT} {N f : Nat} {gOf gOn gOnS gLong : Nat} (hOf : tbl gOf = some (.code (irOf gOnS gOn gLong))) (hO : tbl gOn = some (.code irOnB)) (hS : tbl gOnS = some (.sum sumOn)) (hL : tbl gLong = some (.code irLong)) {b : Nat} {a : Rp AV} {st ro : Bool} {w s : List Nat} (hw : w.length ≤ 9223372036854775807) (hs : s.length ≤ 9223372036854775807) (hv0 : a.get 0 = some (.str w)) (hv1 : a.get 1 = some (.str s)) (H : AH) (hg : H.get b = some (.cells a st ro)) (hb : b < H.n) : ∃ H' : AH, Ext H H' ∧ Does (RUN tbl (N + 20) (f + 1 + 1)) gOf [(.slc b 0 2 2)] H (.int .u64 (.ofNat (List.foldl fnvS (fnvLong (List.foldl fnvS (fnvLong 14695981039346656037 ((w.length) % 18446744073709551616)) w) ((s.length) % 18446744073709551616)) s))) H' := by
  obtain ⟨h1, b2, e3, g4, r5, l6, d7⟩ := long_does (tbl := tbl) (N := N) (f := f) hL ((w.length) % 18446744073709551616) (H)
  have g8 := e3.get hg hb
  have l9 := e3.lt hb
  have d10 : Does (RUN tbl (N + 20) (f + 1)) gOn [.int .u64 (.ofNat 14695981039346656037), (.slc b2 0 8 8)] (h1) (.int .u64 (.ofNat (fnvLong 14695981039346656037 ((w.length) % 18446744073709551616)))) (h1) := onB_does (tbl := tbl) (N := N) (f := f) hO 14695981039346656037 (((((((((((w.length) % 18446744073709551616)) / 256) / 256) / 256) / 256) / 256) / 256) / 256) % 256) ((((((((((w.length) % 18446744073709551616)) / 256) / 256) / 256) / 256) / 256) / 256) % 256) (((((((((w.length) % 18446744073709551616)) / 256) / 256) / 256) / 256) / 256) % 256) ((((((((w.length) % 18446744073709551616)) / 256) / 256) / 256) / 256) % 256) (((((((w.length) % 18446744073709551616)) / 256) / 256) / 256) % 256) ((((((w.length) % 18446744073709551616)) / 256) / 256) % 256) (((((w.length) % 18446744073709551616)) / 256) % 256) ((((w.length) % 18446744073709551616)) % 256) ⟨by rfl, by rfl, by rfl, by rfl, by rfl, by rfl, by rfl, by rfl⟩ (h1) g4
  have d11 := on_does (tbl := tbl) (N := N + 20) (f := f) hS (s := w) (u := (fnvLong 14695981039346656037 ((w.length) % 18446744073709551616))) hw (h1)
  obtain ⟨h12, b13, e14, g15, r16, l17, d18⟩ := long_does (tbl := tbl) (N := N) (f := f) hL ((s.length) % 18446744073709551616) (h1)
  have g19 := e14.get g8 l9
  have l20 := e14.lt l9
  have g21 := e14.get g4 l6
  have l22 := e14.lt l6
  have d23 : Does (RUN tbl (N + 20) (f + 1)) gOn [.int .u64 (.ofNat (List.foldl fnvS (fnvLong 14695981039346656037 ((w.length) % 18446744073709551616)) w)), (.slc b13 0 8 8)] (h12) (.int .u64 (.ofNat (fnvLong (List.foldl fnvS (fnvLong 14695981039346656037 ((w.length) % 18446744073709551616)) w) ((s.length) % 18446744073709551616)))) (h12) := onB_does (tbl := tbl) (N := N) (f := f) hO (List.foldl fnvS (fnvLong 14695981039346656037 ((w.length) % 18446744073709551616)) w) (((((((((((s.length) % 18446744073709551616)) / 256) / 256) / 256) / 256) / 256) / 256) / 256) % 256) ((((((((((s.length) % 18446744073709551616)) / 256) / 256) / 256) / 256) / 256) / 256) % 256) (((((((((s.length) % 18446744073709551616)) / 256) / 256) / 256) / 256) / 256) % 256) ((((((((s.length) % 18446744073709551616)) / 256) / 256) / 256) / 256) % 256) (((((((s.length) % 18446744073709551616)) / 256) / 256) / 256) % 256) ((((((s.length) % 18446744073709551616)) / 256) / 256) % 256) (((((s.length) % 18446744073709551616)) / 256) % 256) ((((s.length) % 18446744073709551616)) % 256) ⟨by rfl, by rfl, by rfl, by rfl, by rfl, by rfl, by rfl, by rfl⟩ (h12) g15
  have d24 := on_does (tbl := tbl) (N := N + 20) (f := f) hS (s := s) (u := (fnvLong (List.foldl fnvS (fnvLong 14695981039346656037 ((w.length) % 18446744073709551616)) w) ((s.length) % 18446744073709551616))) hs (h12)
  refine ⟨h12, (((Ext.refl H).trans e3).trans e14), Does.of hOf fun k => ?_⟩
  show den _ _ none (irOf gOnS gOn gLong).body [(.slc b 0 2 2), .tup [], .tup [], .tup [], .tup [], .tup [], .tup [], .tup [], .tup [], .tup [], .tup [], .tup [], .tup [], .tup [], .tup [], .tup [], .tup [], .tup [], .tup [], .tup [], .tup [], .tup []] [] H (finK (irOf gOnS gOn gLong) k) = _
  unfold irOf
  refine (den_seq ..).trans ?_
  refine (den_reg ..).trans ?_
  refine (runOps_cons ..).trans ((step_mv ..).trans ?_)
  refine (runOps_nil ..).trans ?_
  refine (den_seq ..).trans ?_
  refine (den_reg ..).trans ?_
  refine (runOps_cons ..).trans ((step_mv ..).trans ?_)
  refine (runOps_nil ..).trans ?_
  refine (den_seq ..).trans ?_
  refine (den_seq ..).trans ?_
  refine (den_reg ..).trans ?_
  refine (runOps_cons ..).trans ((step_mv ..).trans ?_)
  refine (runOps_cons ..).trans ((stepE (v := (.int .i64 (.ofNat 2))) (by intro f as h; cases h) (fun K => len_slc (by rfl) K) _).trans ?_)
  refine (runOps_cons ..).trans ((step_mv ..).trans ?_)
  refine (runOps_nil ..).trans ?_
  refine (den_block ..).trans ?_
  refine (den_loop' ..).trans ?_
  refine (iter_succ ..).trans ?_
  refine (den_seq ..).trans ?_
  refine (den_reg ..).trans ?_
  refine (runOps_cons ..).trans ((stepE (v := (.bool true)) (by intro f as h; cases h) (fun K => w_lit (v := (.bool true)) (by intro K; rfl) K) _).trans ?_)
  refine (runOps_nil ..).trans ?_
  refine (den_seq ..).trans ?_
  refine (den_condT rfl).trans ?_
  refine (den_skip ..).trans ?_
  refine (den_seq ..).trans ?_
  refine (den_block ..).trans ?_
  refine (den_seq ..).trans ?_
  refine (den_reg ..).trans ?_
  refine (runOps_cons ..).trans ((stepE (v := (.ptr b 0)) (by intro f as h; cases h) (fun K => w_ixs (b := b) (o := 0) (n := 0) (r := 0) (by rfl) (by rfl) (by omega) (by rfl) K) _).trans ?_)
  refine (runOps_cons ..).trans ((stepE (v := (.str w)) (by intro f as h; cases h) (fun K => w_ld1 (by rfl) hg hv0 K) _).trans ?_)
  refine (runOps_cons ..).trans ((step_mv ..).trans ?_)
  refine (runOps_nil ..).trans ?_
  refine (den_reg ..).trans ?_
  refine (runOps_cons ..).trans ((step_mv ..).trans ?_)
  refine (runOps_cons ..).trans ((step_mv ..).trans ?_)
  refine (runOps_cons ..).trans ((stepE (v := (.int .i64 (.ofNat (w.length)))) (by intro f as h; cases h) (fun K => w_lens (s := w) (n := (w.length)) (by rfl) (by rfl) K) _).trans ?_)
  refine (runOps_cons ..).trans ((stepE (v := (.int .u64 (.ofNat ((w.length) % 18446744073709551616)))) (by intro f as h; cases h) (fun K => w_cvi (r := ((w.length) % 18446744073709551616)) (by rfl) (by rfl) K) _).trans ?_)
  refine (runOps_cons ..).trans ((w_call d7 rfl rfl _).trans ?_)
  refine (runOps_cons ..).trans ((w_call d10 rfl rfl _).trans ?_)
  refine (runOps_cons ..).trans ((step_mv ..).trans ?_)
  refine (runOps_cons ..).trans ((w_call d11 rfl rfl _).trans ?_)
  refine (runOps_cons ..).trans ((step_mv ..).trans ?_)
  refine (runOps_nil ..).trans ?_
  refine (den_reg ..).trans ?_
  refine (runOps_cons ..).trans ((stepE (v := (.int .i64 (.ofNat 1))) (by intro f as h; cases h) (fun K => w_lit (v := (.int .i64 (.ofNat 1))) (by intro K; rfl) K) _).trans ?_)
  refine (runOps_cons ..).trans ((step_mv ..).trans ?_)
  refine (runOps_nil ..).trans ?_
  refine (iter_succ ..).trans ?_
  refine (den_seq ..).trans ?_
  refine (den_reg ..).trans ?_
  refine (runOps_cons ..).trans ((stepE (v := (.bool true)) (by intro f as h; cases h) (fun K => w_lit (v := (.bool true)) (by intro K; rfl) K) _).trans ?_)
  refine (runOps_nil ..).trans ?_
  refine (den_seq ..).trans ?_
  refine (den_condT rfl).trans ?_
  refine (den_skip ..).trans ?_
  refine (den_seq ..).trans ?_
  refine (den_block ..).trans ?_
  refine (den_seq ..).trans ?_
  refine (den_reg ..).trans ?_
  refine (runOps_cons ..).trans ((stepE (v := (.ptr b 1)) (by intro f as h; cases h) (fun K => w_ixs (b := b) (o := 0) (n := 1) (r := 1) (by rfl) (by rfl) (by omega) (by rfl) K) _).trans ?_)
  refine (runOps_cons ..).trans ((stepE (v := (.str s)) (by intro f as h; cases h) (fun K => w_ld1 (by rfl) g8 hv1 K) _).trans ?_)
  refine (runOps_cons ..).trans ((step_mv ..).trans ?_)
  refine (runOps_nil ..).trans ?_
  refine (den_reg ..).trans ?_
  refine (runOps_cons ..).trans ((step_mv ..).trans ?_)
  refine (runOps_cons ..).trans ((step_mv ..).trans ?_)
  refine (runOps_cons ..).trans ((stepE (v := (.int .i64 (.ofNat (s.length)))) (by intro f as h; cases h) (fun K => w_lens (s := s) (n := (s.length)) (by rfl) (by rfl) K) _).trans ?_)
  refine (runOps_cons ..).trans ((stepE (v := (.int .u64 (.ofNat ((s.length) % 18446744073709551616)))) (by intro f as h; cases h) (fun K => w_cvi (r := ((s.length) % 18446744073709551616)) (by rfl) (by rfl) K) _).trans ?_)
  refine (runOps_cons ..).trans ((w_call d18 rfl rfl _).trans ?_)
  refine (runOps_cons ..).trans ((w_call d23 rfl rfl _).trans ?_)
  refine (runOps_cons ..).trans ((step_mv ..).trans ?_)
  refine (runOps_cons ..).trans ((w_call d24 rfl rfl _).trans ?_)
  refine (runOps_cons ..).trans ((step_mv ..).trans ?_)
  refine (runOps_nil ..).trans ?_
  refine (den_reg ..).trans ?_
  refine (runOps_cons ..).trans ((stepE (v := (.int .i64 (.ofNat 2))) (by intro f as h; cases h) (fun K => w_lit (v := (.int .i64 (.ofNat 2))) (by intro K; rfl) K) _).trans ?_)
  refine (runOps_cons ..).trans ((step_mv ..).trans ?_)
  refine (runOps_nil ..).trans ?_
  refine (iter_succ ..).trans ?_
  refine (den_seq ..).trans ?_
  refine (den_reg ..).trans ?_
  refine (runOps_cons ..).trans ((stepE (v := (.bool false)) (by intro f as h; cases h) (fun K => w_lit (v := (.bool false)) (by intro K; rfl) K) _).trans ?_)
  refine (runOps_nil ..).trans ?_
  refine (den_seq ..).trans ?_
  refine (den_condF rfl).trans ?_
  refine (den_exit ..).trans ?_
  refine (cond_beq ..).trans ?_
  refine (den_seq ..).trans ?_
  refine (den_reg ..).trans ?_
  refine (runOps_cons ..).trans ((step_mv ..).trans ?_)
  refine (runOps_cons ..).trans ((step_mv ..).trans ?_)
  refine (runOps_nil ..).trans ?_
  refine (den_ret ..).trans ?_
  exact fin_tmp (by rfl) (by rfl) k

def irRLong : FnIR := ⟨22, [.tmp 2], (.seq (.reg [⟨some 2, .mv (.cst (.str [])), none⟩]) (.seq (.reg [⟨some 5, .mks 1 1 (.one (.int .u8 0)) (.cst (.int .i64 8)) (.cst (.int .i64 8)), none⟩, ⟨some 3, .mv (.tmp 5), none⟩]) (.seq (.seq (.reg [⟨some 4, .mv (.cst (.int .i64 0)), none⟩]) (.block 0 (.loop (.seq (.seq (.reg [⟨some 6, .mv (.tmp 4), none⟩, ⟨some 7, .bin .lss 0 (.tmp 6) (.cst (.int .i64 8)), none⟩]) (.cond (.tmp 7) .skip (.exit 0))) (.seq (.block 1 (.reg [⟨some 10, .mv (.tmp 3), none⟩, ⟨some 11, .mv (.tmp 4), none⟩, ⟨some 12, .mv (.tmp 0), none⟩, ⟨some 13, .mv (.tmp 4), none⟩, ⟨some 14, .cvi .u64 (.tmp 13), none⟩, ⟨some 15, .bin .mul 0 (.cst (.int .u64 8)) (.tmp 14), none⟩, ⟨some 16, .bin .sub 0 (.cst (.int .u64 56)) (.tmp 15), none⟩, ⟨some 17, .bin .shr 0 (.tmp 12) (.tmp 16), none⟩, ⟨some 18, .cvi .u8 (.tmp 17), none⟩, ⟨some 19, .ixs 1 (.tmp 10) (.tmp 11), none⟩, ⟨none, .st 1 (.tmp 19) (.tmp 18), none⟩])) (.reg [⟨some 8, .mv (.tmp 4), none⟩, ⟨some 9, .bin .add 0 (.tmp 8) (.cst (.int .i64 1)), none⟩, ⟨some 4, .mv (.tmp 9), none⟩])))))) (.seq (.reg [⟨some 20, .mv (.tmp 3), none⟩, ⟨some 21, .b2s (.tmp 20), none⟩, ⟨some 2, .mv (.tmp 21), none⟩]) .ret))))⟩
def irFour : FnIR := ⟨31, [.tmp 4], (.seq (.reg [⟨some 4, .mv (.cst .nils), none⟩]) (.seq (.reg [⟨some 9, .bsl 0 (.rep 0 (.int .u8 0)) [], none⟩, ⟨some 10, .mv (.tmp 0), none⟩, ⟨some 11, .app 1 1 (.one (.int .u8 0)) false (.tmp 9) (.tmp 10), none⟩, ⟨some 5, .mv (.tmp 11), none⟩]) (.seq (.seq (.reg [⟨some 6, .mv (.cst (.int .i64 3)), none⟩]) (.block 0 (.loop (.seq (.seq (.reg [⟨some 12, .mv (.tmp 6), none⟩, ⟨some 13, .bin .geq 0 (.tmp 12) (.cst (.int .i64 0)), none⟩]) (.cond (.tmp 13) .skip (.exit 0))) (.seq (.block 1 (.seq (.reg [⟨some 16, .mv (.tmp 1), none⟩, ⟨some 7, .mv (.tmp 16), none⟩]) (.seq (.seq (.reg [⟨some 8, .mv (.cst (.int .i64 0)), none⟩]) (.block 2 (.loop (.seq (.seq (.reg [⟨some 17, .mv (.tmp 8), none⟩, ⟨some 18, .mv (.tmp 6), none⟩, ⟨some 19, .bin .lss 0 (.tmp 17) (.tmp 18), none⟩]) (.cond (.tmp 19) .skip (.exit 2))) (.seq (.block 3 (.reg [⟨some 22, .mv (.tmp 7), none⟩, ⟨some 23, .bin .quo 0 (.tmp 22) (.cst (.int .u32 256)), none⟩, ⟨some 7, .mv (.tmp 23), none⟩])) (.reg [⟨some 20, .mv (.tmp 8), none⟩, ⟨some 21, .bin .add 0 (.tmp 20) (.cst (.int .i64 1)), none⟩, ⟨some 8, .mv (.tmp 21), none⟩])))))) (.reg [⟨some 24, .mv (.tmp 5), none⟩, ⟨some 25, .mv (.tmp 7), none⟩, ⟨some 26, .bin .rem 0 (.tmp 25) (.cst (.int .u32 256)), none⟩, ⟨some 27, .cvi .u8 (.tmp 26), none⟩, ⟨some 28, .bsl 1 (.rep 1 (.int .u8 0)) [(0, 1, (.tmp 27))], none⟩, ⟨some 29, .app 1 1 (.one (.int .u8 0)) false (.tmp 24) (.tmp 28), none⟩, ⟨some 5, .mv (.tmp 29), none⟩])))) (.reg [⟨some 14, .mv (.tmp 6), none⟩, ⟨some 15, .bin .sub 0 (.tmp 14) (.cst (.int .i64 1)), none⟩, ⟨some 6, .mv (.tmp 15), none⟩])))))) (.seq (.reg [⟨some 30, .mv (.tmp 5), none⟩, ⟨some 4, .mv (.tmp 30), none⟩]) .ret))))⟩
def irFourS (gFour : Nat) : FnIR := ⟨7, [.tmp 2], (.seq (.reg [⟨some 2, .mv (.cst (.str [])), none⟩]) (.seq (.reg [⟨some 3, .mv (.tmp 0), none⟩, ⟨some 4, .cvi .u32 (.tmp 3), none⟩, ⟨some 5, .call (.cst (.fn (.fn (.func gFour)) [] [])) [(.cst .nils), (.tmp 4)], none⟩, ⟨some 6, .b2s (.tmp 5), none⟩, ⟨some 2, .mv (.tmp 6), none⟩]) .ret))⟩
def irStep : FnIR := ⟨10, [.tmp 4], (.seq (.reg [⟨some 4, .mv (.cst (.int .u64 0)), none⟩]) (.seq (.reg [⟨some 5, .mv (.tmp 0), none⟩, ⟨some 6, .mv (.tmp 1), none⟩, ⟨some 7, .cvi .u64 (.tmp 6), none⟩, ⟨some 8, .bin .xor 0 (.tmp 5) (.tmp 7), none⟩, ⟨some 9, .bin .mul 0 (.tmp 8) (.cst (.int .u64 1099511628211)), none⟩, ⟨some 4, .mv (.tmp 9), none⟩]) .ret))⟩
theorem rlong_does {tbl : Nat → Option FT} {N f : Nat} {gRLong : Nat} (hRL : tbl gRLong = some (.code irRLong)) (x : Nat) (H : AH) : ∃ H' : AH, Ext H H' ∧ Does (RUN tbl (N + 20) (f + 1)) gRLong [(.int .u64 (.ofNat x))] H (.str [(x / 72057594037927936) % 256, (x / 281474976710656) % 256, (x / 1099511627776) % 256, (x / 4294967296) % 256, (x / 16777216) % 256, (x / 65536) % 256, (x / 256) % 256, (x / 1) % 256]) H' := by
  have g1 := get_new_here (H) (.cells (.rep 8 (.int .u8 (.ofNat 0))) false false)
  have l2 := Nat.lt_succ_self (H).n
  have g3 := get_set_here (H := (H).new (.cells (.rep 8 (.int .u8 (.ofNat 0))) false false)) (H).n (.cells (Rp.set (.rep 8 (.int .u8 (.ofNat 0))) 0 (.int .u8 (.ofNat ((x / 72057594037927936) % 256)))) false false)
  have g4 := get_set_here (H := ((H).new (.cells (.rep 8 (.int .u8 (.ofNat 0))) false false)).set (H).n (.cells (Rp.set (.rep 8 (.int .u8 (.ofNat 0))) 0 (.int .u8 (.ofNat ((x / 72057594037927936) % 256)))) false false)) (H).n (.cells (Rp.set (Rp.set (.rep 8 (.int .u8 (.ofNat 0))) 0 (.int .u8 (.ofNat ((x / 72057594037927936) % 256)))) 1 (.int .u8 (.ofNat ((x / 281474976710656) % 256)))) false false)
  have g5 := get_set_here (H := (((H).new (.cells (.rep 8 (.int .u8 (.ofNat 0))) false false)).set (H).n (.cells (Rp.set (.rep 8 (.int .u8 (.ofNat 0))) 0 (.int .u8 (.ofNat ((x / 72057594037927936) % 256)))) false false)).set (H).n (.cells (Rp.set (Rp.set (.rep 8 (.int .u8 (.ofNat 0))) 0 (.int .u8 (.ofNat ((x / 72057594037927936) % 256)))) 1 (.int .u8 (.ofNat ((x / 281474976710656) % 256)))) false false)) (H).n (.cells (Rp.set (Rp.set (Rp.set (.rep 8 (.int .u8 (.ofNat 0))) 0 (.int .u8 (.ofNat ((x / 72057594037927936) % 256)))) 1 (.int .u8 (.ofNat ((x / 281474976710656) % 256)))) 2 (.int .u8 (.ofNat ((x / 1099511627776) % 256)))) false false)
  have g6 := get_set_here (H := ((((H).new (.cells (.rep 8 (.int .u8 (.ofNat 0))) false false)).set (H).n (.cells (Rp.set (.rep 8 (.int .u8 (.ofNat 0))) 0 (.int .u8 (.ofNat ((x / 72057594037927936) % 256)))) false false)).set (H).n (.cells (Rp.set (Rp.set (.rep 8 (.int .u8 (.ofNat 0))) 0 (.int .u8 (.ofNat ((x / 72057594037927936) % 256)))) 1 (.int .u8 (.ofNat ((x / 281474976710656) % 256)))) false false)).set (H).n (.cells (Rp.set (Rp.set (Rp.set (.rep 8 (.int .u8 (.ofNat 0))) 0 (.int .u8 (.ofNat ((x / 72057594037927936) % 256)))) 1 (.int .u8 (.ofNat ((x / 281474976710656) % 256)))) 2 (.int .u8 (.ofNat ((x / 1099511627776) % 256)))) false false)) (H).n (.cells (Rp.set (Rp.set (Rp.set (Rp.set (.rep 8 (.int .u8 (.ofNat 0))) 0 (.int .u8 (.ofNat ((x / 72057594037927936) % 256)))) 1 (.int .u8 (.ofNat ((x / 281474976710656) % 256)))) 2 (.int .u8 (.ofNat ((x / 1099511627776) % 256)))) 3 (.int .u8 (.ofNat ((x / 4294967296) % 256)))) false false)
  have g7 := get_set_here (H := (((((H).new (.cells (.rep 8 (.int .u8 (.ofNat 0))) false false)).set (H).n (.cells (Rp.set (.rep 8 (.int .u8 (.ofNat 0))) 0 (.int .u8 (.ofNat ((x / 72057594037927936) % 256)))) false false)).set (H).n (.cells (Rp.set (Rp.set (.rep 8 (.int .u8 (.ofNat 0))) 0 (.int .u8 (.ofNat ((x / 72057594037927936) % 256)))) 1 (.int .u8 (.ofNat ((x / 281474976710656) % 256)))) false false)).set (H).n (.cells (Rp.set (Rp.set (Rp.set (.rep 8 (.int .u8 (.ofNat 0))) 0 (.int .u8 (.ofNat ((x / 72057594037927936) % 256)))) 1 (.int .u8 (.ofNat ((x / 281474976710656) % 256)))) 2 (.int .u8 (.ofNat ((x / 1099511627776) % 256)))) false false)).set (H).n (.cells (Rp.set (Rp.set (Rp.set (Rp.set (.rep 8 (.int .u8 (.ofNat 0))) 0 (.int .u8 (.ofNat ((x / 72057594037927936) % 256)))) 1 (.int .u8 (.ofNat ((x / 281474976710656) % 256)))) 2 (.int .u8 (.ofNat ((x / 1099511627776) % 256)))) 3 (.int .u8 (.ofNat ((x / 4294967296) % 256)))) false false)) (H).n (.cells (Rp.set (Rp.set (Rp.set (Rp.set (Rp.set (.rep 8 (.int .u8 (.ofNat 0))) 0 (.int .u8 (.ofNat ((x / 72057594037927936) % 256)))) 1 (.int .u8 (.ofNat ((x / 281474976710656) % 256)))) 2 (.int .u8 (.ofNat ((x / 1099511627776) % 256)))) 3 (.int .u8 (.ofNat ((x / 4294967296) % 256)))) 4 (.int .u8 (.ofNat ((x / 16777216) % 256)))) false false)
  have g8 := get_set_here (H := ((((((H).new (.cells (.rep 8 (.int .u8 (.ofNat 0))) false false)).set (H).n (.cells (Rp.set (.rep 8 (.int .u8 (.ofNat 0))) 0 (.int .u8 (.ofNat ((x / 72057594037927936) % 256)))) false false)).set (H).n (.cells (Rp.set (Rp.set (.rep 8 (.int .u8 (.ofNat 0))) 0 (.int .u8 (.ofNat ((x / 72057594037927936) % 256)))) 1 (.int .u8 (.ofNat ((x / 281474976710656) % 256)))) false false)).set (H).n (.cells (Rp.set (Rp.set (Rp.set (.rep 8 (.int .u8 (.ofNat 0))) 0 (.int .u8 (.ofNat ((x / 72057594037927936) % 256)))) 1 (.int .u8 (.ofNat ((x / 281474976710656) % 256)))) 2 (.int .u8 (.ofNat ((x / 1099511627776) % 256)))) false false)).set (H).n (.cells (Rp.set (Rp.set (Rp.set (Rp.set (.rep 8 (.int .u8 (.ofNat 0))) 0 (.int .u8 (.ofNat ((x / 72057594037927936) % 256)))) 1 (.int .u8 (.ofNat ((x / 281474976710656) % 256)))) 2 (.int .u8 (.ofNat ((x / 1099511627776) % 256)))) 3 (.int .u8 (.ofNat ((x / 4294967296) % 256)))) false false)).set (H).n (.cells (Rp.set (Rp.set (Rp.set (Rp.set (Rp.set (.rep 8 (.int .u8 (.ofNat 0))) 0 (.int .u8 (.ofNat ((x / 72057594037927936) % 256)))) 1 (.int .u8 (.ofNat ((x / 281474976710656) % 256)))) 2 (.int .u8 (.ofNat ((x / 1099511627776) % 256)))) 3 (.int .u8 (.ofNat ((x / 4294967296) % 256)))) 4 (.int .u8 (.ofNat ((x / 16777216) % 256)))) false false)) (H).n (.cells (Rp.set (Rp.set (Rp.set (Rp.set (Rp.set (Rp.set (.rep 8 (.int .u8 (.ofNat 0))) 0 (.int .u8 (.ofNat ((x / 72057594037927936) % 256)))) 1 (.int .u8 (.ofNat ((x / 281474976710656) % 256)))) 2 (.int .u8 (.ofNat ((x / 1099511627776) % 256)))) 3 (.int .u8 (.ofNat ((x / 4294967296) % 256)))) 4 (.int .u8 (.ofNat ((x / 16777216) % 256)))) 5 (.int .u8 (.ofNat ((x / 65536) % 256)))) false false)
  have g9 := get_set_here (H := (((((((H).new (.cells (.rep 8 (.int .u8 (.ofNat 0))) false false)).set (H).n (.cells (Rp.set (.rep 8 (.int .u8 (.ofNat 0))) 0 (.int .u8 (.ofNat ((x / 72057594037927936) % 256)))) false false)).set (H).n (.cells (Rp.set (Rp.set (.rep 8 (.int .u8 (.ofNat 0))) 0 (.int .u8 (.ofNat ((x / 72057594037927936) % 256)))) 1 (.int .u8 (.ofNat ((x / 281474976710656) % 256)))) false false)).set (H).n (.cells (Rp.set (Rp.set (Rp.set (.rep 8 (.int .u8 (.ofNat 0))) 0 (.int .u8 (.ofNat ((x / 72057594037927936) % 256)))) 1 (.int .u8 (.ofNat ((x / 281474976710656) % 256)))) 2 (.int .u8 (.ofNat ((x / 1099511627776) % 256)))) false false)).set (H).n (.cells (Rp.set (Rp.set (Rp.set (Rp.set (.rep 8 (.int .u8 (.ofNat 0))) 0 (.int .u8 (.ofNat ((x / 72057594037927936) % 256)))) 1 (.int .u8 (.ofNat ((x / 281474976710656) % 256)))) 2 (.int .u8 (.ofNat ((x / 1099511627776) % 256)))) 3 (.int .u8 (.ofNat ((x / 4294967296) % 256)))) false false)).set (H).n (.cells (Rp.set (Rp.set (Rp.set (Rp.set (Rp.set (.rep 8 (.int .u8 (.ofNat 0))) 0 (.int .u8 (.ofNat ((x / 72057594037927936) % 256)))) 1 (.int .u8 (.ofNat ((x / 281474976710656) % 256)))) 2 (.int .u8 (.ofNat ((x / 1099511627776) % 256)))) 3 (.int .u8 (.ofNat ((x / 4294967296) % 256)))) 4 (.int .u8 (.ofNat ((x / 16777216) % 256)))) false false)).set (H).n (.cells (Rp.set (Rp.set (Rp.set (Rp.set (Rp.set (Rp.set (.rep 8 (.int .u8 (.ofNat 0))) 0 (.int .u8 (.ofNat ((x / 72057594037927936) % 256)))) 1 (.int .u8 (.ofNat ((x / 281474976710656) % 256)))) 2 (.int .u8 (.ofNat ((x / 1099511627776) % 256)))) 3 (.int .u8 (.ofNat ((x / 4294967296) % 256)))) 4 (.int .u8 (.ofNat ((x / 16777216) % 256)))) 5 (.int .u8 (.ofNat ((x / 65536) % 256)))) false false)) (H).n (.cells (Rp.set (Rp.set (Rp.set (Rp.set (Rp.set (Rp.set (Rp.set (.rep 8 (.int .u8 (.ofNat 0))) 0 (.int .u8 (.ofNat ((x / 72057594037927936) % 256)))) 1 (.int .u8 (.ofNat ((x / 281474976710656) % 256)))) 2 (.int .u8 (.ofNat ((x / 1099511627776) % 256)))) 3 (.int .u8 (.ofNat ((x / 4294967296) % 256)))) 4 (.int .u8 (.ofNat ((x / 16777216) % 256)))) 5 (.int .u8 (.ofNat ((x / 65536) % 256)))) 6 (.int .u8 (.ofNat ((x / 256) % 256)))) false false)
  have g10 := get_set_here (H := ((((((((H).new (.cells (.rep 8 (.int .u8 (.ofNat 0))) false false)).set (H).n (.cells (Rp.set (.rep 8 (.int .u8 (.ofNat 0))) 0 (.int .u8 (.ofNat ((x / 72057594037927936) % 256)))) false false)).set (H).n (.cells (Rp.set (Rp.set (.rep 8 (.int .u8 (.ofNat 0))) 0 (.int .u8 (.ofNat ((x / 72057594037927936) % 256)))) 1 (.int .u8 (.ofNat ((x / 281474976710656) % 256)))) false false)).set (H).n (.cells (Rp.set (Rp.set (Rp.set (.rep 8 (.int .u8 (.ofNat 0))) 0 (.int .u8 (.ofNat ((x / 72057594037927936) % 256)))) 1 (.int .u8 (.ofNat ((x / 281474976710656) % 256)))) 2 (.int .u8 (.ofNat ((x / 1099511627776) % 256)))) false false)).set (H).n (.cells (Rp.set (Rp.set (Rp.set (Rp.set (.rep 8 (.int .u8 (.ofNat 0))) 0 (.int .u8 (.ofNat ((x / 72057594037927936) % 256)))) 1 (.int .u8 (.ofNat ((x / 281474976710656) % 256)))) 2 (.int .u8 (.ofNat ((x / 1099511627776) % 256)))) 3 (.int .u8 (.ofNat ((x / 4294967296) % 256)))) false false)).set (H).n (.cells (Rp.set (Rp.set (Rp.set (Rp.set (Rp.set (.rep 8 (.int .u8 (.ofNat 0))) 0 (.int .u8 (.ofNat ((x / 72057594037927936) % 256)))) 1 (.int .u8 (.ofNat ((x / 281474976710656) % 256)))) 2 (.int .u8 (.ofNat ((x / 1099511627776) % 256)))) 3 (.int .u8 (.ofNat ((x / 4294967296) % 256)))) 4 (.int .u8 (.ofNat ((x / 16777216) % 256)))) false false)).set (H).n (.cells (Rp.set (Rp.set (Rp.set (Rp.set (Rp.set (Rp.set (.rep 8 (.int .u8 (.ofNat 0))) 0 (.int .u8 (.ofNat ((x / 72057594037927936) % 256)))) 1 (.int .u8 (.ofNat ((x / 281474976710656) % 256)))) 2 (.int .u8 (.ofNat ((x / 1099511627776) % 256)))) 3 (.int .u8 (.ofNat ((x / 4294967296) % 256)))) 4 (.int .u8 (.ofNat ((x / 16777216) % 256)))) 5 (.int .u8 (.ofNat ((x / 65536) % 256)))) false false)).set (H).n (.cells (Rp.set (Rp.set (Rp.set (Rp.set (Rp.set (Rp.set (Rp.set (.rep 8 (.int .u8 (.ofNat 0))) 0 (.int .u8 (.ofNat ((x / 72057594037927936) % 256)))) 1 (.int .u8 (.ofNat ((x / 281474976710656) % 256)))) 2 (.int .u8 (.ofNat ((x / 1099511627776) % 256)))) 3 (.int .u8 (.ofNat ((x / 4294967296) % 256)))) 4 (.int .u8 (.ofNat ((x / 16777216) % 256)))) 5 (.int .u8 (.ofNat ((x / 65536) % 256)))) 6 (.int .u8 (.ofNat ((x / 256) % 256)))) false false)) (H).n (.cells (Rp.set (Rp.set (Rp.set (Rp.set (Rp.set (Rp.set (Rp.set (Rp.set (.rep 8 (.int .u8 (.ofNat 0))) 0 (.int .u8 (.ofNat ((x / 72057594037927936) % 256)))) 1 (.int .u8 (.ofNat ((x / 281474976710656) % 256)))) 2 (.int .u8 (.ofNat ((x / 1099511627776) % 256)))) 3 (.int .u8 (.ofNat ((x / 4294967296) % 256)))) 4 (.int .u8 (.ofNat ((x / 16777216) % 256)))) 5 (.int .u8 (.ofNat ((x / 65536) % 256)))) 6 (.int .u8 (.ofNat ((x / 256) % 256)))) 7 (.int .u8 (.ofNat ((x / 1) % 256)))) false false)
  refine ⟨(((((((((H).new (.cells (.rep 8 (.int .u8 (.ofNat 0))) false false)).set (H).n (.cells (Rp.set (.rep 8 (.int .u8 (.ofNat 0))) 0 (.int .u8 (.ofNat ((x / 72057594037927936) % 256)))) false false)).set (H).n (.cells (Rp.set (Rp.set (.rep 8 (.int .u8 (.ofNat 0))) 0 (.int .u8 (.ofNat ((x / 72057594037927936) % 256)))) 1 (.int .u8 (.ofNat ((x / 281474976710656) % 256)))) false false)).set (H).n (.cells (Rp.set (Rp.set (Rp.set (.rep 8 (.int .u8 (.ofNat 0))) 0 (.int .u8 (.ofNat ((x / 72057594037927936) % 256)))) 1 (.int .u8 (.ofNat ((x / 281474976710656) % 256)))) 2 (.int .u8 (.ofNat ((x / 1099511627776) % 256)))) false false)).set (H).n (.cells (Rp.set (Rp.set (Rp.set (Rp.set (.rep 8 (.int .u8 (.ofNat 0))) 0 (.int .u8 (.ofNat ((x / 72057594037927936) % 256)))) 1 (.int .u8 (.ofNat ((x / 281474976710656) % 256)))) 2 (.int .u8 (.ofNat ((x / 1099511627776) % 256)))) 3 (.int .u8 (.ofNat ((x / 4294967296) % 256)))) false false)).set (H).n (.cells (Rp.set (Rp.set (Rp.set (Rp.set (Rp.set (.rep 8 (.int .u8 (.ofNat 0))) 0 (.int .u8 (.ofNat ((x / 72057594037927936) % 256)))) 1 (.int .u8 (.ofNat ((x / 281474976710656) % 256)))) 2 (.int .u8 (.ofNat ((x / 1099511627776) % 256)))) 3 (.int .u8 (.ofNat ((x / 4294967296) % 256)))) 4 (.int .u8 (.ofNat ((x / 16777216) % 256)))) false false)).set (H).n (.cells (Rp.set (Rp.set (Rp.set (Rp.set (Rp.set (Rp.set (.rep 8 (.int .u8 (.ofNat 0))) 0 (.int .u8 (.ofNat ((x / 72057594037927936) % 256)))) 1 (.int .u8 (.ofNat ((x / 281474976710656) % 256)))) 2 (.int .u8 (.ofNat ((x / 1099511627776) % 256)))) 3 (.int .u8 (.ofNat ((x / 4294967296) % 256)))) 4 (.int .u8 (.ofNat ((x / 16777216) % 256)))) 5 (.int .u8 (.ofNat ((x / 65536) % 256)))) false false)).set (H).n (.cells (Rp.set (Rp.set (Rp.set (Rp.set (Rp.set (Rp.set (Rp.set (.rep 8 (.int .u8 (.ofNat 0))) 0 (.int .u8 (.ofNat ((x / 72057594037927936) % 256)))) 1 (.int .u8 (.ofNat ((x / 281474976710656) % 256)))) 2 (.int .u8 (.ofNat ((x / 1099511627776) % 256)))) 3 (.int .u8 (.ofNat ((x / 4294967296) % 256)))) 4 (.int .u8 (.ofNat ((x / 16777216) % 256)))) 5 (.int .u8 (.ofNat ((x / 65536) % 256)))) 6 (.int .u8 (.ofNat ((x / 256) % 256)))) false false)).set (H).n (.cells (Rp.set (Rp.set (Rp.set (Rp.set (Rp.set (Rp.set (Rp.set (Rp.set (.rep 8 (.int .u8 (.ofNat 0))) 0 (.int .u8 (.ofNat ((x / 72057594037927936) % 256)))) 1 (.int .u8 (.ofNat ((x / 281474976710656) % 256)))) 2 (.int .u8 (.ofNat ((x / 1099511627776) % 256)))) 3 (.int .u8 (.ofNat ((x / 4294967296) % 256)))) 4 (.int .u8 (.ofNat ((x / 16777216) % 256)))) 5 (.int .u8 (.ofNat ((x / 65536) % 256)))) 6 (.int .u8 (.ofNat ((x / 256) % 256)))) 7 (.int .u8 (.ofNat ((x / 1) % 256)))) false false), ((((((((((Ext.refl H).new (.cells (.rep 8 (.int .u8 (.ofNat 0))) false false)).set _ (.cells (Rp.set (.rep 8 (.int .u8 (.ofNat 0))) 0 (.int .u8 (.ofNat ((x / 72057594037927936) % 256)))) false false) ((Ext.refl H)).1).set _ (.cells (Rp.set (Rp.set (.rep 8 (.int .u8 (.ofNat 0))) 0 (.int .u8 (.ofNat ((x / 72057594037927936) % 256)))) 1 (.int .u8 (.ofNat ((x / 281474976710656) % 256)))) false false) ((Ext.refl H)).1).set _ (.cells (Rp.set (Rp.set (Rp.set (.rep 8 (.int .u8 (.ofNat 0))) 0 (.int .u8 (.ofNat ((x / 72057594037927936) % 256)))) 1 (.int .u8 (.ofNat ((x / 281474976710656) % 256)))) 2 (.int .u8 (.ofNat ((x / 1099511627776) % 256)))) false false) ((Ext.refl H)).1).set _ (.cells (Rp.set (Rp.set (Rp.set (Rp.set (.rep 8 (.int .u8 (.ofNat 0))) 0 (.int .u8 (.ofNat ((x / 72057594037927936) % 256)))) 1 (.int .u8 (.ofNat ((x / 281474976710656) % 256)))) 2 (.int .u8 (.ofNat ((x / 1099511627776) % 256)))) 3 (.int .u8 (.ofNat ((x / 4294967296) % 256)))) false false) ((Ext.refl H)).1).set _ (.cells (Rp.set (Rp.set (Rp.set (Rp.set (Rp.set (.rep 8 (.int .u8 (.ofNat 0))) 0 (.int .u8 (.ofNat ((x / 72057594037927936) % 256)))) 1 (.int .u8 (.ofNat ((x / 281474976710656) % 256)))) 2 (.int .u8 (.ofNat ((x / 1099511627776) % 256)))) 3 (.int .u8 (.ofNat ((x / 4294967296) % 256)))) 4 (.int .u8 (.ofNat ((x / 16777216) % 256)))) false false) ((Ext.refl H)).1).set _ (.cells (Rp.set (Rp.set (Rp.set (Rp.set (Rp.set (Rp.set (.rep 8 (.int .u8 (.ofNat 0))) 0 (.int .u8 (.ofNat ((x / 72057594037927936) % 256)))) 1 (.int .u8 (.ofNat ((x / 281474976710656) % 256)))) 2 (.int .u8 (.ofNat ((x / 1099511627776) % 256)))) 3 (.int .u8 (.ofNat ((x / 4294967296) % 256)))) 4 (.int .u8 (.ofNat ((x / 16777216) % 256)))) 5 (.int .u8 (.ofNat ((x / 65536) % 256)))) false false) ((Ext.refl H)).1).set _ (.cells (Rp.set (Rp.set (Rp.set (Rp.set (Rp.set (Rp.set (Rp.set (.rep 8 (.int .u8 (.ofNat 0))) 0 (.int .u8 (.ofNat ((x / 72057594037927936) % 256)))) 1 (.int .u8 (.ofNat ((x / 281474976710656) % 256)))) 2 (.int .u8 (.ofNat ((x / 1099511627776) % 256)))) 3 (.int .u8 (.ofNat ((x / 4294967296) % 256)))) 4 (.int .u8 (.ofNat ((x / 16777216) % 256)))) 5 (.int .u8 (.ofNat ((x / 65536) % 256)))) 6 (.int .u8 (.ofNat ((x / 256) % 256)))) false false) ((Ext.refl H)).1).set _ (.cells (Rp.set (Rp.set (Rp.set (Rp.set (Rp.set (Rp.set (Rp.set (Rp.set (.rep 8 (.int .u8 (.ofNat 0))) 0 (.int .u8 (.ofNat ((x / 72057594037927936) % 256)))) 1 (.int .u8 (.ofNat ((x / 281474976710656) % 256)))) 2 (.int .u8 (.ofNat ((x / 1099511627776) % 256)))) 3 (.int .u8 (.ofNat ((x / 4294967296) % 256)))) 4 (.int .u8 (.ofNat ((x / 16777216) % 256)))) 5 (.int .u8 (.ofNat ((x / 65536) % 256)))) 6 (.int .u8 (.ofNat ((x / 256) % 256)))) 7 (.int .u8 (.ofNat ((x / 1) % 256)))) false false) ((Ext.refl H)).1), Does.of hRL fun k => ?_⟩
  show den _ _ none irRLong.body [(.int .u64 (.ofNat x)), .tup [], .tup [], .tup [], .tup [], .tup [], .tup [], .tup [], .tup [], .tup [], .tup [], .tup [], .tup [], .tup [], .tup [], .tup [], .tup [], .tup [], .tup [], .tup [], .tup [], .tup []] [] H (finK irRLong k) = _
  unfold irRLong
  refine (den_seq ..).trans ?_
  refine (den_reg ..).trans ?_
  refine (runOps_cons ..).trans ((step_mv ..).trans ?_)
  refine (runOps_nil ..).trans ?_
  refine (den_seq ..).trans ?_
  refine (den_reg ..).trans ?_
  refine (runOps_cons ..).trans ((stepE (v := (.slc (H).n 0 8 8)) (by intro f as h; cases h) (fun K => w_mks (by rfl) (by rfl) (by rfl) (by rfl) (by rfl) K) _).trans ?_)
  refine (runOps_cons ..).trans ((step_mv ..).trans ?_)
  refine (runOps_nil ..).trans ?_
  refine (den_seq ..).trans ?_
  refine (den_seq ..).trans ?_
  refine (den_reg ..).trans ?_
  refine (runOps_cons ..).trans ((step_mv ..).trans ?_)
  refine (runOps_nil ..).trans ?_
  refine (den_block ..).trans ?_
  refine (den_loop' ..).trans ?_
  refine (iter_succ ..).trans ?_
  refine (den_seq ..).trans ?_
  refine (den_seq ..).trans ?_
  refine (den_reg ..).trans ?_
  refine (runOps_cons ..).trans ((step_mv ..).trans ?_)
  refine (runOps_cons ..).trans ((stepE (v := (.bool true)) (by intro f as h; cases h) (fun K => w_lit (v := (.bool true)) (by intro K; rfl) K) _).trans ?_)
  refine (runOps_nil ..).trans ?_
  refine (den_condT rfl).trans ?_
  refine (den_skip ..).trans ?_
  refine (den_seq ..).trans ?_
  refine (den_block ..).trans ?_
  refine (den_reg ..).trans ?_
  refine (runOps_cons ..).trans ((step_mv ..).trans ?_)
  refine (runOps_cons ..).trans ((step_mv ..).trans ?_)
  refine (runOps_cons ..).trans ((step_mv ..).trans ?_)
  refine (runOps_cons ..).trans ((step_mv ..).trans ?_)
  refine (runOps_cons ..).trans ((stepE (v := (.int .u64 (.ofNat 0))) (by intro f as h; cases h) (fun K => w_cvi (r := 0) (by rfl) (by rfl) K) _).trans ?_)
  refine (runOps_cons ..).trans ((stepE (v := (.int .u64 (.ofNat 0))) (by intro f as h; cases h) (fun K => w_lit (v := (.int .u64 (.ofNat 0))) (by intro K; rfl) K) _).trans ?_)
  refine (runOps_cons ..).trans ((stepE (v := (.int .u64 (.ofNat 56))) (by intro f as h; cases h) (fun K => w_lit (v := (.int .u64 (.ofNat 56))) (by intro K; rfl) K) _).trans ?_)
  refine (runOps_cons ..).trans ((stepE (v := (.int .u64 (.ofNat (x / 72057594037927936)))) (by intro f as h; cases h) (fun K => w_bin (fun K => shr_u (a := x) (b := 56) (p := 72057594037927936) (by rfl) K) K) _).trans ?_)
  refine (runOps_cons ..).trans ((stepE (v := (.int .u8 (.ofNat ((x / 72057594037927936) % 256)))) (by intro f as h; cases h) (fun K => w_cvi (r := ((x / 72057594037927936) % 256)) (by rfl) (by rfl) K) _).trans ?_)
  refine (runOps_cons ..).trans ((stepE (v := (.ptr (H).n 0)) (by intro f as h; cases h) (fun K => w_ixs (b := (H).n) (o := 0) (n := 0) (r := 0) (by rfl) (by rfl) (by omega) (by rfl) K) _).trans ?_)
  refine (runOps_cons ..).trans ((stepN (v := .undef) (by intro f as h; cases h) (fun K => w_st1 (v := (.int .u8 (.ofNat ((x / 72057594037927936) % 256)))) (by rfl) (by rfl) (by rfl) g1 (by rfl) K) _).trans ?_)
  refine (runOps_nil ..).trans ?_
  refine (den_reg ..).trans ?_
  refine (runOps_cons ..).trans ((step_mv ..).trans ?_)
  refine (runOps_cons ..).trans ((stepE (v := (.int .i64 (.ofNat 1))) (by intro f as h; cases h) (fun K => w_lit (v := (.int .i64 (.ofNat 1))) (by intro K; rfl) K) _).trans ?_)
  refine (runOps_cons ..).trans ((step_mv ..).trans ?_)
  refine (runOps_nil ..).trans ?_
  refine (iter_succ ..).trans ?_
  refine (den_seq ..).trans ?_
  refine (den_seq ..).trans ?_
  refine (den_reg ..).trans ?_
  refine (runOps_cons ..).trans ((step_mv ..).trans ?_)
  refine (runOps_cons ..).trans ((stepE (v := (.bool true)) (by intro f as h; cases h) (fun K => w_lit (v := (.bool true)) (by intro K; rfl) K) _).trans ?_)
  refine (runOps_nil ..).trans ?_
  refine (den_condT rfl).trans ?_
  refine (den_skip ..).trans ?_
  refine (den_seq ..).trans ?_
  refine (den_block ..).trans ?_
  refine (den_reg ..).trans ?_
  refine (runOps_cons ..).trans ((step_mv ..).trans ?_)
  refine (runOps_cons ..).trans ((step_mv ..).trans ?_)
  refine (runOps_cons ..).trans ((step_mv ..).trans ?_)
  refine (runOps_cons ..).trans ((step_mv ..).trans ?_)
  refine (runOps_cons ..).trans ((stepE (v := (.int .u64 (.ofNat 1))) (by intro f as h; cases h) (fun K => w_cvi (r := 1) (by rfl) (by rfl) K) _).trans ?_)
  refine (runOps_cons ..).trans ((stepE (v := (.int .u64 (.ofNat 8))) (by intro f as h; cases h) (fun K => w_lit (v := (.int .u64 (.ofNat 8))) (by intro K; rfl) K) _).trans ?_)
  refine (runOps_cons ..).trans ((stepE (v := (.int .u64 (.ofNat 48))) (by intro f as h; cases h) (fun K => w_lit (v := (.int .u64 (.ofNat 48))) (by intro K; rfl) K) _).trans ?_)
  refine (runOps_cons ..).trans ((stepE (v := (.int .u64 (.ofNat (x / 281474976710656)))) (by intro f as h; cases h) (fun K => w_bin (fun K => shr_u (a := x) (b := 48) (p := 281474976710656) (by rfl) K) K) _).trans ?_)
  refine (runOps_cons ..).trans ((stepE (v := (.int .u8 (.ofNat ((x / 281474976710656) % 256)))) (by intro f as h; cases h) (fun K => w_cvi (r := ((x / 281474976710656) % 256)) (by rfl) (by rfl) K) _).trans ?_)
  refine (runOps_cons ..).trans ((stepE (v := (.ptr (H).n 1)) (by intro f as h; cases h) (fun K => w_ixs (b := (H).n) (o := 0) (n := 1) (r := 1) (by rfl) (by rfl) (by omega) (by rfl) K) _).trans ?_)
  refine (runOps_cons ..).trans ((stepN (v := .undef) (by intro f as h; cases h) (fun K => w_st1 (v := (.int .u8 (.ofNat ((x / 281474976710656) % 256)))) (by rfl) (by rfl) (by rfl) g3 (by rfl) K) _).trans ?_)
  refine (runOps_nil ..).trans ?_
  refine (den_reg ..).trans ?_
  refine (runOps_cons ..).trans ((step_mv ..).trans ?_)
  refine (runOps_cons ..).trans ((stepE (v := (.int .i64 (.ofNat 2))) (by intro f as h; cases h) (fun K => w_lit (v := (.int .i64 (.ofNat 2))) (by intro K; rfl) K) _).trans ?_)
  refine (runOps_cons ..).trans ((step_mv ..).trans ?_)
  refine (runOps_nil ..).trans ?_
  refine (iter_succ ..).trans ?_
  refine (den_seq ..).trans ?_
  refine (den_seq ..).trans ?_
  refine (den_reg ..).trans ?_
  refine (runOps_cons ..).trans ((step_mv ..).trans ?_)
  refine (runOps_cons ..).trans ((stepE (v := (.bool true)) (by intro f as h; cases h) (fun K => w_lit (v := (.bool true)) (by intro K; rfl) K) _).trans ?_)
  refine (runOps_nil ..).trans ?_
  refine (den_condT rfl).trans ?_
  refine (den_skip ..).trans ?_
  refine (den_seq ..).trans ?_
  refine (den_block ..).trans ?_
  refine (den_reg ..).trans ?_
  refine (runOps_cons ..).trans ((step_mv ..).trans ?_)
  refine (runOps_cons ..).trans ((step_mv ..).trans ?_)
  refine (runOps_cons ..).trans ((step_mv ..).trans ?_)
  refine (runOps_cons ..).trans ((step_mv ..).trans ?_)
  refine (runOps_cons ..).trans ((stepE (v := (.int .u64 (.ofNat 2))) (by intro f as h; cases h) (fun K => w_cvi (r := 2) (by rfl) (by rfl) K) _).trans ?_)
  refine (runOps_cons ..).trans ((stepE (v := (.int .u64 (.ofNat 16))) (by intro f as h; cases h) (fun K => w_lit (v := (.int .u64 (.ofNat 16))) (by intro K; rfl) K) _).trans ?_)
  refine (runOps_cons ..).trans ((stepE (v := (.int .u64 (.ofNat 40))) (by intro f as h; cases h) (fun K => w_lit (v := (.int .u64 (.ofNat 40))) (by intro K; rfl) K) _).trans ?_)
  refine (runOps_cons ..).trans ((stepE (v := (.int .u64 (.ofNat (x / 1099511627776)))) (by intro f as h; cases h) (fun K => w_bin (fun K => shr_u (a := x) (b := 40) (p := 1099511627776) (by rfl) K) K) _).trans ?_)
  refine (runOps_cons ..).trans ((stepE (v := (.int .u8 (.ofNat ((x / 1099511627776) % 256)))) (by intro f as h; cases h) (fun K => w_cvi (r := ((x / 1099511627776) % 256)) (by rfl) (by rfl) K) _).trans ?_)
  refine (runOps_cons ..).trans ((stepE (v := (.ptr (H).n 2)) (by intro f as h; cases h) (fun K => w_ixs (b := (H).n) (o := 0) (n := 2) (r := 2) (by rfl) (by rfl) (by omega) (by rfl) K) _).trans ?_)
  refine (runOps_cons ..).trans ((stepN (v := .undef) (by intro f as h; cases h) (fun K => w_st1 (v := (.int .u8 (.ofNat ((x / 1099511627776) % 256)))) (by rfl) (by rfl) (by rfl) g4 (by rfl) K) _).trans ?_)
  refine (runOps_nil ..).trans ?_
  refine (den_reg ..).trans ?_
  refine (runOps_cons ..).trans ((step_mv ..).trans ?_)
  refine (runOps_cons ..).trans ((stepE (v := (.int .i64 (.ofNat 3))) (by intro f as h; cases h) (fun K => w_lit (v := (.int .i64 (.ofNat 3))) (by intro K; rfl) K) _).trans ?_)
  refine (runOps_cons ..).trans ((step_mv ..).trans ?_)
  refine (runOps_nil ..).trans ?_
  refine (iter_succ ..).trans ?_
  refine (den_seq ..).trans ?_
  refine (den_seq ..).trans ?_
  refine (den_reg ..).trans ?_
  refine (runOps_cons ..).trans ((step_mv ..).trans ?_)
  refine (runOps_cons ..).trans ((stepE (v := (.bool true)) (by intro f as h; cases h) (fun K => w_lit (v := (.bool true)) (by intro K; rfl) K) _).trans ?_)
  refine (runOps_nil ..).trans ?_
  refine (den_condT rfl).trans ?_
  refine (den_skip ..).trans ?_
  refine (den_seq ..).trans ?_
  refine (den_block ..).trans ?_
  refine (den_reg ..).trans ?_
  refine (runOps_cons ..).trans ((step_mv ..).trans ?_)
  refine (runOps_cons ..).trans ((step_mv ..).trans ?_)
  refine (runOps_cons ..).trans ((step_mv ..).trans ?_)
  refine (runOps_cons ..).trans ((step_mv ..).trans ?_)
  refine (runOps_cons ..).trans ((stepE (v := (.int .u64 (.ofNat 3))) (by intro f as h; cases h) (fun K => w_cvi (r := 3) (by rfl) (by rfl) K) _).trans ?_)
  refine (runOps_cons ..).trans ((stepE (v := (.int .u64 (.ofNat 24))) (by intro f as h; cases h) (fun K => w_lit (v := (.int .u64 (.ofNat 24))) (by intro K; rfl) K) _).trans ?_)
  refine (runOps_cons ..).trans ((stepE (v := (.int .u64 (.ofNat 32))) (by intro f as h; cases h) (fun K => w_lit (v := (.int .u64 (.ofNat 32))) (by intro K; rfl) K) _).trans ?_)
  refine (runOps_cons ..).trans ((stepE (v := (.int .u64 (.ofNat (x / 4294967296)))) (by intro f as h; cases h) (fun K => w_bin (fun K => shr_u (a := x) (b := 32) (p := 4294967296) (by rfl) K) K) _).trans ?_)
  refine (runOps_cons ..).trans ((stepE (v := (.int .u8 (.ofNat ((x / 4294967296) % 256)))) (by intro f as h; cases h) (fun K => w_cvi (r := ((x / 4294967296) % 256)) (by rfl) (by rfl) K) _).trans ?_)
  refine (runOps_cons ..).trans ((stepE (v := (.ptr (H).n 3)) (by intro f as h; cases h) (fun K => w_ixs (b := (H).n) (o := 0) (n := 3) (r := 3) (by rfl) (by rfl) (by omega) (by rfl) K) _).trans ?_)
  refine (runOps_cons ..).trans ((stepN (v := .undef) (by intro f as h; cases h) (fun K => w_st1 (v := (.int .u8 (.ofNat ((x / 4294967296) % 256)))) (by rfl) (by rfl) (by rfl) g5 (by rfl) K) _).trans ?_)
  refine (runOps_nil ..).trans ?_
  refine (den_reg ..).trans ?_
  refine (runOps_cons ..).trans ((step_mv ..).trans ?_)
  refine (runOps_cons ..).trans ((stepE (v := (.int .i64 (.ofNat 4))) (by intro f as h; cases h) (fun K => w_lit (v := (.int .i64 (.ofNat 4))) (by intro K; rfl) K) _).trans ?_)
  refine (runOps_cons ..).trans ((step_mv ..).trans ?_)
  refine (runOps_nil ..).trans ?_
  refine (iter_succ ..).trans ?_
  refine (den_seq ..).trans ?_
  refine (den_seq ..).trans ?_
  refine (den_reg ..).trans ?_
  refine (runOps_cons ..).trans ((step_mv ..).trans ?_)
  refine (runOps_cons ..).trans ((stepE (v := (.bool true)) (by intro f as h; cases h) (fun K => w_lit (v := (.bool true)) (by intro K; rfl) K) _).trans ?_)
  refine (runOps_nil ..).trans ?_
  refine (den_condT rfl).trans ?_
  refine (den_skip ..).trans ?_
  refine (den_seq ..).trans ?_
  refine (den_block ..).trans ?_
  refine (den_reg ..).trans ?_
  refine (runOps_cons ..).trans ((step_mv ..).trans ?_)
  refine (runOps_cons ..).trans ((step_mv ..).trans ?_)
  refine (runOps_cons ..).trans ((step_mv ..).trans ?_)
  refine (runOps_cons ..).trans ((step_mv ..).trans ?_)
  refine (runOps_cons ..).trans ((stepE (v := (.int .u64 (.ofNat 4))) (by intro f as h; cases h) (fun K => w_cvi (r := 4) (by rfl) (by rfl) K) _).trans ?_)
  refine (runOps_cons ..).trans ((stepE (v := (.int .u64 (.ofNat 32))) (by intro f as h; cases h) (fun K => w_lit (v := (.int .u64 (.ofNat 32))) (by intro K; rfl) K) _).trans ?_)
  refine (runOps_cons ..).trans ((stepE (v := (.int .u64 (.ofNat 24))) (by intro f as h; cases h) (fun K => w_lit (v := (.int .u64 (.ofNat 24))) (by intro K; rfl) K) _).trans ?_)
  refine (runOps_cons ..).trans ((stepE (v := (.int .u64 (.ofNat (x / 16777216)))) (by intro f as h; cases h) (fun K => w_bin (fun K => shr_u (a := x) (b := 24) (p := 16777216) (by rfl) K) K) _).trans ?_)
  refine (runOps_cons ..).trans ((stepE (v := (.int .u8 (.ofNat ((x / 16777216) % 256)))) (by intro f as h; cases h) (fun K => w_cvi (r := ((x / 16777216) % 256)) (by rfl) (by rfl) K) _).trans ?_)
  refine (runOps_cons ..).trans ((stepE (v := (.ptr (H).n 4)) (by intro f as h; cases h) (fun K => w_ixs (b := (H).n) (o := 0) (n := 4) (r := 4) (by rfl) (by rfl) (by omega) (by rfl) K) _).trans ?_)
  refine (runOps_cons ..).trans ((stepN (v := .undef) (by intro f as h; cases h) (fun K => w_st1 (v := (.int .u8 (.ofNat ((x / 16777216) % 256)))) (by rfl) (by rfl) (by rfl) g6 (by rfl) K) _).trans ?_)
  refine (runOps_nil ..).trans ?_
  refine (den_reg ..).trans ?_
  refine (runOps_cons ..).trans ((step_mv ..).trans ?_)
  refine (runOps_cons ..).trans ((stepE (v := (.int .i64 (.ofNat 5))) (by intro f as h; cases h) (fun K => w_lit (v := (.int .i64 (.ofNat 5))) (by intro K; rfl) K) _).trans ?_)
  refine (runOps_cons ..).trans ((step_mv ..).trans ?_)
  refine (runOps_nil ..).trans ?_
  refine (iter_succ ..).trans ?_
  refine (den_seq ..).trans ?_
  refine (den_seq ..).trans ?_
  refine (den_reg ..).trans ?_
  refine (runOps_cons ..).trans ((step_mv ..).trans ?_)
  refine (runOps_cons ..).trans ((stepE (v := (.bool true)) (by intro f as h; cases h) (fun K => w_lit (v := (.bool true)) (by intro K; rfl) K) _).trans ?_)
  refine (runOps_nil ..).trans ?_
  refine (den_condT rfl).trans ?_
  refine (den_skip ..).trans ?_
  refine (den_seq ..).trans ?_
  refine (den_block ..).trans ?_
  refine (den_reg ..).trans ?_
  refine (runOps_cons ..).trans ((step_mv ..).trans ?_)
  refine (runOps_cons ..).trans ((step_mv ..).trans ?_)
  refine (runOps_cons ..).trans ((step_mv ..).trans ?_)
  refine (runOps_cons ..).trans ((step_mv ..).trans ?_)
  refine (runOps_cons ..).trans ((stepE (v := (.int .u64 (.ofNat 5))) (by intro f as h; cases h) (fun K => w_cvi (r := 5) (by rfl) (by rfl) K) _).trans ?_)
  refine (runOps_cons ..).trans ((stepE (v := (.int .u64 (.ofNat 40))) (by intro f as h; cases h) (fun K => w_lit (v := (.int .u64 (.ofNat 40))) (by intro K; rfl) K) _).trans ?_)
  refine (runOps_cons ..).trans ((stepE (v := (.int .u64 (.ofNat 16))) (by intro f as h; cases h) (fun K => w_lit (v := (.int .u64 (.ofNat 16))) (by intro K; rfl) K) _).trans ?_)
  refine (runOps_cons ..).trans ((stepE (v := (.int .u64 (.ofNat (x / 65536)))) (by intro f as h; cases h) (fun K => w_bin (fun K => shr_u (a := x) (b := 16) (p := 65536) (by rfl) K) K) _).trans ?_)
  refine (runOps_cons ..).trans ((stepE (v := (.int .u8 (.ofNat ((x / 65536) % 256)))) (by intro f as h; cases h) (fun K => w_cvi (r := ((x / 65536) % 256)) (by rfl) (by rfl) K) _).trans ?_)
  refine (runOps_cons ..).trans ((stepE (v := (.ptr (H).n 5)) (by intro f as h; cases h) (fun K => w_ixs (b := (H).n) (o := 0) (n := 5) (r := 5) (by rfl) (by rfl) (by omega) (by rfl) K) _).trans ?_)
  refine (runOps_cons ..).trans ((stepN (v := .undef) (by intro f as h; cases h) (fun K => w_st1 (v := (.int .u8 (.ofNat ((x / 65536) % 256)))) (by rfl) (by rfl) (by rfl) g7 (by rfl) K) _).trans ?_)
  refine (runOps_nil ..).trans ?_
  refine (den_reg ..).trans ?_
  refine (runOps_cons ..).trans ((step_mv ..).trans ?_)
  refine (runOps_cons ..).trans ((stepE (v := (.int .i64 (.ofNat 6))) (by intro f as h; cases h) (fun K => w_lit (v := (.int .i64 (.ofNat 6))) (by intro K; rfl) K) _).trans ?_)
  refine (runOps_cons ..).trans ((step_mv ..).trans ?_)
  refine (runOps_nil ..).trans ?_
  refine (iter_succ ..).trans ?_
  refine (den_seq ..).trans ?_
  refine (den_seq ..).trans ?_
  refine (den_reg ..).trans ?_
  refine (runOps_cons ..).trans ((step_mv ..).trans ?_)
  refine (runOps_cons ..).trans ((stepE (v := (.bool true)) (by intro f as h; cases h) (fun K => w_lit (v := (.bool true)) (by intro K; rfl) K) _).trans ?_)
  refine (runOps_nil ..).trans ?_
  refine (den_condT rfl).trans ?_
  refine (den_skip ..).trans ?_
  refine (den_seq ..).trans ?_
  refine (den_block ..).trans ?_
  refine (den_reg ..).trans ?_
  refine (runOps_cons ..).trans ((step_mv ..).trans ?_)
  refine (runOps_cons ..).trans ((step_mv ..).trans ?_)
  refine (runOps_cons ..).trans ((step_mv ..).trans ?_)
  refine (runOps_cons ..).trans ((step_mv ..).trans ?_)
  refine (runOps_cons ..).trans ((stepE (v := (.int .u64 (.ofNat 6))) (by intro f as h; cases h) (fun K => w_cvi (r := 6) (by rfl) (by rfl) K) _).trans ?_)
  refine (runOps_cons ..).trans ((stepE (v := (.int .u64 (.ofNat 48))) (by intro f as h; cases h) (fun K => w_lit (v := (.int .u64 (.ofNat 48))) (by intro K; rfl) K) _).trans ?_)
  refine (runOps_cons ..).trans ((stepE (v := (.int .u64 (.ofNat 8))) (by intro f as h; cases h) (fun K => w_lit (v := (.int .u64 (.ofNat 8))) (by intro K; rfl) K) _).trans ?_)
  refine (runOps_cons ..).trans ((stepE (v := (.int .u64 (.ofNat (x / 256)))) (by intro f as h; cases h) (fun K => w_bin (fun K => shr_u (a := x) (b := 8) (p := 256) (by rfl) K) K) _).trans ?_)
  refine (runOps_cons ..).trans ((stepE (v := (.int .u8 (.ofNat ((x / 256) % 256)))) (by intro f as h; cases h) (fun K => w_cvi (r := ((x / 256) % 256)) (by rfl) (by rfl) K) _).trans ?_)
  refine (runOps_cons ..).trans ((stepE (v := (.ptr (H).n 6)) (by intro f as h; cases h) (fun K => w_ixs (b := (H).n) (o := 0) (n := 6) (r := 6) (by rfl) (by rfl) (by omega) (by rfl) K) _).trans ?_)
  refine (runOps_cons ..).trans ((stepN (v := .undef) (by intro f as h; cases h) (fun K => w_st1 (v := (.int .u8 (.ofNat ((x / 256) % 256)))) (by rfl) (by rfl) (by rfl) g8 (by rfl) K) _).trans ?_)
  refine (runOps_nil ..).trans ?_
  refine (den_reg ..).trans ?_
  refine (runOps_cons ..).trans ((step_mv ..).trans ?_)
  refine (runOps_cons ..).trans ((stepE (v := (.int .i64 (.ofNat 7))) (by intro f as h; cases h) (fun K => w_lit (v := (.int .i64 (.ofNat 7))) (by intro K; rfl) K) _).trans ?_)
  refine (runOps_cons ..).trans ((step_mv ..).trans ?_)
  refine (runOps_nil ..).trans ?_
  refine (iter_succ ..).trans ?_
  refine (den_seq ..).trans ?_
  refine (den_seq ..).trans ?_
  refine (den_reg ..).trans ?_
  refine (runOps_cons ..).trans ((step_mv ..).trans ?_)
  refine (runOps_cons ..).trans ((stepE (v := (.bool true)) (by intro f as h; cases h) (fun K => w_lit (v := (.bool true)) (by intro K; rfl) K) _).trans ?_)
  refine (runOps_nil ..).trans ?_
  refine (den_condT rfl).trans ?_
  refine (den_skip ..).trans ?_
  refine (den_seq ..).trans ?_
  refine (den_block ..).trans ?_
  refine (den_reg ..).trans ?_
  refine (runOps_cons ..).trans ((step_mv ..).trans ?_)
  refine (runOps_cons ..).trans ((step_mv ..).trans ?_)
  refine (runOps_cons ..).trans ((step_mv ..).trans ?_)
  refine (runOps_cons ..).trans ((step_mv ..).trans ?_)
  refine (runOps_cons ..).trans ((stepE (v := (.int .u64 (.ofNat 7))) (by intro f as h; cases h) (fun K => w_cvi (r := 7) (by rfl) (by rfl) K) _).trans ?_)
  refine (runOps_cons ..).trans ((stepE (v := (.int .u64 (.ofNat 56))) (by intro f as h; cases h) (fun K => w_lit (v := (.int .u64 (.ofNat 56))) (by intro K; rfl) K) _).trans ?_)
  refine (runOps_cons ..).trans ((stepE (v := (.int .u64 (.ofNat 0))) (by intro f as h; cases h) (fun K => w_lit (v := (.int .u64 (.ofNat 0))) (by intro K; rfl) K) _).trans ?_)
  refine (runOps_cons ..).trans ((stepE (v := (.int .u64 (.ofNat (x / 1)))) (by intro f as h; cases h) (fun K => w_bin (fun K => shr_u (a := x) (b := 0) (p := 1) (by rfl) K) K) _).trans ?_)
  refine (runOps_cons ..).trans ((stepE (v := (.int .u8 (.ofNat ((x / 1) % 256)))) (by intro f as h; cases h) (fun K => w_cvi (r := ((x / 1) % 256)) (by rfl) (by rfl) K) _).trans ?_)
  refine (runOps_cons ..).trans ((stepE (v := (.ptr (H).n 7)) (by intro f as h; cases h) (fun K => w_ixs (b := (H).n) (o := 0) (n := 7) (r := 7) (by rfl) (by rfl) (by omega) (by rfl) K) _).trans ?_)
  refine (runOps_cons ..).trans ((stepN (v := .undef) (by intro f as h; cases h) (fun K => w_st1 (v := (.int .u8 (.ofNat ((x / 1) % 256)))) (by rfl) (by rfl) (by rfl) g9 (by rfl) K) _).trans ?_)
  refine (runOps_nil ..).trans ?_
  refine (den_reg ..).trans ?_
  refine (runOps_cons ..).trans ((step_mv ..).trans ?_)
  refine (runOps_cons ..).trans ((stepE (v := (.int .i64 (.ofNat 8))) (by intro f as h; cases h) (fun K => w_lit (v := (.int .i64 (.ofNat 8))) (by intro K; rfl) K) _).trans ?_)
  refine (runOps_cons ..).trans ((step_mv ..).trans ?_)
  refine (runOps_nil ..).trans ?_
  refine (iter_succ ..).trans ?_
  refine (den_seq ..).trans ?_
  refine (den_seq ..).trans ?_
  refine (den_reg ..).trans ?_
  refine (runOps_cons ..).trans ((step_mv ..).trans ?_)
  refine (runOps_cons ..).trans ((stepE (v := (.bool false)) (by intro f as h; cases h) (fun K => w_lit (v := (.bool false)) (by intro K; rfl) K) _).trans ?_)
  refine (runOps_nil ..).trans ?_
  refine (den_condF rfl).trans ?_
  refine (den_exit ..).trans ?_
  refine (cond_beq ..).trans ?_
  refine (den_seq ..).trans ?_
  refine (den_reg ..).trans ?_
  refine (runOps_cons ..).trans ((step_mv ..).trans ?_)
  refine (runOps_cons ..).trans ((stepE (v := (.str [(x / 72057594037927936) % 256, (x / 281474976710656) % 256, (x / 1099511627776) % 256, (x / 4294967296) % 256, (x / 16777216) % 256, (x / 65536) % 256, (x / 256) % 256, (x / 1) % 256])) (by intro f as h; cases h) (fun K => w_b2sc (l := [(x / 72057594037927936) % 256, (x / 281474976710656) % 256, (x / 1099511627776) % 256, (x / 4294967296) % 256, (x / 16777216) % 256, (x / 65536) % 256, (x / 256) % 256, (x / 1) % 256]) (by rfl) g10 (by rfl) (by rfl) (by intro c hc; simp only [List.mem_cons, List.not_mem_nil, or_false] at hc; omega) K) _).trans ?_)
  refine (runOps_cons ..).trans ((step_mv ..).trans ?_)
  refine (runOps_nil ..).trans ?_
  refine (den_ret ..).trans ?_
  exact fin_tmp (by rfl) (by rfl) k

theorem four_does {tbl : Nat → Option FT} {N f : Nat} {gFour : Nat} (hF : tbl gFour = some (.code irFour)) (x : Nat) (H : AH) : ∃ (H' : AH) (b : Nat), Ext H H' ∧ H'.get b = some (.cells (Rp.app (Rp.sub (Rp.app (Rp.sub (Rp.app (Rp.sub (Rp.app (Rp.sub (.rep 0 (.int .u8 (.ofNat 0))) 0 0) (Rp.sub (Rp.set (.rep 1 (.int .u8 (.ofNat 0))) 0 (.int .u8 (.ofNat (((((x / 256 % 4294967296) / 256 % 4294967296) / 256 % 4294967296) % 256) % 256)))) 0 1)) 0 1) (Rp.sub (Rp.set (.rep 1 (.int .u8 (.ofNat 0))) 0 (.int .u8 (.ofNat ((((x / 256 % 4294967296) / 256 % 4294967296) % 256) % 256)))) 0 1)) 0 2) (Rp.sub (Rp.set (.rep 1 (.int .u8 (.ofNat 0))) 0 (.int .u8 (.ofNat (((x / 256 % 4294967296) % 256) % 256)))) 0 1)) 0 3) (Rp.sub (Rp.set (.rep 1 (.int .u8 (.ofNat 0))) 0 (.int .u8 (.ofNat ((x % 256) % 256)))) 0 1)) false false) ∧ H.n ≤ b ∧ b < H'.n ∧ Does (RUN tbl (N + 20) (f + 1)) gFour [.nils, (.int .u32 (.ofNat x))] H (.slu b 0 4 1) H' := by
  have g1 := get_new_here (H) (.cells (.rep 0 (.int .u8 (.ofNat 0))) false false)
  have l2 := Nat.lt_succ_self (H).n
  have q3 := Nat.ne_of_lt l2
  have g4 := get_new_old (o' := (.cells (Rp.set (.rep 1 (.int .u8 (.ofNat 0))) 0 (.int .u8 (.ofNat (((((x / 256 % 4294967296) / 256 % 4294967296) / 256 % 4294967296) % 256) % 256)))) false false)) g1 l2
  have l5 := Nat.lt_succ_of_lt l2
  have g6 := get_new_here ((H).new (.cells (.rep 0 (.int .u8 (.ofNat 0))) false false)) (.cells (Rp.set (.rep 1 (.int .u8 (.ofNat 0))) 0 (.int .u8 (.ofNat (((((x / 256 % 4294967296) / 256 % 4294967296) / 256 % 4294967296) % 256) % 256)))) false false)
  have l7 := Nat.lt_succ_self ((H).new (.cells (.rep 0 (.int .u8 (.ofNat 0))) false false)).n
  have q8 := Nat.ne_of_lt l5
  have g9 := get_new_old (o' := (.cells (Rp.app (Rp.sub (.rep 0 (.int .u8 (.ofNat 0))) 0 0) (Rp.sub (Rp.set (.rep 1 (.int .u8 (.ofNat 0))) 0 (.int .u8 (.ofNat (((((x / 256 % 4294967296) / 256 % 4294967296) / 256 % 4294967296) % 256) % 256)))) 0 1)) false false)) g4 l5
  have l10 := Nat.lt_succ_of_lt l5
  have q11 := Nat.ne_of_lt l7
  have g12 := get_new_old (o' := (.cells (Rp.app (Rp.sub (.rep 0 (.int .u8 (.ofNat 0))) 0 0) (Rp.sub (Rp.set (.rep 1 (.int .u8 (.ofNat 0))) 0 (.int .u8 (.ofNat (((((x / 256 % 4294967296) / 256 % 4294967296) / 256 % 4294967296) % 256) % 256)))) 0 1)) false false)) g6 l7
  have l13 := Nat.lt_succ_of_lt l7
  have g14 := get_new_here (((H).new (.cells (.rep 0 (.int .u8 (.ofNat 0))) false false)).new (.cells (Rp.set (.rep 1 (.int .u8 (.ofNat 0))) 0 (.int .u8 (.ofNat (((((x / 256 % 4294967296) / 256 % 4294967296) / 256 % 4294967296) % 256) % 256)))) false false)) (.cells (Rp.app (Rp.sub (.rep 0 (.int .u8 (.ofNat 0))) 0 0) (Rp.sub (Rp.set (.rep 1 (.int .u8 (.ofNat 0))) 0 (.int .u8 (.ofNat (((((x / 256 % 4294967296) / 256 % 4294967296) / 256 % 4294967296) % 256) % 256)))) 0 1)) false false)
  have l15 := Nat.lt_succ_self (((H).new (.cells (.rep 0 (.int .u8 (.ofNat 0))) false false)).new (.cells (Rp.set (.rep 1 (.int .u8 (.ofNat 0))) 0 (.int .u8 (.ofNat (((((x / 256 % 4294967296) / 256 % 4294967296) / 256 % 4294967296) % 256) % 256)))) false false)).n
  have q16 := Nat.ne_of_lt l10
  have g17 := get_new_old (o' := (.cells (Rp.set (.rep 1 (.int .u8 (.ofNat 0))) 0 (.int .u8 (.ofNat ((((x / 256 % 4294967296) / 256 % 4294967296) % 256) % 256)))) false false)) g9 l10
  have l18 := Nat.lt_succ_of_lt l10
  have q19 := Nat.ne_of_lt l13
  have g20 := get_new_old (o' := (.cells (Rp.set (.rep 1 (.int .u8 (.ofNat 0))) 0 (.int .u8 (.ofNat ((((x / 256 % 4294967296) / 256 % 4294967296) % 256) % 256)))) false false)) g12 l13
  have l21 := Nat.lt_succ_of_lt l13
  have q22 := Nat.ne_of_lt l15
  have g23 := get_new_old (o' := (.cells (Rp.set (.rep 1 (.int .u8 (.ofNat 0))) 0 (.int .u8 (.ofNat ((((x / 256 % 4294967296) / 256 % 4294967296) % 256) % 256)))) false false)) g14 l15
  have l24 := Nat.lt_succ_of_lt l15
  have g25 := get_new_here ((((H).new (.cells (.rep 0 (.int .u8 (.ofNat 0))) false false)).new (.cells (Rp.set (.rep 1 (.int .u8 (.ofNat 0))) 0 (.int .u8 (.ofNat (((((x / 256 % 4294967296) / 256 % 4294967296) / 256 % 4294967296) % 256) % 256)))) false false)).new (.cells (Rp.app (Rp.sub (.rep 0 (.int .u8 (.ofNat 0))) 0 0) (Rp.sub (Rp.set (.rep 1 (.int .u8 (.ofNat 0))) 0 (.int .u8 (.ofNat (((((x / 256 % 4294967296) / 256 % 4294967296) / 256 % 4294967296) % 256) % 256)))) 0 1)) false false)) (.cells (Rp.set (.rep 1 (.int .u8 (.ofNat 0))) 0 (.int .u8 (.ofNat ((((x / 256 % 4294967296) / 256 % 4294967296) % 256) % 256)))) false false)
  have l26 := Nat.lt_succ_self ((((H).new (.cells (.rep 0 (.int .u8 (.ofNat 0))) false false)).new (.cells (Rp.set (.rep 1 (.int .u8 (.ofNat 0))) 0 (.int .u8 (.ofNat (((((x / 256 % 4294967296) / 256 % 4294967296) / 256 % 4294967296) % 256) % 256)))) false false)).new (.cells (Rp.app (Rp.sub (.rep 0 (.int .u8 (.ofNat 0))) 0 0) (Rp.sub (Rp.set (.rep 1 (.int .u8 (.ofNat 0))) 0 (.int .u8 (.ofNat (((((x / 256 % 4294967296) / 256 % 4294967296) / 256 % 4294967296) % 256) % 256)))) 0 1)) false false)).n
  have g27 := get_kill_other g17 q8
  have g28 := get_kill_other g20 q11
  have g29 := get_kill_other g25 (Ne.symm q22)
  have q30 := Nat.ne_of_lt l18
  have g31 := get_new_old (o' := (.cells (Rp.app (Rp.sub (Rp.app (Rp.sub (.rep 0 (.int .u8 (.ofNat 0))) 0 0) (Rp.sub (Rp.set (.rep 1 (.int .u8 (.ofNat 0))) 0 (.int .u8 (.ofNat (((((x / 256 % 4294967296) / 256 % 4294967296) / 256 % 4294967296) % 256) % 256)))) 0 1)) 0 1) (Rp.sub (Rp.set (.rep 1 (.int .u8 (.ofNat 0))) 0 (.int .u8 (.ofNat ((((x / 256 % 4294967296) / 256 % 4294967296) % 256) % 256)))) 0 1)) false false)) g27 l18
  have l32 := Nat.lt_succ_of_lt l18
  have q33 := Nat.ne_of_lt l21
  have g34 := get_new_old (o' := (.cells (Rp.app (Rp.sub (Rp.app (Rp.sub (.rep 0 (.int .u8 (.ofNat 0))) 0 0) (Rp.sub (Rp.set (.rep 1 (.int .u8 (.ofNat 0))) 0 (.int .u8 (.ofNat (((((x / 256 % 4294967296) / 256 % 4294967296) / 256 % 4294967296) % 256) % 256)))) 0 1)) 0 1) (Rp.sub (Rp.set (.rep 1 (.int .u8 (.ofNat 0))) 0 (.int .u8 (.ofNat ((((x / 256 % 4294967296) / 256 % 4294967296) % 256) % 256)))) 0 1)) false false)) g28 l21
  have l35 := Nat.lt_succ_of_lt l21
  have q36 := Nat.ne_of_lt l26
  have g37 := get_new_old (o' := (.cells (Rp.app (Rp.sub (Rp.app (Rp.sub (.rep 0 (.int .u8 (.ofNat 0))) 0 0) (Rp.sub (Rp.set (.rep 1 (.int .u8 (.ofNat 0))) 0 (.int .u8 (.ofNat (((((x / 256 % 4294967296) / 256 % 4294967296) / 256 % 4294967296) % 256) % 256)))) 0 1)) 0 1) (Rp.sub (Rp.set (.rep 1 (.int .u8 (.ofNat 0))) 0 (.int .u8 (.ofNat ((((x / 256 % 4294967296) / 256 % 4294967296) % 256) % 256)))) 0 1)) false false)) g29 l26
  have l38 := Nat.lt_succ_of_lt l26
  have g39 := get_new_here ((((((H).new (.cells (.rep 0 (.int .u8 (.ofNat 0))) false false)).new (.cells (Rp.set (.rep 1 (.int .u8 (.ofNat 0))) 0 (.int .u8 (.ofNat (((((x / 256 % 4294967296) / 256 % 4294967296) / 256 % 4294967296) % 256) % 256)))) false false)).new (.cells (Rp.app (Rp.sub (.rep 0 (.int .u8 (.ofNat 0))) 0 0) (Rp.sub (Rp.set (.rep 1 (.int .u8 (.ofNat 0))) 0 (.int .u8 (.ofNat (((((x / 256 % 4294967296) / 256 % 4294967296) / 256 % 4294967296) % 256) % 256)))) 0 1)) false false)).new (.cells (Rp.set (.rep 1 (.int .u8 (.ofNat 0))) 0 (.int .u8 (.ofNat ((((x / 256 % 4294967296) / 256 % 4294967296) % 256) % 256)))) false false)).kill (((H).new (.cells (.rep 0 (.int .u8 (.ofNat 0))) false false)).new (.cells (Rp.set (.rep 1 (.int .u8 (.ofNat 0))) 0 (.int .u8 (.ofNat (((((x / 256 % 4294967296) / 256 % 4294967296) / 256 % 4294967296) % 256) % 256)))) false false)).n) (.cells (Rp.app (Rp.sub (Rp.app (Rp.sub (.rep 0 (.int .u8 (.ofNat 0))) 0 0) (Rp.sub (Rp.set (.rep 1 (.int .u8 (.ofNat 0))) 0 (.int .u8 (.ofNat (((((x / 256 % 4294967296) / 256 % 4294967296) / 256 % 4294967296) % 256) % 256)))) 0 1)) 0 1) (Rp.sub (Rp.set (.rep 1 (.int .u8 (.ofNat 0))) 0 (.int .u8 (.ofNat ((((x / 256 % 4294967296) / 256 % 4294967296) % 256) % 256)))) 0 1)) false false)
  have l40 := Nat.lt_succ_self ((((((H).new (.cells (.rep 0 (.int .u8 (.ofNat 0))) false false)).new (.cells (Rp.set (.rep 1 (.int .u8 (.ofNat 0))) 0 (.int .u8 (.ofNat (((((x / 256 % 4294967296) / 256 % 4294967296) / 256 % 4294967296) % 256) % 256)))) false false)).new (.cells (Rp.app (Rp.sub (.rep 0 (.int .u8 (.ofNat 0))) 0 0) (Rp.sub (Rp.set (.rep 1 (.int .u8 (.ofNat 0))) 0 (.int .u8 (.ofNat (((((x / 256 % 4294967296) / 256 % 4294967296) / 256 % 4294967296) % 256) % 256)))) 0 1)) false false)).new (.cells (Rp.set (.rep 1 (.int .u8 (.ofNat 0))) 0 (.int .u8 (.ofNat ((((x / 256 % 4294967296) / 256 % 4294967296) % 256) % 256)))) false false)).kill (((H).new (.cells (.rep 0 (.int .u8 (.ofNat 0))) false false)).new (.cells (Rp.set (.rep 1 (.int .u8 (.ofNat 0))) 0 (.int .u8 (.ofNat (((((x / 256 % 4294967296) / 256 % 4294967296) / 256 % 4294967296) % 256) % 256)))) false false)).n).n
  have q41 := Nat.ne_of_lt l32
  have g42 := get_new_old (o' := (.cells (Rp.set (.rep 1 (.int .u8 (.ofNat 0))) 0 (.int .u8 (.ofNat (((x / 256 % 4294967296) % 256) % 256)))) false false)) g31 l32
  have l43 := Nat.lt_succ_of_lt l32
  have q44 := Nat.ne_of_lt l35
  have g45 := get_new_old (o' := (.cells (Rp.set (.rep 1 (.int .u8 (.ofNat 0))) 0 (.int .u8 (.ofNat (((x / 256 % 4294967296) % 256) % 256)))) false false)) g34 l35
  have l46 := Nat.lt_succ_of_lt l35
  have q47 := Nat.ne_of_lt l38
  have g48 := get_new_old (o' := (.cells (Rp.set (.rep 1 (.int .u8 (.ofNat 0))) 0 (.int .u8 (.ofNat (((x / 256 % 4294967296) % 256) % 256)))) false false)) g37 l38
  have l49 := Nat.lt_succ_of_lt l38
  have q50 := Nat.ne_of_lt l40
  have g51 := get_new_old (o' := (.cells (Rp.set (.rep 1 (.int .u8 (.ofNat 0))) 0 (.int .u8 (.ofNat (((x / 256 % 4294967296) % 256) % 256)))) false false)) g39 l40
  have l52 := Nat.lt_succ_of_lt l40
  have g53 := get_new_here (((((((H).new (.cells (.rep 0 (.int .u8 (.ofNat 0))) false false)).new (.cells (Rp.set (.rep 1 (.int .u8 (.ofNat 0))) 0 (.int .u8 (.ofNat (((((x / 256 % 4294967296) / 256 % 4294967296) / 256 % 4294967296) % 256) % 256)))) false false)).new (.cells (Rp.app (Rp.sub (.rep 0 (.int .u8 (.ofNat 0))) 0 0) (Rp.sub (Rp.set (.rep 1 (.int .u8 (.ofNat 0))) 0 (.int .u8 (.ofNat (((((x / 256 % 4294967296) / 256 % 4294967296) / 256 % 4294967296) % 256) % 256)))) 0 1)) false false)).new (.cells (Rp.set (.rep 1 (.int .u8 (.ofNat 0))) 0 (.int .u8 (.ofNat ((((x / 256 % 4294967296) / 256 % 4294967296) % 256) % 256)))) false false)).kill (((H).new (.cells (.rep 0 (.int .u8 (.ofNat 0))) false false)).new (.cells (Rp.set (.rep 1 (.int .u8 (.ofNat 0))) 0 (.int .u8 (.ofNat (((((x / 256 % 4294967296) / 256 % 4294967296) / 256 % 4294967296) % 256) % 256)))) false false)).n).new (.cells (Rp.app (Rp.sub (Rp.app (Rp.sub (.rep 0 (.int .u8 (.ofNat 0))) 0 0) (Rp.sub (Rp.set (.rep 1 (.int .u8 (.ofNat 0))) 0 (.int .u8 (.ofNat (((((x / 256 % 4294967296) / 256 % 4294967296) / 256 % 4294967296) % 256) % 256)))) 0 1)) 0 1) (Rp.sub (Rp.set (.rep 1 (.int .u8 (.ofNat 0))) 0 (.int .u8 (.ofNat ((((x / 256 % 4294967296) / 256 % 4294967296) % 256) % 256)))) 0 1)) false false)) (.cells (Rp.set (.rep 1 (.int .u8 (.ofNat 0))) 0 (.int .u8 (.ofNat (((x / 256 % 4294967296) % 256) % 256)))) false false)
  have l54 := Nat.lt_succ_self (((((((H).new (.cells (.rep 0 (.int .u8 (.ofNat 0))) false false)).new (.cells (Rp.set (.rep 1 (.int .u8 (.ofNat 0))) 0 (.int .u8 (.ofNat (((((x / 256 % 4294967296) / 256 % 4294967296) / 256 % 4294967296) % 256) % 256)))) false false)).new (.cells (Rp.app (Rp.sub (.rep 0 (.int .u8 (.ofNat 0))) 0 0) (Rp.sub (Rp.set (.rep 1 (.int .u8 (.ofNat 0))) 0 (.int .u8 (.ofNat (((((x / 256 % 4294967296) / 256 % 4294967296) / 256 % 4294967296) % 256) % 256)))) 0 1)) false false)).new (.cells (Rp.set (.rep 1 (.int .u8 (.ofNat 0))) 0 (.int .u8 (.ofNat ((((x / 256 % 4294967296) / 256 % 4294967296) % 256) % 256)))) false false)).kill (((H).new (.cells (.rep 0 (.int .u8 (.ofNat 0))) false false)).new (.cells (Rp.set (.rep 1 (.int .u8 (.ofNat 0))) 0 (.int .u8 (.ofNat (((((x / 256 % 4294967296) / 256 % 4294967296) / 256 % 4294967296) % 256) % 256)))) false false)).n).new (.cells (Rp.app (Rp.sub (Rp.app (Rp.sub (.rep 0 (.int .u8 (.ofNat 0))) 0 0) (Rp.sub (Rp.set (.rep 1 (.int .u8 (.ofNat 0))) 0 (.int .u8 (.ofNat (((((x / 256 % 4294967296) / 256 % 4294967296) / 256 % 4294967296) % 256) % 256)))) 0 1)) 0 1) (Rp.sub (Rp.set (.rep 1 (.int .u8 (.ofNat 0))) 0 (.int .u8 (.ofNat ((((x / 256 % 4294967296) / 256 % 4294967296) % 256) % 256)))) 0 1)) false false)).n
  have g55 := get_kill_other g42 q30
  have g56 := get_kill_other g45 q33
  have g57 := get_kill_other g48 q36
  have g58 := get_kill_other g53 (Ne.symm q50)
  have q59 := Nat.ne_of_lt l43
  have g60 := get_new_old (o' := (.cells (Rp.app (Rp.sub (Rp.app (Rp.sub (Rp.app (Rp.sub (.rep 0 (.int .u8 (.ofNat 0))) 0 0) (Rp.sub (Rp.set (.rep 1 (.int .u8 (.ofNat 0))) 0 (.int .u8 (.ofNat (((((x / 256 % 4294967296) / 256 % 4294967296) / 256 % 4294967296) % 256) % 256)))) 0 1)) 0 1) (Rp.sub (Rp.set (.rep 1 (.int .u8 (.ofNat 0))) 0 (.int .u8 (.ofNat ((((x / 256 % 4294967296) / 256 % 4294967296) % 256) % 256)))) 0 1)) 0 2) (Rp.sub (Rp.set (.rep 1 (.int .u8 (.ofNat 0))) 0 (.int .u8 (.ofNat (((x / 256 % 4294967296) % 256) % 256)))) 0 1)) false false)) g55 l43
  have l61 := Nat.lt_succ_of_lt l43
  have q62 := Nat.ne_of_lt l46
  have g63 := get_new_old (o' := (.cells (Rp.app (Rp.sub (Rp.app (Rp.sub (Rp.app (Rp.sub (.rep 0 (.int .u8 (.ofNat 0))) 0 0) (Rp.sub (Rp.set (.rep 1 (.int .u8 (.ofNat 0))) 0 (.int .u8 (.ofNat (((((x / 256 % 4294967296) / 256 % 4294967296) / 256 % 4294967296) % 256) % 256)))) 0 1)) 0 1) (Rp.sub (Rp.set (.rep 1 (.int .u8 (.ofNat 0))) 0 (.int .u8 (.ofNat ((((x / 256 % 4294967296) / 256 % 4294967296) % 256) % 256)))) 0 1)) 0 2) (Rp.sub (Rp.set (.rep 1 (.int .u8 (.ofNat 0))) 0 (.int .u8 (.ofNat (((x / 256 % 4294967296) % 256) % 256)))) 0 1)) false false)) g56 l46
  have l64 := Nat.lt_succ_of_lt l46
  have q65 := Nat.ne_of_lt l49
  have g66 := get_new_old (o' := (.cells (Rp.app (Rp.sub (Rp.app (Rp.sub (Rp.app (Rp.sub (.rep 0 (.int .u8 (.ofNat 0))) 0 0) (Rp.sub (Rp.set (.rep 1 (.int .u8 (.ofNat 0))) 0 (.int .u8 (.ofNat (((((x / 256 % 4294967296) / 256 % 4294967296) / 256 % 4294967296) % 256) % 256)))) 0 1)) 0 1) (Rp.sub (Rp.set (.rep 1 (.int .u8 (.ofNat 0))) 0 (.int .u8 (.ofNat ((((x / 256 % 4294967296) / 256 % 4294967296) % 256) % 256)))) 0 1)) 0 2) (Rp.sub (Rp.set (.rep 1 (.int .u8 (.ofNat 0))) 0 (.int .u8 (.ofNat (((x / 256 % 4294967296) % 256) % 256)))) 0 1)) false false)) g57 l49
  have l67 := Nat.lt_succ_of_lt l49
  have q68 := Nat.ne_of_lt l54
  have g69 := get_new_old (o' := (.cells (Rp.app (Rp.sub (Rp.app (Rp.sub (Rp.app (Rp.sub (.rep 0 (.int .u8 (.ofNat 0))) 0 0) (Rp.sub (Rp.set (.rep 1 (.int .u8 (.ofNat 0))) 0 (.int .u8 (.ofNat (((((x / 256 % 4294967296) / 256 % 4294967296) / 256 % 4294967296) % 256) % 256)))) 0 1)) 0 1) (Rp.sub (Rp.set (.rep 1 (.int .u8 (.ofNat 0))) 0 (.int .u8 (.ofNat ((((x / 256 % 4294967296) / 256 % 4294967296) % 256) % 256)))) 0 1)) 0 2) (Rp.sub (Rp.set (.rep 1 (.int .u8 (.ofNat 0))) 0 (.int .u8 (.ofNat (((x / 256 % 4294967296) % 256) % 256)))) 0 1)) false false)) g58 l54
  have l70 := Nat.lt_succ_of_lt l54
  have g71 := get_new_here (((((((((H).new (.cells (.rep 0 (.int .u8 (.ofNat 0))) false false)).new (.cells (Rp.set (.rep 1 (.int .u8 (.ofNat 0))) 0 (.int .u8 (.ofNat (((((x / 256 % 4294967296) / 256 % 4294967296) / 256 % 4294967296) % 256) % 256)))) false false)).new (.cells (Rp.app (Rp.sub (.rep 0 (.int .u8 (.ofNat 0))) 0 0) (Rp.sub (Rp.set (.rep 1 (.int .u8 (.ofNat 0))) 0 (.int .u8 (.ofNat (((((x / 256 % 4294967296) / 256 % 4294967296) / 256 % 4294967296) % 256) % 256)))) 0 1)) false false)).new (.cells (Rp.set (.rep 1 (.int .u8 (.ofNat 0))) 0 (.int .u8 (.ofNat ((((x / 256 % 4294967296) / 256 % 4294967296) % 256) % 256)))) false false)).kill (((H).new (.cells (.rep 0 (.int .u8 (.ofNat 0))) false false)).new (.cells (Rp.set (.rep 1 (.int .u8 (.ofNat 0))) 0 (.int .u8 (.ofNat (((((x / 256 % 4294967296) / 256 % 4294967296) / 256 % 4294967296) % 256) % 256)))) false false)).n).new (.cells (Rp.app (Rp.sub (Rp.app (Rp.sub (.rep 0 (.int .u8 (.ofNat 0))) 0 0) (Rp.sub (Rp.set (.rep 1 (.int .u8 (.ofNat 0))) 0 (.int .u8 (.ofNat (((((x / 256 % 4294967296) / 256 % 4294967296) / 256 % 4294967296) % 256) % 256)))) 0 1)) 0 1) (Rp.sub (Rp.set (.rep 1 (.int .u8 (.ofNat 0))) 0 (.int .u8 (.ofNat ((((x / 256 % 4294967296) / 256 % 4294967296) % 256) % 256)))) 0 1)) false false)).new (.cells (Rp.set (.rep 1 (.int .u8 (.ofNat 0))) 0 (.int .u8 (.ofNat (((x / 256 % 4294967296) % 256) % 256)))) false false)).kill ((((((H).new (.cells (.rep 0 (.int .u8 (.ofNat 0))) false false)).new (.cells (Rp.set (.rep 1 (.int .u8 (.ofNat 0))) 0 (.int .u8 (.ofNat (((((x / 256 % 4294967296) / 256 % 4294967296) / 256 % 4294967296) % 256) % 256)))) false false)).new (.cells (Rp.app (Rp.sub (.rep 0 (.int .u8 (.ofNat 0))) 0 0) (Rp.sub (Rp.set (.rep 1 (.int .u8 (.ofNat 0))) 0 (.int .u8 (.ofNat (((((x / 256 % 4294967296) / 256 % 4294967296) / 256 % 4294967296) % 256) % 256)))) 0 1)) false false)).new (.cells (Rp.set (.rep 1 (.int .u8 (.ofNat 0))) 0 (.int .u8 (.ofNat ((((x / 256 % 4294967296) / 256 % 4294967296) % 256) % 256)))) false false)).kill (((H).new (.cells (.rep 0 (.int .u8 (.ofNat 0))) false false)).new (.cells (Rp.set (.rep 1 (.int .u8 (.ofNat 0))) 0 (.int .u8 (.ofNat (((((x / 256 % 4294967296) / 256 % 4294967296) / 256 % 4294967296) % 256) % 256)))) false false)).n).n) (.cells (Rp.app (Rp.sub (Rp.app (Rp.sub (Rp.app (Rp.sub (.rep 0 (.int .u8 (.ofNat 0))) 0 0) (Rp.sub (Rp.set (.rep 1 (.int .u8 (.ofNat 0))) 0 (.int .u8 (.ofNat (((((x / 256 % 4294967296) / 256 % 4294967296) / 256 % 4294967296) % 256) % 256)))) 0 1)) 0 1) (Rp.sub (Rp.set (.rep 1 (.int .u8 (.ofNat 0))) 0 (.int .u8 (.ofNat ((((x / 256 % 4294967296) / 256 % 4294967296) % 256) % 256)))) 0 1)) 0 2) (Rp.sub (Rp.set (.rep 1 (.int .u8 (.ofNat 0))) 0 (.int .u8 (.ofNat (((x / 256 % 4294967296) % 256) % 256)))) 0 1)) false false)
  have l72 := Nat.lt_succ_self (((((((((H).new (.cells (.rep 0 (.int .u8 (.ofNat 0))) false false)).new (.cells (Rp.set (.rep 1 (.int .u8 (.ofNat 0))) 0 (.int .u8 (.ofNat (((((x / 256 % 4294967296) / 256 % 4294967296) / 256 % 4294967296) % 256) % 256)))) false false)).new (.cells (Rp.app (Rp.sub (.rep 0 (.int .u8 (.ofNat 0))) 0 0) (Rp.sub (Rp.set (.rep 1 (.int .u8 (.ofNat 0))) 0 (.int .u8 (.ofNat (((((x / 256 % 4294967296) / 256 % 4294967296) / 256 % 4294967296) % 256) % 256)))) 0 1)) false false)).new (.cells (Rp.set (.rep 1 (.int .u8 (.ofNat 0))) 0 (.int .u8 (.ofNat ((((x / 256 % 4294967296) / 256 % 4294967296) % 256) % 256)))) false false)).kill (((H).new (.cells (.rep 0 (.int .u8 (.ofNat 0))) false false)).new (.cells (Rp.set (.rep 1 (.int .u8 (.ofNat 0))) 0 (.int .u8 (.ofNat (((((x / 256 % 4294967296) / 256 % 4294967296) / 256 % 4294967296) % 256) % 256)))) false false)).n).new (.cells (Rp.app (Rp.sub (Rp.app (Rp.sub (.rep 0 (.int .u8 (.ofNat 0))) 0 0) (Rp.sub (Rp.set (.rep 1 (.int .u8 (.ofNat 0))) 0 (.int .u8 (.ofNat (((((x / 256 % 4294967296) / 256 % 4294967296) / 256 % 4294967296) % 256) % 256)))) 0 1)) 0 1) (Rp.sub (Rp.set (.rep 1 (.int .u8 (.ofNat 0))) 0 (.int .u8 (.ofNat ((((x / 256 % 4294967296) / 256 % 4294967296) % 256) % 256)))) 0 1)) false false)).new (.cells (Rp.set (.rep 1 (.int .u8 (.ofNat 0))) 0 (.int .u8 (.ofNat (((x / 256 % 4294967296) % 256) % 256)))) false false)).kill ((((((H).new (.cells (.rep 0 (.int .u8 (.ofNat 0))) false false)).new (.cells (Rp.set (.rep 1 (.int .u8 (.ofNat 0))) 0 (.int .u8 (.ofNat (((((x / 256 % 4294967296) / 256 % 4294967296) / 256 % 4294967296) % 256) % 256)))) false false)).new (.cells (Rp.app (Rp.sub (.rep 0 (.int .u8 (.ofNat 0))) 0 0) (Rp.sub (Rp.set (.rep 1 (.int .u8 (.ofNat 0))) 0 (.int .u8 (.ofNat (((((x / 256 % 4294967296) / 256 % 4294967296) / 256 % 4294967296) % 256) % 256)))) 0 1)) false false)).new (.cells (Rp.set (.rep 1 (.int .u8 (.ofNat 0))) 0 (.int .u8 (.ofNat ((((x / 256 % 4294967296) / 256 % 4294967296) % 256) % 256)))) false false)).kill (((H).new (.cells (.rep 0 (.int .u8 (.ofNat 0))) false false)).new (.cells (Rp.set (.rep 1 (.int .u8 (.ofNat 0))) 0 (.int .u8 (.ofNat (((((x / 256 % 4294967296) / 256 % 4294967296) / 256 % 4294967296) % 256) % 256)))) false false)).n).n).n
  have q73 := Nat.ne_of_lt l61
  have g74 := get_new_old (o' := (.cells (Rp.set (.rep 1 (.int .u8 (.ofNat 0))) 0 (.int .u8 (.ofNat ((x % 256) % 256)))) false false)) g60 l61
  have l75 := Nat.lt_succ_of_lt l61
  have q76 := Nat.ne_of_lt l64
  have g77 := get_new_old (o' := (.cells (Rp.set (.rep 1 (.int .u8 (.ofNat 0))) 0 (.int .u8 (.ofNat ((x % 256) % 256)))) false false)) g63 l64
  have l78 := Nat.lt_succ_of_lt l64
  have q79 := Nat.ne_of_lt l67
  have g80 := get_new_old (o' := (.cells (Rp.set (.rep 1 (.int .u8 (.ofNat 0))) 0 (.int .u8 (.ofNat ((x % 256) % 256)))) false false)) g66 l67
  have l81 := Nat.lt_succ_of_lt l67
  have q82 := Nat.ne_of_lt l70
  have g83 := get_new_old (o' := (.cells (Rp.set (.rep 1 (.int .u8 (.ofNat 0))) 0 (.int .u8 (.ofNat ((x % 256) % 256)))) false false)) g69 l70
  have l84 := Nat.lt_succ_of_lt l70
  have q85 := Nat.ne_of_lt l72
  have g86 := get_new_old (o' := (.cells (Rp.set (.rep 1 (.int .u8 (.ofNat 0))) 0 (.int .u8 (.ofNat ((x % 256) % 256)))) false false)) g71 l72
  have l87 := Nat.lt_succ_of_lt l72
  have g88 := get_new_here ((((((((((H).new (.cells (.rep 0 (.int .u8 (.ofNat 0))) false false)).new (.cells (Rp.set (.rep 1 (.int .u8 (.ofNat 0))) 0 (.int .u8 (.ofNat (((((x / 256 % 4294967296) / 256 % 4294967296) / 256 % 4294967296) % 256) % 256)))) false false)).new (.cells (Rp.app (Rp.sub (.rep 0 (.int .u8 (.ofNat 0))) 0 0) (Rp.sub (Rp.set (.rep 1 (.int .u8 (.ofNat 0))) 0 (.int .u8 (.ofNat (((((x / 256 % 4294967296) / 256 % 4294967296) / 256 % 4294967296) % 256) % 256)))) 0 1)) false false)).new (.cells (Rp.set (.rep 1 (.int .u8 (.ofNat 0))) 0 (.int .u8 (.ofNat ((((x / 256 % 4294967296) / 256 % 4294967296) % 256) % 256)))) false false)).kill (((H).new (.cells (.rep 0 (.int .u8 (.ofNat 0))) false false)).new (.cells (Rp.set (.rep 1 (.int .u8 (.ofNat 0))) 0 (.int .u8 (.ofNat (((((x / 256 % 4294967296) / 256 % 4294967296) / 256 % 4294967296) % 256) % 256)))) false false)).n).new (.cells (Rp.app (Rp.sub (Rp.app (Rp.sub (.rep 0 (.int .u8 (.ofNat 0))) 0 0) (Rp.sub (Rp.set (.rep 1 (.int .u8 (.ofNat 0))) 0 (.int .u8 (.ofNat (((((x / 256 % 4294967296) / 256 % 4294967296) / 256 % 4294967296) % 256) % 256)))) 0 1)) 0 1) (Rp.sub (Rp.set (.rep 1 (.int .u8 (.ofNat 0))) 0 (.int .u8 (.ofNat ((((x / 256 % 4294967296) / 256 % 4294967296) % 256) % 256)))) 0 1)) false false)).new (.cells (Rp.set (.rep 1 (.int .u8 (.ofNat 0))) 0 (.int .u8 (.ofNat (((x / 256 % 4294967296) % 256) % 256)))) false false)).kill ((((((H).new (.cells (.rep 0 (.int .u8 (.ofNat 0))) false false)).new (.cells (Rp.set (.rep 1 (.int .u8 (.ofNat 0))) 0 (.int .u8 (.ofNat (((((x / 256 % 4294967296) / 256 % 4294967296) / 256 % 4294967296) % 256) % 256)))) false false)).new (.cells (Rp.app (Rp.sub (.rep 0 (.int .u8 (.ofNat 0))) 0 0) (Rp.sub (Rp.set (.rep 1 (.int .u8 (.ofNat 0))) 0 (.int .u8 (.ofNat (((((x / 256 % 4294967296) / 256 % 4294967296) / 256 % 4294967296) % 256) % 256)))) 0 1)) false false)).new (.cells (Rp.set (.rep 1 (.int .u8 (.ofNat 0))) 0 (.int .u8 (.ofNat ((((x / 256 % 4294967296) / 256 % 4294967296) % 256) % 256)))) false false)).kill (((H).new (.cells (.rep 0 (.int .u8 (.ofNat 0))) false false)).new (.cells (Rp.set (.rep 1 (.int .u8 (.ofNat 0))) 0 (.int .u8 (.ofNat (((((x / 256 % 4294967296) / 256 % 4294967296) / 256 % 4294967296) % 256) % 256)))) false false)).n).n).new (.cells (Rp.app (Rp.sub (Rp.app (Rp.sub (Rp.app (Rp.sub (.rep 0 (.int .u8 (.ofNat 0))) 0 0) (Rp.sub (Rp.set (.rep 1 (.int .u8 (.ofNat 0))) 0 (.int .u8 (.ofNat (((((x / 256 % 4294967296) / 256 % 4294967296) / 256 % 4294967296) % 256) % 256)))) 0 1)) 0 1) (Rp.sub (Rp.set (.rep 1 (.int .u8 (.ofNat 0))) 0 (.int .u8 (.ofNat ((((x / 256 % 4294967296) / 256 % 4294967296) % 256) % 256)))) 0 1)) 0 2) (Rp.sub (Rp.set (.rep 1 (.int .u8 (.ofNat 0))) 0 (.int .u8 (.ofNat (((x / 256 % 4294967296) % 256) % 256)))) 0 1)) false false)) (.cells (Rp.set (.rep 1 (.int .u8 (.ofNat 0))) 0 (.int .u8 (.ofNat ((x % 256) % 256)))) false false)
  have l89 := Nat.lt_succ_self ((((((((((H).new (.cells (.rep 0 (.int .u8 (.ofNat 0))) false false)).new (.cells (Rp.set (.rep 1 (.int .u8 (.ofNat 0))) 0 (.int .u8 (.ofNat (((((x / 256 % 4294967296) / 256 % 4294967296) / 256 % 4294967296) % 256) % 256)))) false false)).new (.cells (Rp.app (Rp.sub (.rep 0 (.int .u8 (.ofNat 0))) 0 0) (Rp.sub (Rp.set (.rep 1 (.int .u8 (.ofNat 0))) 0 (.int .u8 (.ofNat (((((x / 256 % 4294967296) / 256 % 4294967296) / 256 % 4294967296) % 256) % 256)))) 0 1)) false false)).new (.cells (Rp.set (.rep 1 (.int .u8 (.ofNat 0))) 0 (.int .u8 (.ofNat ((((x / 256 % 4294967296) / 256 % 4294967296) % 256) % 256)))) false false)).kill (((H).new (.cells (.rep 0 (.int .u8 (.ofNat 0))) false false)).new (.cells (Rp.set (.rep 1 (.int .u8 (.ofNat 0))) 0 (.int .u8 (.ofNat (((((x / 256 % 4294967296) / 256 % 4294967296) / 256 % 4294967296) % 256) % 256)))) false false)).n).new (.cells (Rp.app (Rp.sub (Rp.app (Rp.sub (.rep 0 (.int .u8 (.ofNat 0))) 0 0) (Rp.sub (Rp.set (.rep 1 (.int .u8 (.ofNat 0))) 0 (.int .u8 (.ofNat (((((x / 256 % 4294967296) / 256 % 4294967296) / 256 % 4294967296) % 256) % 256)))) 0 1)) 0 1) (Rp.sub (Rp.set (.rep 1 (.int .u8 (.ofNat 0))) 0 (.int .u8 (.ofNat ((((x / 256 % 4294967296) / 256 % 4294967296) % 256) % 256)))) 0 1)) false false)).new (.cells (Rp.set (.rep 1 (.int .u8 (.ofNat 0))) 0 (.int .u8 (.ofNat (((x / 256 % 4294967296) % 256) % 256)))) false false)).kill ((((((H).new (.cells (.rep 0 (.int .u8 (.ofNat 0))) false false)).new (.cells (Rp.set (.rep 1 (.int .u8 (.ofNat 0))) 0 (.int .u8 (.ofNat (((((x / 256 % 4294967296) / 256 % 4294967296) / 256 % 4294967296) % 256) % 256)))) false false)).new (.cells (Rp.app (Rp.sub (.rep 0 (.int .u8 (.ofNat 0))) 0 0) (Rp.sub (Rp.set (.rep 1 (.int .u8 (.ofNat 0))) 0 (.int .u8 (.ofNat (((((x / 256 % 4294967296) / 256 % 4294967296) / 256 % 4294967296) % 256) % 256)))) 0 1)) false false)).new (.cells (Rp.set (.rep 1 (.int .u8 (.ofNat 0))) 0 (.int .u8 (.ofNat ((((x / 256 % 4294967296) / 256 % 4294967296) % 256) % 256)))) false false)).kill (((H).new (.cells (.rep 0 (.int .u8 (.ofNat 0))) false false)).new (.cells (Rp.set (.rep 1 (.int .u8 (.ofNat 0))) 0 (.int .u8 (.ofNat (((((x / 256 % 4294967296) / 256 % 4294967296) / 256 % 4294967296) % 256) % 256)))) false false)).n).n).new (.cells (Rp.app (Rp.sub (Rp.app (Rp.sub (Rp.app (Rp.sub (.rep 0 (.int .u8 (.ofNat 0))) 0 0) (Rp.sub (Rp.set (.rep 1 (.int .u8 (.ofNat 0))) 0 (.int .u8 (.ofNat (((((x / 256 % 4294967296) / 256 % 4294967296) / 256 % 4294967296) % 256) % 256)))) 0 1)) 0 1) (Rp.sub (Rp.set (.rep 1 (.int .u8 (.ofNat 0))) 0 (.int .u8 (.ofNat ((((x / 256 % 4294967296) / 256 % 4294967296) % 256) % 256)))) 0 1)) 0 2) (Rp.sub (Rp.set (.rep 1 (.int .u8 (.ofNat 0))) 0 (.int .u8 (.ofNat (((x / 256 % 4294967296) % 256) % 256)))) 0 1)) false false)).n
  have g90 := get_kill_other g74 q59
  have g91 := get_kill_other g77 q62
  have g92 := get_kill_other g80 q65
  have g93 := get_kill_other g83 q68
  have g94 := get_kill_other g88 (Ne.symm q85)
  have q95 := Nat.ne_of_lt l75
  have g96 := get_new_old (o' := (.cells (Rp.app (Rp.sub (Rp.app (Rp.sub (Rp.app (Rp.sub (Rp.app (Rp.sub (.rep 0 (.int .u8 (.ofNat 0))) 0 0) (Rp.sub (Rp.set (.rep 1 (.int .u8 (.ofNat 0))) 0 (.int .u8 (.ofNat (((((x / 256 % 4294967296) / 256 % 4294967296) / 256 % 4294967296) % 256) % 256)))) 0 1)) 0 1) (Rp.sub (Rp.set (.rep 1 (.int .u8 (.ofNat 0))) 0 (.int .u8 (.ofNat ((((x / 256 % 4294967296) / 256 % 4294967296) % 256) % 256)))) 0 1)) 0 2) (Rp.sub (Rp.set (.rep 1 (.int .u8 (.ofNat 0))) 0 (.int .u8 (.ofNat (((x / 256 % 4294967296) % 256) % 256)))) 0 1)) 0 3) (Rp.sub (Rp.set (.rep 1 (.int .u8 (.ofNat 0))) 0 (.int .u8 (.ofNat ((x % 256) % 256)))) 0 1)) false false)) g90 l75
  have l97 := Nat.lt_succ_of_lt l75
  have q98 := Nat.ne_of_lt l78
  have g99 := get_new_old (o' := (.cells (Rp.app (Rp.sub (Rp.app (Rp.sub (Rp.app (Rp.sub (Rp.app (Rp.sub (.rep 0 (.int .u8 (.ofNat 0))) 0 0) (Rp.sub (Rp.set (.rep 1 (.int .u8 (.ofNat 0))) 0 (.int .u8 (.ofNat (((((x / 256 % 4294967296) / 256 % 4294967296) / 256 % 4294967296) % 256) % 256)))) 0 1)) 0 1) (Rp.sub (Rp.set (.rep 1 (.int .u8 (.ofNat 0))) 0 (.int .u8 (.ofNat ((((x / 256 % 4294967296) / 256 % 4294967296) % 256) % 256)))) 0 1)) 0 2) (Rp.sub (Rp.set (.rep 1 (.int .u8 (.ofNat 0))) 0 (.int .u8 (.ofNat (((x / 256 % 4294967296) % 256) % 256)))) 0 1)) 0 3) (Rp.sub (Rp.set (.rep 1 (.int .u8 (.ofNat 0))) 0 (.int .u8 (.ofNat ((x % 256) % 256)))) 0 1)) false false)) g91 l78
  have l100 := Nat.lt_succ_of_lt l78
  have q101 := Nat.ne_of_lt l81
  have g102 := get_new_old (o' := (.cells (Rp.app (Rp.sub (Rp.app (Rp.sub (Rp.app (Rp.sub (Rp.app (Rp.sub (.rep 0 (.int .u8 (.ofNat 0))) 0 0) (Rp.sub (Rp.set (.rep 1 (.int .u8 (.ofNat 0))) 0 (.int .u8 (.ofNat (((((x / 256 % 4294967296) / 256 % 4294967296) / 256 % 4294967296) % 256) % 256)))) 0 1)) 0 1) (Rp.sub (Rp.set (.rep 1 (.int .u8 (.ofNat 0))) 0 (.int .u8 (.ofNat ((((x / 256 % 4294967296) / 256 % 4294967296) % 256) % 256)))) 0 1)) 0 2) (Rp.sub (Rp.set (.rep 1 (.int .u8 (.ofNat 0))) 0 (.int .u8 (.ofNat (((x / 256 % 4294967296) % 256) % 256)))) 0 1)) 0 3) (Rp.sub (Rp.set (.rep 1 (.int .u8 (.ofNat 0))) 0 (.int .u8 (.ofNat ((x % 256) % 256)))) 0 1)) false false)) g92 l81
  have l103 := Nat.lt_succ_of_lt l81
  have q104 := Nat.ne_of_lt l84
  have g105 := get_new_old (o' := (.cells (Rp.app (Rp.sub (Rp.app (Rp.sub (Rp.app (Rp.sub (Rp.app (Rp.sub (.rep 0 (.int .u8 (.ofNat 0))) 0 0) (Rp.sub (Rp.set (.rep 1 (.int .u8 (.ofNat 0))) 0 (.int .u8 (.ofNat (((((x / 256 % 4294967296) / 256 % 4294967296) / 256 % 4294967296) % 256) % 256)))) 0 1)) 0 1) (Rp.sub (Rp.set (.rep 1 (.int .u8 (.ofNat 0))) 0 (.int .u8 (.ofNat ((((x / 256 % 4294967296) / 256 % 4294967296) % 256) % 256)))) 0 1)) 0 2) (Rp.sub (Rp.set (.rep 1 (.int .u8 (.ofNat 0))) 0 (.int .u8 (.ofNat (((x / 256 % 4294967296) % 256) % 256)))) 0 1)) 0 3) (Rp.sub (Rp.set (.rep 1 (.int .u8 (.ofNat 0))) 0 (.int .u8 (.ofNat ((x % 256) % 256)))) 0 1)) false false)) g93 l84
  have l106 := Nat.lt_succ_of_lt l84
  have q107 := Nat.ne_of_lt l89
  have g108 := get_new_old (o' := (.cells (Rp.app (Rp.sub (Rp.app (Rp.sub (Rp.app (Rp.sub (Rp.app (Rp.sub (.rep 0 (.int .u8 (.ofNat 0))) 0 0) (Rp.sub (Rp.set (.rep 1 (.int .u8 (.ofNat 0))) 0 (.int .u8 (.ofNat (((((x / 256 % 4294967296) / 256 % 4294967296) / 256 % 4294967296) % 256) % 256)))) 0 1)) 0 1) (Rp.sub (Rp.set (.rep 1 (.int .u8 (.ofNat 0))) 0 (.int .u8 (.ofNat ((((x / 256 % 4294967296) / 256 % 4294967296) % 256) % 256)))) 0 1)) 0 2) (Rp.sub (Rp.set (.rep 1 (.int .u8 (.ofNat 0))) 0 (.int .u8 (.ofNat (((x / 256 % 4294967296) % 256) % 256)))) 0 1)) 0 3) (Rp.sub (Rp.set (.rep 1 (.int .u8 (.ofNat 0))) 0 (.int .u8 (.ofNat ((x % 256) % 256)))) 0 1)) false false)) g94 l89
  have l109 := Nat.lt_succ_of_lt l89
  have g110 := get_new_here ((((((((((((H).new (.cells (.rep 0 (.int .u8 (.ofNat 0))) false false)).new (.cells (Rp.set (.rep 1 (.int .u8 (.ofNat 0))) 0 (.int .u8 (.ofNat (((((x / 256 % 4294967296) / 256 % 4294967296) / 256 % 4294967296) % 256) % 256)))) false false)).new (.cells (Rp.app (Rp.sub (.rep 0 (.int .u8 (.ofNat 0))) 0 0) (Rp.sub (Rp.set (.rep 1 (.int .u8 (.ofNat 0))) 0 (.int .u8 (.ofNat (((((x / 256 % 4294967296) / 256 % 4294967296) / 256 % 4294967296) % 256) % 256)))) 0 1)) false false)).new (.cells (Rp.set (.rep 1 (.int .u8 (.ofNat 0))) 0 (.int .u8 (.ofNat ((((x / 256 % 4294967296) / 256 % 4294967296) % 256) % 256)))) false false)).kill (((H).new (.cells (.rep 0 (.int .u8 (.ofNat 0))) false false)).new (.cells (Rp.set (.rep 1 (.int .u8 (.ofNat 0))) 0 (.int .u8 (.ofNat (((((x / 256 % 4294967296) / 256 % 4294967296) / 256 % 4294967296) % 256) % 256)))) false false)).n).new (.cells (Rp.app (Rp.sub (Rp.app (Rp.sub (.rep 0 (.int .u8 (.ofNat 0))) 0 0) (Rp.sub (Rp.set (.rep 1 (.int .u8 (.ofNat 0))) 0 (.int .u8 (.ofNat (((((x / 256 % 4294967296) / 256 % 4294967296) / 256 % 4294967296) % 256) % 256)))) 0 1)) 0 1) (Rp.sub (Rp.set (.rep 1 (.int .u8 (.ofNat 0))) 0 (.int .u8 (.ofNat ((((x / 256 % 4294967296) / 256 % 4294967296) % 256) % 256)))) 0 1)) false false)).new (.cells (Rp.set (.rep 1 (.int .u8 (.ofNat 0))) 0 (.int .u8 (.ofNat (((x / 256 % 4294967296) % 256) % 256)))) false false)).kill ((((((H).new (.cells (.rep 0 (.int .u8 (.ofNat 0))) false false)).new (.cells (Rp.set (.rep 1 (.int .u8 (.ofNat 0))) 0 (.int .u8 (.ofNat (((((x / 256 % 4294967296) / 256 % 4294967296) / 256 % 4294967296) % 256) % 256)))) false false)).new (.cells (Rp.app (Rp.sub (.rep 0 (.int .u8 (.ofNat 0))) 0 0) (Rp.sub (Rp.set (.rep 1 (.int .u8 (.ofNat 0))) 0 (.int .u8 (.ofNat (((((x / 256 % 4294967296) / 256 % 4294967296) / 256 % 4294967296) % 256) % 256)))) 0 1)) false false)).new (.cells (Rp.set (.rep 1 (.int .u8 (.ofNat 0))) 0 (.int .u8 (.ofNat ((((x / 256 % 4294967296) / 256 % 4294967296) % 256) % 256)))) false false)).kill (((H).new (.cells (.rep 0 (.int .u8 (.ofNat 0))) false false)).new (.cells (Rp.set (.rep 1 (.int .u8 (.ofNat 0))) 0 (.int .u8 (.ofNat (((((x / 256 % 4294967296) / 256 % 4294967296) / 256 % 4294967296) % 256) % 256)))) false false)).n).n).new (.cells (Rp.app (Rp.sub (Rp.app (Rp.sub (Rp.app (Rp.sub (.rep 0 (.int .u8 (.ofNat 0))) 0 0) (Rp.sub (Rp.set (.rep 1 (.int .u8 (.ofNat 0))) 0 (.int .u8 (.ofNat (((((x / 256 % 4294967296) / 256 % 4294967296) / 256 % 4294967296) % 256) % 256)))) 0 1)) 0 1) (Rp.sub (Rp.set (.rep 1 (.int .u8 (.ofNat 0))) 0 (.int .u8 (.ofNat ((((x / 256 % 4294967296) / 256 % 4294967296) % 256) % 256)))) 0 1)) 0 2) (Rp.sub (Rp.set (.rep 1 (.int .u8 (.ofNat 0))) 0 (.int .u8 (.ofNat (((x / 256 % 4294967296) % 256) % 256)))) 0 1)) false false)).new (.cells (Rp.set (.rep 1 (.int .u8 (.ofNat 0))) 0 (.int .u8 (.ofNat ((x % 256) % 256)))) false false)).kill (((((((((H).new (.cells (.rep 0 (.int .u8 (.ofNat 0))) false false)).new (.cells (Rp.set (.rep 1 (.int .u8 (.ofNat 0))) 0 (.int .u8 (.ofNat (((((x / 256 % 4294967296) / 256 % 4294967296) / 256 % 4294967296) % 256) % 256)))) false false)).new (.cells (Rp.app (Rp.sub (.rep 0 (.int .u8 (.ofNat 0))) 0 0) (Rp.sub (Rp.set (.rep 1 (.int .u8 (.ofNat 0))) 0 (.int .u8 (.ofNat (((((x / 256 % 4294967296) / 256 % 4294967296) / 256 % 4294967296) % 256) % 256)))) 0 1)) false false)).new (.cells (Rp.set (.rep 1 (.int .u8 (.ofNat 0))) 0 (.int .u8 (.ofNat ((((x / 256 % 4294967296) / 256 % 4294967296) % 256) % 256)))) false false)).kill (((H).new (.cells (.rep 0 (.int .u8 (.ofNat 0))) false false)).new (.cells (Rp.set (.rep 1 (.int .u8 (.ofNat 0))) 0 (.int .u8 (.ofNat (((((x / 256 % 4294967296) / 256 % 4294967296) / 256 % 4294967296) % 256) % 256)))) false false)).n).new (.cells (Rp.app (Rp.sub (Rp.app (Rp.sub (.rep 0 (.int .u8 (.ofNat 0))) 0 0) (Rp.sub (Rp.set (.rep 1 (.int .u8 (.ofNat 0))) 0 (.int .u8 (.ofNat (((((x / 256 % 4294967296) / 256 % 4294967296) / 256 % 4294967296) % 256) % 256)))) 0 1)) 0 1) (Rp.sub (Rp.set (.rep 1 (.int .u8 (.ofNat 0))) 0 (.int .u8 (.ofNat ((((x / 256 % 4294967296) / 256 % 4294967296) % 256) % 256)))) 0 1)) false false)).new (.cells (Rp.set (.rep 1 (.int .u8 (.ofNat 0))) 0 (.int .u8 (.ofNat (((x / 256 % 4294967296) % 256) % 256)))) false false)).kill ((((((H).new (.cells (.rep 0 (.int .u8 (.ofNat 0))) false false)).new (.cells (Rp.set (.rep 1 (.int .u8 (.ofNat 0))) 0 (.int .u8 (.ofNat (((((x / 256 % 4294967296) / 256 % 4294967296) / 256 % 4294967296) % 256) % 256)))) false false)).new (.cells (Rp.app (Rp.sub (.rep 0 (.int .u8 (.ofNat 0))) 0 0) (Rp.sub (Rp.set (.rep 1 (.int .u8 (.ofNat 0))) 0 (.int .u8 (.ofNat (((((x / 256 % 4294967296) / 256 % 4294967296) / 256 % 4294967296) % 256) % 256)))) 0 1)) false false)).new (.cells (Rp.set (.rep 1 (.int .u8 (.ofNat 0))) 0 (.int .u8 (.ofNat ((((x / 256 % 4294967296) / 256 % 4294967296) % 256) % 256)))) false false)).kill (((H).new (.cells (.rep 0 (.int .u8 (.ofNat 0))) false false)).new (.cells (Rp.set (.rep 1 (.int .u8 (.ofNat 0))) 0 (.int .u8 (.ofNat (((((x / 256 % 4294967296) / 256 % 4294967296) / 256 % 4294967296) % 256) % 256)))) false false)).n).n).n) (.cells (Rp.app (Rp.sub (Rp.app (Rp.sub (Rp.app (Rp.sub (Rp.app (Rp.sub (.rep 0 (.int .u8 (.ofNat 0))) 0 0) (Rp.sub (Rp.set (.rep 1 (.int .u8 (.ofNat 0))) 0 (.int .u8 (.ofNat (((((x / 256 % 4294967296) / 256 % 4294967296) / 256 % 4294967296) % 256) % 256)))) 0 1)) 0 1) (Rp.sub (Rp.set (.rep 1 (.int .u8 (.ofNat 0))) 0 (.int .u8 (.ofNat ((((x / 256 % 4294967296) / 256 % 4294967296) % 256) % 256)))) 0 1)) 0 2) (Rp.sub (Rp.set (.rep 1 (.int .u8 (.ofNat 0))) 0 (.int .u8 (.ofNat (((x / 256 % 4294967296) % 256) % 256)))) 0 1)) 0 3) (Rp.sub (Rp.set (.rep 1 (.int .u8 (.ofNat 0))) 0 (.int .u8 (.ofNat ((x % 256) % 256)))) 0 1)) false false)
  have l111 := Nat.lt_succ_self ((((((((((((H).new (.cells (.rep 0 (.int .u8 (.ofNat 0))) false false)).new (.cells (Rp.set (.rep 1 (.int .u8 (.ofNat 0))) 0 (.int .u8 (.ofNat (((((x / 256 % 4294967296) / 256 % 4294967296) / 256 % 4294967296) % 256) % 256)))) false false)).new (.cells (Rp.app (Rp.sub (.rep 0 (.int .u8 (.ofNat 0))) 0 0) (Rp.sub (Rp.set (.rep 1 (.int .u8 (.ofNat 0))) 0 (.int .u8 (.ofNat (((((x / 256 % 4294967296) / 256 % 4294967296) / 256 % 4294967296) % 256) % 256)))) 0 1)) false false)).new (.cells (Rp.set (.rep 1 (.int .u8 (.ofNat 0))) 0 (.int .u8 (.ofNat ((((x / 256 % 4294967296) / 256 % 4294967296) % 256) % 256)))) false false)).kill (((H).new (.cells (.rep 0 (.int .u8 (.ofNat 0))) false false)).new (.cells (Rp.set (.rep 1 (.int .u8 (.ofNat 0))) 0 (.int .u8 (.ofNat (((((x / 256 % 4294967296) / 256 % 4294967296) / 256 % 4294967296) % 256) % 256)))) false false)).n).new (.cells (Rp.app (Rp.sub (Rp.app (Rp.sub (.rep 0 (.int .u8 (.ofNat 0))) 0 0) (Rp.sub (Rp.set (.rep 1 (.int .u8 (.ofNat 0))) 0 (.int .u8 (.ofNat (((((x / 256 % 4294967296) / 256 % 4294967296) / 256 % 4294967296) % 256) % 256)))) 0 1)) 0 1) (Rp.sub (Rp.set (.rep 1 (.int .u8 (.ofNat 0))) 0 (.int .u8 (.ofNat ((((x / 256 % 4294967296) / 256 % 4294967296) % 256) % 256)))) 0 1)) false false)).new (.cells (Rp.set (.rep 1 (.int .u8 (.ofNat 0))) 0 (.int .u8 (.ofNat (((x / 256 % 4294967296) % 256) % 256)))) false false)).kill ((((((H).new (.cells (.rep 0 (.int .u8 (.ofNat 0))) false false)).new (.cells (Rp.set (.rep 1 (.int .u8 (.ofNat 0))) 0 (.int .u8 (.ofNat (((((x / 256 % 4294967296) / 256 % 4294967296) / 256 % 4294967296) % 256) % 256)))) false false)).new (.cells (Rp.app (Rp.sub (.rep 0 (.int .u8 (.ofNat 0))) 0 0) (Rp.sub (Rp.set (.rep 1 (.int .u8 (.ofNat 0))) 0 (.int .u8 (.ofNat (((((x / 256 % 4294967296) / 256 % 4294967296) / 256 % 4294967296) % 256) % 256)))) 0 1)) false false)).new (.cells (Rp.set (.rep 1 (.int .u8 (.ofNat 0))) 0 (.int .u8 (.ofNat ((((x / 256 % 4294967296) / 256 % 4294967296) % 256) % 256)))) false false)).kill (((H).new (.cells (.rep 0 (.int .u8 (.ofNat 0))) false false)).new (.cells (Rp.set (.rep 1 (.int .u8 (.ofNat 0))) 0 (.int .u8 (.ofNat (((((x / 256 % 4294967296) / 256 % 4294967296) / 256 % 4294967296) % 256) % 256)))) false false)).n).n).new (.cells (Rp.app (Rp.sub (Rp.app (Rp.sub (Rp.app (Rp.sub (.rep 0 (.int .u8 (.ofNat 0))) 0 0) (Rp.sub (Rp.set (.rep 1 (.int .u8 (.ofNat 0))) 0 (.int .u8 (.ofNat (((((x / 256 % 4294967296) / 256 % 4294967296) / 256 % 4294967296) % 256) % 256)))) 0 1)) 0 1) (Rp.sub (Rp.set (.rep 1 (.int .u8 (.ofNat 0))) 0 (.int .u8 (.ofNat ((((x / 256 % 4294967296) / 256 % 4294967296) % 256) % 256)))) 0 1)) 0 2) (Rp.sub (Rp.set (.rep 1 (.int .u8 (.ofNat 0))) 0 (.int .u8 (.ofNat (((x / 256 % 4294967296) % 256) % 256)))) 0 1)) false false)).new (.cells (Rp.set (.rep 1 (.int .u8 (.ofNat 0))) 0 (.int .u8 (.ofNat ((x % 256) % 256)))) false false)).kill (((((((((H).new (.cells (.rep 0 (.int .u8 (.ofNat 0))) false false)).new (.cells (Rp.set (.rep 1 (.int .u8 (.ofNat 0))) 0 (.int .u8 (.ofNat (((((x / 256 % 4294967296) / 256 % 4294967296) / 256 % 4294967296) % 256) % 256)))) false false)).new (.cells (Rp.app (Rp.sub (.rep 0 (.int .u8 (.ofNat 0))) 0 0) (Rp.sub (Rp.set (.rep 1 (.int .u8 (.ofNat 0))) 0 (.int .u8 (.ofNat (((((x / 256 % 4294967296) / 256 % 4294967296) / 256 % 4294967296) % 256) % 256)))) 0 1)) false false)).new (.cells (Rp.set (.rep 1 (.int .u8 (.ofNat 0))) 0 (.int .u8 (.ofNat ((((x / 256 % 4294967296) / 256 % 4294967296) % 256) % 256)))) false false)).kill (((H).new (.cells (.rep 0 (.int .u8 (.ofNat 0))) false false)).new (.cells (Rp.set (.rep 1 (.int .u8 (.ofNat 0))) 0 (.int .u8 (.ofNat (((((x / 256 % 4294967296) / 256 % 4294967296) / 256 % 4294967296) % 256) % 256)))) false false)).n).new (.cells (Rp.app (Rp.sub (Rp.app (Rp.sub (.rep 0 (.int .u8 (.ofNat 0))) 0 0) (Rp.sub (Rp.set (.rep 1 (.int .u8 (.ofNat 0))) 0 (.int .u8 (.ofNat (((((x / 256 % 4294967296) / 256 % 4294967296) / 256 % 4294967296) % 256) % 256)))) 0 1)) 0 1) (Rp.sub (Rp.set (.rep 1 (.int .u8 (.ofNat 0))) 0 (.int .u8 (.ofNat ((((x / 256 % 4294967296) / 256 % 4294967296) % 256) % 256)))) 0 1)) false false)).new (.cells (Rp.set (.rep 1 (.int .u8 (.ofNat 0))) 0 (.int .u8 (.ofNat (((x / 256 % 4294967296) % 256) % 256)))) false false)).kill ((((((H).new (.cells (.rep 0 (.int .u8 (.ofNat 0))) false false)).new (.cells (Rp.set (.rep 1 (.int .u8 (.ofNat 0))) 0 (.int .u8 (.ofNat (((((x / 256 % 4294967296) / 256 % 4294967296) / 256 % 4294967296) % 256) % 256)))) false false)).new (.cells (Rp.app (Rp.sub (.rep 0 (.int .u8 (.ofNat 0))) 0 0) (Rp.sub (Rp.set (.rep 1 (.int .u8 (.ofNat 0))) 0 (.int .u8 (.ofNat (((((x / 256 % 4294967296) / 256 % 4294967296) / 256 % 4294967296) % 256) % 256)))) 0 1)) false false)).new (.cells (Rp.set (.rep 1 (.int .u8 (.ofNat 0))) 0 (.int .u8 (.ofNat ((((x / 256 % 4294967296) / 256 % 4294967296) % 256) % 256)))) false false)).kill (((H).new (.cells (.rep 0 (.int .u8 (.ofNat 0))) false false)).new (.cells (Rp.set (.rep 1 (.int .u8 (.ofNat 0))) 0 (.int .u8 (.ofNat (((((x / 256 % 4294967296) / 256 % 4294967296) / 256 % 4294967296) % 256) % 256)))) false false)).n).n).n).n
  refine ⟨((((((((((((H).new (.cells (.rep 0 (.int .u8 (.ofNat 0))) false false)).new (.cells (Rp.set (.rep 1 (.int .u8 (.ofNat 0))) 0 (.int .u8 (.ofNat (((((x / 256 % 4294967296) / 256 % 4294967296) / 256 % 4294967296) % 256) % 256)))) false false)).new (.cells (Rp.app (Rp.sub (.rep 0 (.int .u8 (.ofNat 0))) 0 0) (Rp.sub (Rp.set (.rep 1 (.int .u8 (.ofNat 0))) 0 (.int .u8 (.ofNat (((((x / 256 % 4294967296) / 256 % 4294967296) / 256 % 4294967296) % 256) % 256)))) 0 1)) false false)).new (.cells (Rp.set (.rep 1 (.int .u8 (.ofNat 0))) 0 (.int .u8 (.ofNat ((((x / 256 % 4294967296) / 256 % 4294967296) % 256) % 256)))) false false)).kill (((H).new (.cells (.rep 0 (.int .u8 (.ofNat 0))) false false)).new (.cells (Rp.set (.rep 1 (.int .u8 (.ofNat 0))) 0 (.int .u8 (.ofNat (((((x / 256 % 4294967296) / 256 % 4294967296) / 256 % 4294967296) % 256) % 256)))) false false)).n).new (.cells (Rp.app (Rp.sub (Rp.app (Rp.sub (.rep 0 (.int .u8 (.ofNat 0))) 0 0) (Rp.sub (Rp.set (.rep 1 (.int .u8 (.ofNat 0))) 0 (.int .u8 (.ofNat (((((x / 256 % 4294967296) / 256 % 4294967296) / 256 % 4294967296) % 256) % 256)))) 0 1)) 0 1) (Rp.sub (Rp.set (.rep 1 (.int .u8 (.ofNat 0))) 0 (.int .u8 (.ofNat ((((x / 256 % 4294967296) / 256 % 4294967296) % 256) % 256)))) 0 1)) false false)).new (.cells (Rp.set (.rep 1 (.int .u8 (.ofNat 0))) 0 (.int .u8 (.ofNat (((x / 256 % 4294967296) % 256) % 256)))) false false)).kill ((((((H).new (.cells (.rep 0 (.int .u8 (.ofNat 0))) false false)).new (.cells (Rp.set (.rep 1 (.int .u8 (.ofNat 0))) 0 (.int .u8 (.ofNat (((((x / 256 % 4294967296) / 256 % 4294967296) / 256 % 4294967296) % 256) % 256)))) false false)).new (.cells (Rp.app (Rp.sub (.rep 0 (.int .u8 (.ofNat 0))) 0 0) (Rp.sub (Rp.set (.rep 1 (.int .u8 (.ofNat 0))) 0 (.int .u8 (.ofNat (((((x / 256 % 4294967296) / 256 % 4294967296) / 256 % 4294967296) % 256) % 256)))) 0 1)) false false)).new (.cells (Rp.set (.rep 1 (.int .u8 (.ofNat 0))) 0 (.int .u8 (.ofNat ((((x / 256 % 4294967296) / 256 % 4294967296) % 256) % 256)))) false false)).kill (((H).new (.cells (.rep 0 (.int .u8 (.ofNat 0))) false false)).new (.cells (Rp.set (.rep 1 (.int .u8 (.ofNat 0))) 0 (.int .u8 (.ofNat (((((x / 256 % 4294967296) / 256 % 4294967296) / 256 % 4294967296) % 256) % 256)))) false false)).n).n).new (.cells (Rp.app (Rp.sub (Rp.app (Rp.sub (Rp.app (Rp.sub (.rep 0 (.int .u8 (.ofNat 0))) 0 0) (Rp.sub (Rp.set (.rep 1 (.int .u8 (.ofNat 0))) 0 (.int .u8 (.ofNat (((((x / 256 % 4294967296) / 256 % 4294967296) / 256 % 4294967296) % 256) % 256)))) 0 1)) 0 1) (Rp.sub (Rp.set (.rep 1 (.int .u8 (.ofNat 0))) 0 (.int .u8 (.ofNat ((((x / 256 % 4294967296) / 256 % 4294967296) % 256) % 256)))) 0 1)) 0 2) (Rp.sub (Rp.set (.rep 1 (.int .u8 (.ofNat 0))) 0 (.int .u8 (.ofNat (((x / 256 % 4294967296) % 256) % 256)))) 0 1)) false false)).new (.cells (Rp.set (.rep 1 (.int .u8 (.ofNat 0))) 0 (.int .u8 (.ofNat ((x % 256) % 256)))) false false)).kill (((((((((H).new (.cells (.rep 0 (.int .u8 (.ofNat 0))) false false)).new (.cells (Rp.set (.rep 1 (.int .u8 (.ofNat 0))) 0 (.int .u8 (.ofNat (((((x / 256 % 4294967296) / 256 % 4294967296) / 256 % 4294967296) % 256) % 256)))) false false)).new (.cells (Rp.app (Rp.sub (.rep 0 (.int .u8 (.ofNat 0))) 0 0) (Rp.sub (Rp.set (.rep 1 (.int .u8 (.ofNat 0))) 0 (.int .u8 (.ofNat (((((x / 256 % 4294967296) / 256 % 4294967296) / 256 % 4294967296) % 256) % 256)))) 0 1)) false false)).new (.cells (Rp.set (.rep 1 (.int .u8 (.ofNat 0))) 0 (.int .u8 (.ofNat ((((x / 256 % 4294967296) / 256 % 4294967296) % 256) % 256)))) false false)).kill (((H).new (.cells (.rep 0 (.int .u8 (.ofNat 0))) false false)).new (.cells (Rp.set (.rep 1 (.int .u8 (.ofNat 0))) 0 (.int .u8 (.ofNat (((((x / 256 % 4294967296) / 256 % 4294967296) / 256 % 4294967296) % 256) % 256)))) false false)).n).new (.cells (Rp.app (Rp.sub (Rp.app (Rp.sub (.rep 0 (.int .u8 (.ofNat 0))) 0 0) (Rp.sub (Rp.set (.rep 1 (.int .u8 (.ofNat 0))) 0 (.int .u8 (.ofNat (((((x / 256 % 4294967296) / 256 % 4294967296) / 256 % 4294967296) % 256) % 256)))) 0 1)) 0 1) (Rp.sub (Rp.set (.rep 1 (.int .u8 (.ofNat 0))) 0 (.int .u8 (.ofNat ((((x / 256 % 4294967296) / 256 % 4294967296) % 256) % 256)))) 0 1)) false false)).new (.cells (Rp.set (.rep 1 (.int .u8 (.ofNat 0))) 0 (.int .u8 (.ofNat (((x / 256 % 4294967296) % 256) % 256)))) false false)).kill ((((((H).new (.cells (.rep 0 (.int .u8 (.ofNat 0))) false false)).new (.cells (Rp.set (.rep 1 (.int .u8 (.ofNat 0))) 0 (.int .u8 (.ofNat (((((x / 256 % 4294967296) / 256 % 4294967296) / 256 % 4294967296) % 256) % 256)))) false false)).new (.cells (Rp.app (Rp.sub (.rep 0 (.int .u8 (.ofNat 0))) 0 0) (Rp.sub (Rp.set (.rep 1 (.int .u8 (.ofNat 0))) 0 (.int .u8 (.ofNat (((((x / 256 % 4294967296) / 256 % 4294967296) / 256 % 4294967296) % 256) % 256)))) 0 1)) false false)).new (.cells (Rp.set (.rep 1 (.int .u8 (.ofNat 0))) 0 (.int .u8 (.ofNat ((((x / 256 % 4294967296) / 256 % 4294967296) % 256) % 256)))) false false)).kill (((H).new (.cells (.rep 0 (.int .u8 (.ofNat 0))) false false)).new (.cells (Rp.set (.rep 1 (.int .u8 (.ofNat 0))) 0 (.int .u8 (.ofNat (((((x / 256 % 4294967296) / 256 % 4294967296) / 256 % 4294967296) % 256) % 256)))) false false)).n).n).n).new (.cells (Rp.app (Rp.sub (Rp.app (Rp.sub (Rp.app (Rp.sub (Rp.app (Rp.sub (.rep 0 (.int .u8 (.ofNat 0))) 0 0) (Rp.sub (Rp.set (.rep 1 (.int .u8 (.ofNat 0))) 0 (.int .u8 (.ofNat (((((x / 256 % 4294967296) / 256 % 4294967296) / 256 % 4294967296) % 256) % 256)))) 0 1)) 0 1) (Rp.sub (Rp.set (.rep 1 (.int .u8 (.ofNat 0))) 0 (.int .u8 (.ofNat ((((x / 256 % 4294967296) / 256 % 4294967296) % 256) % 256)))) 0 1)) 0 2) (Rp.sub (Rp.set (.rep 1 (.int .u8 (.ofNat 0))) 0 (.int .u8 (.ofNat (((x / 256 % 4294967296) % 256) % 256)))) 0 1)) 0 3) (Rp.sub (Rp.set (.rep 1 (.int .u8 (.ofNat 0))) 0 (.int .u8 (.ofNat ((x % 256) % 256)))) 0 1)) false false), ((((((((((((H).new (.cells (.rep 0 (.int .u8 (.ofNat 0))) false false)).new (.cells (Rp.set (.rep 1 (.int .u8 (.ofNat 0))) 0 (.int .u8 (.ofNat (((((x / 256 % 4294967296) / 256 % 4294967296) / 256 % 4294967296) % 256) % 256)))) false false)).new (.cells (Rp.app (Rp.sub (.rep 0 (.int .u8 (.ofNat 0))) 0 0) (Rp.sub (Rp.set (.rep 1 (.int .u8 (.ofNat 0))) 0 (.int .u8 (.ofNat (((((x / 256 % 4294967296) / 256 % 4294967296) / 256 % 4294967296) % 256) % 256)))) 0 1)) false false)).new (.cells (Rp.set (.rep 1 (.int .u8 (.ofNat 0))) 0 (.int .u8 (.ofNat ((((x / 256 % 4294967296) / 256 % 4294967296) % 256) % 256)))) false false)).kill (((H).new (.cells (.rep 0 (.int .u8 (.ofNat 0))) false false)).new (.cells (Rp.set (.rep 1 (.int .u8 (.ofNat 0))) 0 (.int .u8 (.ofNat (((((x / 256 % 4294967296) / 256 % 4294967296) / 256 % 4294967296) % 256) % 256)))) false false)).n).new (.cells (Rp.app (Rp.sub (Rp.app (Rp.sub (.rep 0 (.int .u8 (.ofNat 0))) 0 0) (Rp.sub (Rp.set (.rep 1 (.int .u8 (.ofNat 0))) 0 (.int .u8 (.ofNat (((((x / 256 % 4294967296) / 256 % 4294967296) / 256 % 4294967296) % 256) % 256)))) 0 1)) 0 1) (Rp.sub (Rp.set (.rep 1 (.int .u8 (.ofNat 0))) 0 (.int .u8 (.ofNat ((((x / 256 % 4294967296) / 256 % 4294967296) % 256) % 256)))) 0 1)) false false)).new (.cells (Rp.set (.rep 1 (.int .u8 (.ofNat 0))) 0 (.int .u8 (.ofNat (((x / 256 % 4294967296) % 256) % 256)))) false false)).kill ((((((H).new (.cells (.rep 0 (.int .u8 (.ofNat 0))) false false)).new (.cells (Rp.set (.rep 1 (.int .u8 (.ofNat 0))) 0 (.int .u8 (.ofNat (((((x / 256 % 4294967296) / 256 % 4294967296) / 256 % 4294967296) % 256) % 256)))) false false)).new (.cells (Rp.app (Rp.sub (.rep 0 (.int .u8 (.ofNat 0))) 0 0) (Rp.sub (Rp.set (.rep 1 (.int .u8 (.ofNat 0))) 0 (.int .u8 (.ofNat (((((x / 256 % 4294967296) / 256 % 4294967296) / 256 % 4294967296) % 256) % 256)))) 0 1)) false false)).new (.cells (Rp.set (.rep 1 (.int .u8 (.ofNat 0))) 0 (.int .u8 (.ofNat ((((x / 256 % 4294967296) / 256 % 4294967296) % 256) % 256)))) false false)).kill (((H).new (.cells (.rep 0 (.int .u8 (.ofNat 0))) false false)).new (.cells (Rp.set (.rep 1 (.int .u8 (.ofNat 0))) 0 (.int .u8 (.ofNat (((((x / 256 % 4294967296) / 256 % 4294967296) / 256 % 4294967296) % 256) % 256)))) false false)).n).n).new (.cells (Rp.app (Rp.sub (Rp.app (Rp.sub (Rp.app (Rp.sub (.rep 0 (.int .u8 (.ofNat 0))) 0 0) (Rp.sub (Rp.set (.rep 1 (.int .u8 (.ofNat 0))) 0 (.int .u8 (.ofNat (((((x / 256 % 4294967296) / 256 % 4294967296) / 256 % 4294967296) % 256) % 256)))) 0 1)) 0 1) (Rp.sub (Rp.set (.rep 1 (.int .u8 (.ofNat 0))) 0 (.int .u8 (.ofNat ((((x / 256 % 4294967296) / 256 % 4294967296) % 256) % 256)))) 0 1)) 0 2) (Rp.sub (Rp.set (.rep 1 (.int .u8 (.ofNat 0))) 0 (.int .u8 (.ofNat (((x / 256 % 4294967296) % 256) % 256)))) 0 1)) false false)).new (.cells (Rp.set (.rep 1 (.int .u8 (.ofNat 0))) 0 (.int .u8 (.ofNat ((x % 256) % 256)))) false false)).kill (((((((((H).new (.cells (.rep 0 (.int .u8 (.ofNat 0))) false false)).new (.cells (Rp.set (.rep 1 (.int .u8 (.ofNat 0))) 0 (.int .u8 (.ofNat (((((x / 256 % 4294967296) / 256 % 4294967296) / 256 % 4294967296) % 256) % 256)))) false false)).new (.cells (Rp.app (Rp.sub (.rep 0 (.int .u8 (.ofNat 0))) 0 0) (Rp.sub (Rp.set (.rep 1 (.int .u8 (.ofNat 0))) 0 (.int .u8 (.ofNat (((((x / 256 % 4294967296) / 256 % 4294967296) / 256 % 4294967296) % 256) % 256)))) 0 1)) false false)).new (.cells (Rp.set (.rep 1 (.int .u8 (.ofNat 0))) 0 (.int .u8 (.ofNat ((((x / 256 % 4294967296) / 256 % 4294967296) % 256) % 256)))) false false)).kill (((H).new (.cells (.rep 0 (.int .u8 (.ofNat 0))) false false)).new (.cells (Rp.set (.rep 1 (.int .u8 (.ofNat 0))) 0 (.int .u8 (.ofNat (((((x / 256 % 4294967296) / 256 % 4294967296) / 256 % 4294967296) % 256) % 256)))) false false)).n).new (.cells (Rp.app (Rp.sub (Rp.app (Rp.sub (.rep 0 (.int .u8 (.ofNat 0))) 0 0) (Rp.sub (Rp.set (.rep 1 (.int .u8 (.ofNat 0))) 0 (.int .u8 (.ofNat (((((x / 256 % 4294967296) / 256 % 4294967296) / 256 % 4294967296) % 256) % 256)))) 0 1)) 0 1) (Rp.sub (Rp.set (.rep 1 (.int .u8 (.ofNat 0))) 0 (.int .u8 (.ofNat ((((x / 256 % 4294967296) / 256 % 4294967296) % 256) % 256)))) 0 1)) false false)).new (.cells (Rp.set (.rep 1 (.int .u8 (.ofNat 0))) 0 (.int .u8 (.ofNat (((x / 256 % 4294967296) % 256) % 256)))) false false)).kill ((((((H).new (.cells (.rep 0 (.int .u8 (.ofNat 0))) false false)).new (.cells (Rp.set (.rep 1 (.int .u8 (.ofNat 0))) 0 (.int .u8 (.ofNat (((((x / 256 % 4294967296) / 256 % 4294967296) / 256 % 4294967296) % 256) % 256)))) false false)).new (.cells (Rp.app (Rp.sub (.rep 0 (.int .u8 (.ofNat 0))) 0 0) (Rp.sub (Rp.set (.rep 1 (.int .u8 (.ofNat 0))) 0 (.int .u8 (.ofNat (((((x / 256 % 4294967296) / 256 % 4294967296) / 256 % 4294967296) % 256) % 256)))) 0 1)) false false)).new (.cells (Rp.set (.rep 1 (.int .u8 (.ofNat 0))) 0 (.int .u8 (.ofNat ((((x / 256 % 4294967296) / 256 % 4294967296) % 256) % 256)))) false false)).kill (((H).new (.cells (.rep 0 (.int .u8 (.ofNat 0))) false false)).new (.cells (Rp.set (.rep 1 (.int .u8 (.ofNat 0))) 0 (.int .u8 (.ofNat (((((x / 256 % 4294967296) / 256 % 4294967296) / 256 % 4294967296) % 256) % 256)))) false false)).n).n).n).n, (((((((((((((Ext.refl H).new (.cells (.rep 0 (.int .u8 (.ofNat 0))) false false)).new (.cells (Rp.set (.rep 1 (.int .u8 (.ofNat 0))) 0 (.int .u8 (.ofNat (((((x / 256 % 4294967296) / 256 % 4294967296) / 256 % 4294967296) % 256) % 256)))) false false)).new (.cells (Rp.app (Rp.sub (.rep 0 (.int .u8 (.ofNat 0))) 0 0) (Rp.sub (Rp.set (.rep 1 (.int .u8 (.ofNat 0))) 0 (.int .u8 (.ofNat (((((x / 256 % 4294967296) / 256 % 4294967296) / 256 % 4294967296) % 256) % 256)))) 0 1)) false false)).new (.cells (Rp.set (.rep 1 (.int .u8 (.ofNat 0))) 0 (.int .u8 (.ofNat ((((x / 256 % 4294967296) / 256 % 4294967296) % 256) % 256)))) false false)).kill _ ((((Ext.refl H).new (.cells (.rep 0 (.int .u8 (.ofNat 0))) false false)).new (.cells (Rp.set (.rep 1 (.int .u8 (.ofNat 0))) 0 (.int .u8 (.ofNat (((((x / 256 % 4294967296) / 256 % 4294967296) / 256 % 4294967296) % 256) % 256)))) false false))).1).new (.cells (Rp.app (Rp.sub (Rp.app (Rp.sub (.rep 0 (.int .u8 (.ofNat 0))) 0 0) (Rp.sub (Rp.set (.rep 1 (.int .u8 (.ofNat 0))) 0 (.int .u8 (.ofNat (((((x / 256 % 4294967296) / 256 % 4294967296) / 256 % 4294967296) % 256) % 256)))) 0 1)) 0 1) (Rp.sub (Rp.set (.rep 1 (.int .u8 (.ofNat 0))) 0 (.int .u8 (.ofNat ((((x / 256 % 4294967296) / 256 % 4294967296) % 256) % 256)))) 0 1)) false false)).new (.cells (Rp.set (.rep 1 (.int .u8 (.ofNat 0))) 0 (.int .u8 (.ofNat (((x / 256 % 4294967296) % 256) % 256)))) false false)).kill _ (((((((Ext.refl H).new (.cells (.rep 0 (.int .u8 (.ofNat 0))) false false)).new (.cells (Rp.set (.rep 1 (.int .u8 (.ofNat 0))) 0 (.int .u8 (.ofNat (((((x / 256 % 4294967296) / 256 % 4294967296) / 256 % 4294967296) % 256) % 256)))) false false)).new (.cells (Rp.app (Rp.sub (.rep 0 (.int .u8 (.ofNat 0))) 0 0) (Rp.sub (Rp.set (.rep 1 (.int .u8 (.ofNat 0))) 0 (.int .u8 (.ofNat (((((x / 256 % 4294967296) / 256 % 4294967296) / 256 % 4294967296) % 256) % 256)))) 0 1)) false false)).new (.cells (Rp.set (.rep 1 (.int .u8 (.ofNat 0))) 0 (.int .u8 (.ofNat ((((x / 256 % 4294967296) / 256 % 4294967296) % 256) % 256)))) false false)).kill _ ((((Ext.refl H).new (.cells (.rep 0 (.int .u8 (.ofNat 0))) false false)).new (.cells (Rp.set (.rep 1 (.int .u8 (.ofNat 0))) 0 (.int .u8 (.ofNat (((((x / 256 % 4294967296) / 256 % 4294967296) / 256 % 4294967296) % 256) % 256)))) false false))).1)).1).new (.cells (Rp.app (Rp.sub (Rp.app (Rp.sub (Rp.app (Rp.sub (.rep 0 (.int .u8 (.ofNat 0))) 0 0) (Rp.sub (Rp.set (.rep 1 (.int .u8 (.ofNat 0))) 0 (.int .u8 (.ofNat (((((x / 256 % 4294967296) / 256 % 4294967296) / 256 % 4294967296) % 256) % 256)))) 0 1)) 0 1) (Rp.sub (Rp.set (.rep 1 (.int .u8 (.ofNat 0))) 0 (.int .u8 (.ofNat ((((x / 256 % 4294967296) / 256 % 4294967296) % 256) % 256)))) 0 1)) 0 2) (Rp.sub (Rp.set (.rep 1 (.int .u8 (.ofNat 0))) 0 (.int .u8 (.ofNat (((x / 256 % 4294967296) % 256) % 256)))) 0 1)) false false)).new (.cells (Rp.set (.rep 1 (.int .u8 (.ofNat 0))) 0 (.int .u8 (.ofNat ((x % 256) % 256)))) false false)).kill _ ((((((((((Ext.refl H).new (.cells (.rep 0 (.int .u8 (.ofNat 0))) false false)).new (.cells (Rp.set (.rep 1 (.int .u8 (.ofNat 0))) 0 (.int .u8 (.ofNat (((((x / 256 % 4294967296) / 256 % 4294967296) / 256 % 4294967296) % 256) % 256)))) false false)).new (.cells (Rp.app (Rp.sub (.rep 0 (.int .u8 (.ofNat 0))) 0 0) (Rp.sub (Rp.set (.rep 1 (.int .u8 (.ofNat 0))) 0 (.int .u8 (.ofNat (((((x / 256 % 4294967296) / 256 % 4294967296) / 256 % 4294967296) % 256) % 256)))) 0 1)) false false)).new (.cells (Rp.set (.rep 1 (.int .u8 (.ofNat 0))) 0 (.int .u8 (.ofNat ((((x / 256 % 4294967296) / 256 % 4294967296) % 256) % 256)))) false false)).kill _ ((((Ext.refl H).new (.cells (.rep 0 (.int .u8 (.ofNat 0))) false false)).new (.cells (Rp.set (.rep 1 (.int .u8 (.ofNat 0))) 0 (.int .u8 (.ofNat (((((x / 256 % 4294967296) / 256 % 4294967296) / 256 % 4294967296) % 256) % 256)))) false false))).1).new (.cells (Rp.app (Rp.sub (Rp.app (Rp.sub (.rep 0 (.int .u8 (.ofNat 0))) 0 0) (Rp.sub (Rp.set (.rep 1 (.int .u8 (.ofNat 0))) 0 (.int .u8 (.ofNat (((((x / 256 % 4294967296) / 256 % 4294967296) / 256 % 4294967296) % 256) % 256)))) 0 1)) 0 1) (Rp.sub (Rp.set (.rep 1 (.int .u8 (.ofNat 0))) 0 (.int .u8 (.ofNat ((((x / 256 % 4294967296) / 256 % 4294967296) % 256) % 256)))) 0 1)) false false)).new (.cells (Rp.set (.rep 1 (.int .u8 (.ofNat 0))) 0 (.int .u8 (.ofNat (((x / 256 % 4294967296) % 256) % 256)))) false false)).kill _ (((((((Ext.refl H).new (.cells (.rep 0 (.int .u8 (.ofNat 0))) false false)).new (.cells (Rp.set (.rep 1 (.int .u8 (.ofNat 0))) 0 (.int .u8 (.ofNat (((((x / 256 % 4294967296) / 256 % 4294967296) / 256 % 4294967296) % 256) % 256)))) false false)).new (.cells (Rp.app (Rp.sub (.rep 0 (.int .u8 (.ofNat 0))) 0 0) (Rp.sub (Rp.set (.rep 1 (.int .u8 (.ofNat 0))) 0 (.int .u8 (.ofNat (((((x / 256 % 4294967296) / 256 % 4294967296) / 256 % 4294967296) % 256) % 256)))) 0 1)) false false)).new (.cells (Rp.set (.rep 1 (.int .u8 (.ofNat 0))) 0 (.int .u8 (.ofNat ((((x / 256 % 4294967296) / 256 % 4294967296) % 256) % 256)))) false false)).kill _ ((((Ext.refl H).new (.cells (.rep 0 (.int .u8 (.ofNat 0))) false false)).new (.cells (Rp.set (.rep 1 (.int .u8 (.ofNat 0))) 0 (.int .u8 (.ofNat (((((x / 256 % 4294967296) / 256 % 4294967296) / 256 % 4294967296) % 256) % 256)))) false false))).1)).1)).1).new (.cells (Rp.app (Rp.sub (Rp.app (Rp.sub (Rp.app (Rp.sub (Rp.app (Rp.sub (.rep 0 (.int .u8 (.ofNat 0))) 0 0) (Rp.sub (Rp.set (.rep 1 (.int .u8 (.ofNat 0))) 0 (.int .u8 (.ofNat (((((x / 256 % 4294967296) / 256 % 4294967296) / 256 % 4294967296) % 256) % 256)))) 0 1)) 0 1) (Rp.sub (Rp.set (.rep 1 (.int .u8 (.ofNat 0))) 0 (.int .u8 (.ofNat ((((x / 256 % 4294967296) / 256 % 4294967296) % 256) % 256)))) 0 1)) 0 2) (Rp.sub (Rp.set (.rep 1 (.int .u8 (.ofNat 0))) 0 (.int .u8 (.ofNat (((x / 256 % 4294967296) % 256) % 256)))) 0 1)) 0 3) (Rp.sub (Rp.set (.rep 1 (.int .u8 (.ofNat 0))) 0 (.int .u8 (.ofNat ((x % 256) % 256)))) 0 1)) false false)), g110, (((((((((((((Ext.refl H).new (.cells (.rep 0 (.int .u8 (.ofNat 0))) false false)).new (.cells (Rp.set (.rep 1 (.int .u8 (.ofNat 0))) 0 (.int .u8 (.ofNat (((((x / 256 % 4294967296) / 256 % 4294967296) / 256 % 4294967296) % 256) % 256)))) false false)).new (.cells (Rp.app (Rp.sub (.rep 0 (.int .u8 (.ofNat 0))) 0 0) (Rp.sub (Rp.set (.rep 1 (.int .u8 (.ofNat 0))) 0 (.int .u8 (.ofNat (((((x / 256 % 4294967296) / 256 % 4294967296) / 256 % 4294967296) % 256) % 256)))) 0 1)) false false)).new (.cells (Rp.set (.rep 1 (.int .u8 (.ofNat 0))) 0 (.int .u8 (.ofNat ((((x / 256 % 4294967296) / 256 % 4294967296) % 256) % 256)))) false false)).kill _ ((((Ext.refl H).new (.cells (.rep 0 (.int .u8 (.ofNat 0))) false false)).new (.cells (Rp.set (.rep 1 (.int .u8 (.ofNat 0))) 0 (.int .u8 (.ofNat (((((x / 256 % 4294967296) / 256 % 4294967296) / 256 % 4294967296) % 256) % 256)))) false false))).1).new (.cells (Rp.app (Rp.sub (Rp.app (Rp.sub (.rep 0 (.int .u8 (.ofNat 0))) 0 0) (Rp.sub (Rp.set (.rep 1 (.int .u8 (.ofNat 0))) 0 (.int .u8 (.ofNat (((((x / 256 % 4294967296) / 256 % 4294967296) / 256 % 4294967296) % 256) % 256)))) 0 1)) 0 1) (Rp.sub (Rp.set (.rep 1 (.int .u8 (.ofNat 0))) 0 (.int .u8 (.ofNat ((((x / 256 % 4294967296) / 256 % 4294967296) % 256) % 256)))) 0 1)) false false)).new (.cells (Rp.set (.rep 1 (.int .u8 (.ofNat 0))) 0 (.int .u8 (.ofNat (((x / 256 % 4294967296) % 256) % 256)))) false false)).kill _ (((((((Ext.refl H).new (.cells (.rep 0 (.int .u8 (.ofNat 0))) false false)).new (.cells (Rp.set (.rep 1 (.int .u8 (.ofNat 0))) 0 (.int .u8 (.ofNat (((((x / 256 % 4294967296) / 256 % 4294967296) / 256 % 4294967296) % 256) % 256)))) false false)).new (.cells (Rp.app (Rp.sub (.rep 0 (.int .u8 (.ofNat 0))) 0 0) (Rp.sub (Rp.set (.rep 1 (.int .u8 (.ofNat 0))) 0 (.int .u8 (.ofNat (((((x / 256 % 4294967296) / 256 % 4294967296) / 256 % 4294967296) % 256) % 256)))) 0 1)) false false)).new (.cells (Rp.set (.rep 1 (.int .u8 (.ofNat 0))) 0 (.int .u8 (.ofNat ((((x / 256 % 4294967296) / 256 % 4294967296) % 256) % 256)))) false false)).kill _ ((((Ext.refl H).new (.cells (.rep 0 (.int .u8 (.ofNat 0))) false false)).new (.cells (Rp.set (.rep 1 (.int .u8 (.ofNat 0))) 0 (.int .u8 (.ofNat (((((x / 256 % 4294967296) / 256 % 4294967296) / 256 % 4294967296) % 256) % 256)))) false false))).1)).1).new (.cells (Rp.app (Rp.sub (Rp.app (Rp.sub (Rp.app (Rp.sub (.rep 0 (.int .u8 (.ofNat 0))) 0 0) (Rp.sub (Rp.set (.rep 1 (.int .u8 (.ofNat 0))) 0 (.int .u8 (.ofNat (((((x / 256 % 4294967296) / 256 % 4294967296) / 256 % 4294967296) % 256) % 256)))) 0 1)) 0 1) (Rp.sub (Rp.set (.rep 1 (.int .u8 (.ofNat 0))) 0 (.int .u8 (.ofNat ((((x / 256 % 4294967296) / 256 % 4294967296) % 256) % 256)))) 0 1)) 0 2) (Rp.sub (Rp.set (.rep 1 (.int .u8 (.ofNat 0))) 0 (.int .u8 (.ofNat (((x / 256 % 4294967296) % 256) % 256)))) 0 1)) false false)).new (.cells (Rp.set (.rep 1 (.int .u8 (.ofNat 0))) 0 (.int .u8 (.ofNat ((x % 256) % 256)))) false false)).kill _ ((((((((((Ext.refl H).new (.cells (.rep 0 (.int .u8 (.ofNat 0))) false false)).new (.cells (Rp.set (.rep 1 (.int .u8 (.ofNat 0))) 0 (.int .u8 (.ofNat (((((x / 256 % 4294967296) / 256 % 4294967296) / 256 % 4294967296) % 256) % 256)))) false false)).new (.cells (Rp.app (Rp.sub (.rep 0 (.int .u8 (.ofNat 0))) 0 0) (Rp.sub (Rp.set (.rep 1 (.int .u8 (.ofNat 0))) 0 (.int .u8 (.ofNat (((((x / 256 % 4294967296) / 256 % 4294967296) / 256 % 4294967296) % 256) % 256)))) 0 1)) false false)).new (.cells (Rp.set (.rep 1 (.int .u8 (.ofNat 0))) 0 (.int .u8 (.ofNat ((((x / 256 % 4294967296) / 256 % 4294967296) % 256) % 256)))) false false)).kill _ ((((Ext.refl H).new (.cells (.rep 0 (.int .u8 (.ofNat 0))) false false)).new (.cells (Rp.set (.rep 1 (.int .u8 (.ofNat 0))) 0 (.int .u8 (.ofNat (((((x / 256 % 4294967296) / 256 % 4294967296) / 256 % 4294967296) % 256) % 256)))) false false))).1).new (.cells (Rp.app (Rp.sub (Rp.app (Rp.sub (.rep 0 (.int .u8 (.ofNat 0))) 0 0) (Rp.sub (Rp.set (.rep 1 (.int .u8 (.ofNat 0))) 0 (.int .u8 (.ofNat (((((x / 256 % 4294967296) / 256 % 4294967296) / 256 % 4294967296) % 256) % 256)))) 0 1)) 0 1) (Rp.sub (Rp.set (.rep 1 (.int .u8 (.ofNat 0))) 0 (.int .u8 (.ofNat ((((x / 256 % 4294967296) / 256 % 4294967296) % 256) % 256)))) 0 1)) false false)).new (.cells (Rp.set (.rep 1 (.int .u8 (.ofNat 0))) 0 (.int .u8 (.ofNat (((x / 256 % 4294967296) % 256) % 256)))) false false)).kill _ (((((((Ext.refl H).new (.cells (.rep 0 (.int .u8 (.ofNat 0))) false false)).new (.cells (Rp.set (.rep 1 (.int .u8 (.ofNat 0))) 0 (.int .u8 (.ofNat (((((x / 256 % 4294967296) / 256 % 4294967296) / 256 % 4294967296) % 256) % 256)))) false false)).new (.cells (Rp.app (Rp.sub (.rep 0 (.int .u8 (.ofNat 0))) 0 0) (Rp.sub (Rp.set (.rep 1 (.int .u8 (.ofNat 0))) 0 (.int .u8 (.ofNat (((((x / 256 % 4294967296) / 256 % 4294967296) / 256 % 4294967296) % 256) % 256)))) 0 1)) false false)).new (.cells (Rp.set (.rep 1 (.int .u8 (.ofNat 0))) 0 (.int .u8 (.ofNat ((((x / 256 % 4294967296) / 256 % 4294967296) % 256) % 256)))) false false)).kill _ ((((Ext.refl H).new (.cells (.rep 0 (.int .u8 (.ofNat 0))) false false)).new (.cells (Rp.set (.rep 1 (.int .u8 (.ofNat 0))) 0 (.int .u8 (.ofNat (((((x / 256 % 4294967296) / 256 % 4294967296) / 256 % 4294967296) % 256) % 256)))) false false))).1)).1)).1)).1, l111, Does.of hF fun k => ?_⟩
  show den _ _ none irFour.body [.nils, (.int .u32 (.ofNat x)), .tup [], .tup [], .tup [], .tup [], .tup [], .tup [], .tup [], .tup [], .tup [], .tup [], .tup [], .tup [], .tup [], .tup [], .tup [], .tup [], .tup [], .tup [], .tup [], .tup [], .tup [], .tup [], .tup [], .tup [], .tup [], .tup [], .tup [], .tup [], .tup []] [] H (finK irFour k) = _
  unfold irFour
  refine (den_seq ..).trans ?_
  refine (den_reg ..).trans ?_
  refine (runOps_cons ..).trans ((step_mv ..).trans ?_)
  refine (runOps_nil ..).trans ?_
  refine (den_seq ..).trans ?_
  refine (den_reg ..).trans ?_
  refine (runOps_cons ..).trans ((stepE (v := (.slc (H).n 0 0 0)) (by intro f as h; cases h) (fun K => w_bsl (r := (.rep 0 (.int .u8 (.ofNat 0)))) (by intro K; rfl) K) _).trans ?_)
  refine (runOps_cons ..).trans ((step_mv ..).trans ?_)
  refine (runOps_cons ..).trans ((stepE (v := (.slc (H).n 0 0 0)) (by intro f as h; cases h) (fun K => w_lit (by intro K; rfl) K) _).trans ?_)
  refine (runOps_cons ..).trans ((step_mv ..).trans ?_)
  refine (runOps_nil ..).trans ?_
  refine (den_seq ..).trans ?_
  refine (den_seq ..).trans ?_
  refine (den_reg ..).trans ?_
  refine (runOps_cons ..).trans ((step_mv ..).trans ?_)
  refine (runOps_nil ..).trans ?_
  refine (den_block ..).trans ?_
  refine (den_loop' ..).trans ?_
  refine (iter_succ ..).trans ?_
  refine (den_seq ..).trans ?_
  refine (den_seq ..).trans ?_
  refine (den_reg ..).trans ?_
  refine (runOps_cons ..).trans ((step_mv ..).trans ?_)
  refine (runOps_cons ..).trans ((stepE (v := (.bool true)) (by intro f as h; cases h) (fun K => w_lit (v := (.bool true)) (by intro K; rfl) K) _).trans ?_)
  refine (runOps_nil ..).trans ?_
  refine (den_condT rfl).trans ?_
  refine (den_skip ..).trans ?_
  refine (den_seq ..).trans ?_
  refine (den_block ..).trans ?_
  refine (den_seq ..).trans ?_
  refine (den_reg ..).trans ?_
  refine (runOps_cons ..).trans ((step_mv ..).trans ?_)
  refine (runOps_cons ..).trans ((step_mv ..).trans ?_)
  refine (runOps_nil ..).trans ?_
  refine (den_seq ..).trans ?_
  refine (den_seq ..).trans ?_
  refine (den_reg ..).trans ?_
  refine (runOps_cons ..).trans ((step_mv ..).trans ?_)
  refine (runOps_nil ..).trans ?_
  refine (den_block ..).trans ?_
  refine (den_loop' ..).trans ?_
  refine (iter_succ ..).trans ?_
  refine (den_seq ..).trans ?_
  refine (den_seq ..).trans ?_
  refine (den_reg ..).trans ?_
  refine (runOps_cons ..).trans ((step_mv ..).trans ?_)
  refine (runOps_cons ..).trans ((step_mv ..).trans ?_)
  refine (runOps_cons ..).trans ((stepE (v := (.bool true)) (by intro f as h; cases h) (fun K => w_lit (v := (.bool true)) (by intro K; rfl) K) _).trans ?_)
  refine (runOps_nil ..).trans ?_
  refine (den_condT rfl).trans ?_
  refine (den_skip ..).trans ?_
  refine (den_seq ..).trans ?_
  refine (den_block ..).trans ?_
  refine (den_reg ..).trans ?_
  refine (runOps_cons ..).trans ((step_mv ..).trans ?_)
  refine (runOps_cons ..).trans ((stepE (v := (.int .u32 (.ofNat (x / 256 % 4294967296)))) (by intro f as h; cases h) (fun K => w_bin (fun K => quo_u32 (a := x) (b := 256) (by decide) K) K) _).trans ?_)
  refine (runOps_cons ..).trans ((step_mv ..).trans ?_)
  refine (runOps_nil ..).trans ?_
  refine (den_reg ..).trans ?_
  refine (runOps_cons ..).trans ((step_mv ..).trans ?_)
  refine (runOps_cons ..).trans ((stepE (v := (.int .i64 (.ofNat 1))) (by intro f as h; cases h) (fun K => w_lit (v := (.int .i64 (.ofNat 1))) (by intro K; rfl) K) _).trans ?_)
  refine (runOps_cons ..).trans ((step_mv ..).trans ?_)
  refine (runOps_nil ..).trans ?_
  refine (iter_succ ..).trans ?_
  refine (den_seq ..).trans ?_
  refine (den_seq ..).trans ?_
  refine (den_reg ..).trans ?_
  refine (runOps_cons ..).trans ((step_mv ..).trans ?_)
  refine (runOps_cons ..).trans ((step_mv ..).trans ?_)
  refine (runOps_cons ..).trans ((stepE (v := (.bool true)) (by intro f as h; cases h) (fun K => w_lit (v := (.bool true)) (by intro K; rfl) K) _).trans ?_)
  refine (runOps_nil ..).trans ?_
  refine (den_condT rfl).trans ?_
  refine (den_skip ..).trans ?_
  refine (den_seq ..).trans ?_
  refine (den_block ..).trans ?_
  refine (den_reg ..).trans ?_
  refine (runOps_cons ..).trans ((step_mv ..).trans ?_)
  refine (runOps_cons ..).trans ((stepE (v := (.int .u32 (.ofNat ((x / 256 % 4294967296) / 256 % 4294967296)))) (by intro f as h; cases h) (fun K => w_bin (fun K => quo_u32 (a := (x / 256 % 4294967296)) (b := 256) (by decide) K) K) _).trans ?_)
  refine (runOps_cons ..).trans ((step_mv ..).trans ?_)
  refine (runOps_nil ..).trans ?_
  refine (den_reg ..).trans ?_
  refine (runOps_cons ..).trans ((step_mv ..).trans ?_)
  refine (runOps_cons ..).trans ((stepE (v := (.int .i64 (.ofNat 2))) (by intro f as h; cases h) (fun K => w_lit (v := (.int .i64 (.ofNat 2))) (by intro K; rfl) K) _).trans ?_)
  refine (runOps_cons ..).trans ((step_mv ..).trans ?_)
  refine (runOps_nil ..).trans ?_
  refine (iter_succ ..).trans ?_
  refine (den_seq ..).trans ?_
  refine (den_seq ..).trans ?_
  refine (den_reg ..).trans ?_
  refine (runOps_cons ..).trans ((step_mv ..).trans ?_)
  refine (runOps_cons ..).trans ((step_mv ..).trans ?_)
  refine (runOps_cons ..).trans ((stepE (v := (.bool true)) (by intro f as h; cases h) (fun K => w_lit (v := (.bool true)) (by intro K; rfl) K) _).trans ?_)
  refine (runOps_nil ..).trans ?_
  refine (den_condT rfl).trans ?_
  refine (den_skip ..).trans ?_
  refine (den_seq ..).trans ?_
  refine (den_block ..).trans ?_
  refine (den_reg ..).trans ?_
  refine (runOps_cons ..).trans ((step_mv ..).trans ?_)
  refine (runOps_cons ..).trans ((stepE (v := (.int .u32 (.ofNat (((x / 256 % 4294967296) / 256 % 4294967296) / 256 % 4294967296)))) (by intro f as h; cases h) (fun K => w_bin (fun K => quo_u32 (a := ((x / 256 % 4294967296) / 256 % 4294967296)) (b := 256) (by decide) K) K) _).trans ?_)
  refine (runOps_cons ..).trans ((step_mv ..).trans ?_)
  refine (runOps_nil ..).trans ?_
  refine (den_reg ..).trans ?_
  refine (runOps_cons ..).trans ((step_mv ..).trans ?_)
  refine (runOps_cons ..).trans ((stepE (v := (.int .i64 (.ofNat 3))) (by intro f as h; cases h) (fun K => w_lit (v := (.int .i64 (.ofNat 3))) (by intro K; rfl) K) _).trans ?_)
  refine (runOps_cons ..).trans ((step_mv ..).trans ?_)
  refine (runOps_nil ..).trans ?_
  refine (iter_succ ..).trans ?_
  refine (den_seq ..).trans ?_
  refine (den_seq ..).trans ?_
  refine (den_reg ..).trans ?_
  refine (runOps_cons ..).trans ((step_mv ..).trans ?_)
  refine (runOps_cons ..).trans ((step_mv ..).trans ?_)
  refine (runOps_cons ..).trans ((stepE (v := (.bool false)) (by intro f as h; cases h) (fun K => w_lit (v := (.bool false)) (by intro K; rfl) K) _).trans ?_)
  refine (runOps_nil ..).trans ?_
  refine (den_condF rfl).trans ?_
  refine (den_exit ..).trans ?_
  refine (cond_beq ..).trans ?_
  refine (den_reg ..).trans ?_
  refine (runOps_cons ..).trans ((step_mv ..).trans ?_)
  refine (runOps_cons ..).trans ((step_mv ..).trans ?_)
  refine (runOps_cons ..).trans ((stepE (v := (.int .u32 (.ofNat ((((x / 256 % 4294967296) / 256 % 4294967296) / 256 % 4294967296) % 256)))) (by intro f as h; cases h) (fun K => w_bin (fun K => rem_u32 (a := (((x / 256 % 4294967296) / 256 % 4294967296) / 256 % 4294967296)) (b := 256) (by decide) K) K) _).trans ?_)
  refine (runOps_cons ..).trans ((stepE (v := (.int .u8 (.ofNat (((((x / 256 % 4294967296) / 256 % 4294967296) / 256 % 4294967296) % 256) % 256)))) (by intro f as h; cases h) (fun K => w_cvi (r := (((((x / 256 % 4294967296) / 256 % 4294967296) / 256 % 4294967296) % 256) % 256)) (by rfl) (by rfl) K) _).trans ?_)
  refine (runOps_cons ..).trans ((stepE (v := (.slc ((H).new (.cells (.rep 0 (.int .u8 (.ofNat 0))) false false)).n 0 1 1)) (by intro f as h; cases h) (fun K => w_bsl (r := (Rp.set (.rep 1 (.int .u8 (.ofNat 0))) 0 (.int .u8 (.ofNat (((((x / 256 % 4294967296) / 256 % 4294967296) / 256 % 4294967296) % 256) % 256))))) (by intro K; rfl) K) _).trans ?_)
  refine (runOps_cons ..).trans ((stepE (v := (.slu (((H).new (.cells (.rep 0 (.int .u8 (.ofNat 0))) false false)).new (.cells (Rp.set (.rep 1 (.int .u8 (.ofNat 0))) 0 (.int .u8 (.ofNat (((((x / 256 % 4294967296) / 256 % 4294967296) / 256 % 4294967296) % 256) % 256)))) false false)).n 0 1 1)) (by intro f as h; cases h) (fun K => w_appslc (m := 1) (by rfl) (by rfl) g6 g4 (by rfl) (by rfl) (by rfl) (by rfl) (by rfl) (by rfl) K) _).trans ?_)
  refine (runOps_cons ..).trans ((step_mv ..).trans ?_)
  refine (runOps_nil ..).trans ?_
  refine (den_reg ..).trans ?_
  refine (runOps_cons ..).trans ((step_mv ..).trans ?_)
  refine (runOps_cons ..).trans ((stepE (v := (.int .i64 (.ofNat 2))) (by intro f as h; cases h) (fun K => w_lit (v := (.int .i64 (.ofNat 2))) (by intro K; rfl) K) _).trans ?_)
  refine (runOps_cons ..).trans ((step_mv ..).trans ?_)
  refine (runOps_nil ..).trans ?_
  refine (iter_succ ..).trans ?_
  refine (den_seq ..).trans ?_
  refine (den_seq ..).trans ?_
  refine (den_reg ..).trans ?_
  refine (runOps_cons ..).trans ((step_mv ..).trans ?_)
  refine (runOps_cons ..).trans ((stepE (v := (.bool true)) (by intro f as h; cases h) (fun K => w_lit (v := (.bool true)) (by intro K; rfl) K) _).trans ?_)
  refine (runOps_nil ..).trans ?_
  refine (den_condT rfl).trans ?_
  refine (den_skip ..).trans ?_
  refine (den_seq ..).trans ?_
  refine (den_block ..).trans ?_
  refine (den_seq ..).trans ?_
  refine (den_reg ..).trans ?_
  refine (runOps_cons ..).trans ((step_mv ..).trans ?_)
  refine (runOps_cons ..).trans ((step_mv ..).trans ?_)
  refine (runOps_nil ..).trans ?_
  refine (den_seq ..).trans ?_
  refine (den_seq ..).trans ?_
  refine (den_reg ..).trans ?_
  refine (runOps_cons ..).trans ((step_mv ..).trans ?_)
  refine (runOps_nil ..).trans ?_
  refine (den_block ..).trans ?_
  refine (den_loop' ..).trans ?_
  refine (iter_succ ..).trans ?_
  refine (den_seq ..).trans ?_
  refine (den_seq ..).trans ?_
  refine (den_reg ..).trans ?_
  refine (runOps_cons ..).trans ((step_mv ..).trans ?_)
  refine (runOps_cons ..).trans ((step_mv ..).trans ?_)
  refine (runOps_cons ..).trans ((stepE (v := (.bool true)) (by intro f as h; cases h) (fun K => w_lit (v := (.bool true)) (by intro K; rfl) K) _).trans ?_)
  refine (runOps_nil ..).trans ?_
  refine (den_condT rfl).trans ?_
  refine (den_skip ..).trans ?_
  refine (den_seq ..).trans ?_
  refine (den_block ..).trans ?_
  refine (den_reg ..).trans ?_
  refine (runOps_cons ..).trans ((step_mv ..).trans ?_)
  refine (runOps_cons ..).trans ((stepE (v := (.int .u32 (.ofNat (x / 256 % 4294967296)))) (by intro f as h; cases h) (fun K => w_bin (fun K => quo_u32 (a := x) (b := 256) (by decide) K) K) _).trans ?_)
  refine (runOps_cons ..).trans ((step_mv ..).trans ?_)
  refine (runOps_nil ..).trans ?_
  refine (den_reg ..).trans ?_
  refine (runOps_cons ..).trans ((step_mv ..).trans ?_)
  refine (runOps_cons ..).trans ((stepE (v := (.int .i64 (.ofNat 1))) (by intro f as h; cases h) (fun K => w_lit (v := (.int .i64 (.ofNat 1))) (by intro K; rfl) K) _).trans ?_)
  refine (runOps_cons ..).trans ((step_mv ..).trans ?_)
  refine (runOps_nil ..).trans ?_
  refine (iter_succ ..).trans ?_
  refine (den_seq ..).trans ?_
  refine (den_seq ..).trans ?_
  refine (den_reg ..).trans ?_
  refine (runOps_cons ..).trans ((step_mv ..).trans ?_)
  refine (runOps_cons ..).trans ((step_mv ..).trans ?_)
  refine (runOps_cons ..).trans ((stepE (v := (.bool true)) (by intro f as h; cases h) (fun K => w_lit (v := (.bool true)) (by intro K; rfl) K) _).trans ?_)
  refine (runOps_nil ..).trans ?_
  refine (den_condT rfl).trans ?_
  refine (den_skip ..).trans ?_
  refine (den_seq ..).trans ?_
  refine (den_block ..).trans ?_
  refine (den_reg ..).trans ?_
  refine (runOps_cons ..).trans ((step_mv ..).trans ?_)
  refine (runOps_cons ..).trans ((stepE (v := (.int .u32 (.ofNat ((x / 256 % 4294967296) / 256 % 4294967296)))) (by intro f as h; cases h) (fun K => w_bin (fun K => quo_u32 (a := (x / 256 % 4294967296)) (b := 256) (by decide) K) K) _).trans ?_)
  refine (runOps_cons ..).trans ((step_mv ..).trans ?_)
  refine (runOps_nil ..).trans ?_
  refine (den_reg ..).trans ?_
  refine (runOps_cons ..).trans ((step_mv ..).trans ?_)
  refine (runOps_cons ..).trans ((stepE (v := (.int .i64 (.ofNat 2))) (by intro f as h; cases h) (fun K => w_lit (v := (.int .i64 (.ofNat 2))) (by intro K; rfl) K) _).trans ?_)
  refine (runOps_cons ..).trans ((step_mv ..).trans ?_)
  refine (runOps_nil ..).trans ?_
  refine (iter_succ ..).trans ?_
  refine (den_seq ..).trans ?_
  refine (den_seq ..).trans ?_
  refine (den_reg ..).trans ?_
  refine (runOps_cons ..).trans ((step_mv ..).trans ?_)
  refine (runOps_cons ..).trans ((step_mv ..).trans ?_)
  refine (runOps_cons ..).trans ((stepE (v := (.bool false)) (by intro f as h; cases h) (fun K => w_lit (v := (.bool false)) (by intro K; rfl) K) _).trans ?_)
  refine (runOps_nil ..).trans ?_
  refine (den_condF rfl).trans ?_
  refine (den_exit ..).trans ?_
  refine (cond_beq ..).trans ?_
  refine (den_reg ..).trans ?_
  refine (runOps_cons ..).trans ((step_mv ..).trans ?_)
  refine (runOps_cons ..).trans ((step_mv ..).trans ?_)
  refine (runOps_cons ..).trans ((stepE (v := (.int .u32 (.ofNat (((x / 256 % 4294967296) / 256 % 4294967296) % 256)))) (by intro f as h; cases h) (fun K => w_bin (fun K => rem_u32 (a := ((x / 256 % 4294967296) / 256 % 4294967296)) (b := 256) (by decide) K) K) _).trans ?_)
  refine (runOps_cons ..).trans ((stepE (v := (.int .u8 (.ofNat ((((x / 256 % 4294967296) / 256 % 4294967296) % 256) % 256)))) (by intro f as h; cases h) (fun K => w_cvi (r := ((((x / 256 % 4294967296) / 256 % 4294967296) % 256) % 256)) (by rfl) (by rfl) K) _).trans ?_)
  refine (runOps_cons ..).trans ((stepE (v := (.slc ((((H).new (.cells (.rep 0 (.int .u8 (.ofNat 0))) false false)).new (.cells (Rp.set (.rep 1 (.int .u8 (.ofNat 0))) 0 (.int .u8 (.ofNat (((((x / 256 % 4294967296) / 256 % 4294967296) / 256 % 4294967296) % 256) % 256)))) false false)).new (.cells (Rp.app (Rp.sub (.rep 0 (.int .u8 (.ofNat 0))) 0 0) (Rp.sub (Rp.set (.rep 1 (.int .u8 (.ofNat 0))) 0 (.int .u8 (.ofNat (((((x / 256 % 4294967296) / 256 % 4294967296) / 256 % 4294967296) % 256) % 256)))) 0 1)) false false)).n 0 1 1)) (by intro f as h; cases h) (fun K => w_bsl (r := (Rp.set (.rep 1 (.int .u8 (.ofNat 0))) 0 (.int .u8 (.ofNat ((((x / 256 % 4294967296) / 256 % 4294967296) % 256) % 256))))) (by intro K; rfl) K) _).trans ?_)
  refine (runOps_cons ..).trans ((stepE (v := (.slu ((((((H).new (.cells (.rep 0 (.int .u8 (.ofNat 0))) false false)).new (.cells (Rp.set (.rep 1 (.int .u8 (.ofNat 0))) 0 (.int .u8 (.ofNat (((((x / 256 % 4294967296) / 256 % 4294967296) / 256 % 4294967296) % 256) % 256)))) false false)).new (.cells (Rp.app (Rp.sub (.rep 0 (.int .u8 (.ofNat 0))) 0 0) (Rp.sub (Rp.set (.rep 1 (.int .u8 (.ofNat 0))) 0 (.int .u8 (.ofNat (((((x / 256 % 4294967296) / 256 % 4294967296) / 256 % 4294967296) % 256) % 256)))) 0 1)) false false)).new (.cells (Rp.set (.rep 1 (.int .u8 (.ofNat 0))) 0 (.int .u8 (.ofNat ((((x / 256 % 4294967296) / 256 % 4294967296) % 256) % 256)))) false false)).kill (((H).new (.cells (.rep 0 (.int .u8 (.ofNat 0))) false false)).new (.cells (Rp.set (.rep 1 (.int .u8 (.ofNat 0))) 0 (.int .u8 (.ofNat (((((x / 256 % 4294967296) / 256 % 4294967296) / 256 % 4294967296) % 256) % 256)))) false false)).n).n 0 2 1)) (by intro f as h; cases h) (fun K => w_appslu (m := 2) (by rfl) (by rfl) g25 g23 (by rfl) (by rfl) (by rfl) (by rfl) (by rfl) (by rfl) K) _).trans ?_)
  refine (runOps_cons ..).trans ((step_mv ..).trans ?_)
  refine (runOps_nil ..).trans ?_
  refine (den_reg ..).trans ?_
  refine (runOps_cons ..).trans ((step_mv ..).trans ?_)
  refine (runOps_cons ..).trans ((stepE (v := (.int .i64 (.ofNat 1))) (by intro f as h; cases h) (fun K => w_lit (v := (.int .i64 (.ofNat 1))) (by intro K; rfl) K) _).trans ?_)
  refine (runOps_cons ..).trans ((step_mv ..).trans ?_)
  refine (runOps_nil ..).trans ?_
  refine (iter_succ ..).trans ?_
  refine (den_seq ..).trans ?_
  refine (den_seq ..).trans ?_
  refine (den_reg ..).trans ?_
  refine (runOps_cons ..).trans ((step_mv ..).trans ?_)
  refine (runOps_cons ..).trans ((stepE (v := (.bool true)) (by intro f as h; cases h) (fun K => w_lit (v := (.bool true)) (by intro K; rfl) K) _).trans ?_)
  refine (runOps_nil ..).trans ?_
  refine (den_condT rfl).trans ?_
  refine (den_skip ..).trans ?_
  refine (den_seq ..).trans ?_
  refine (den_block ..).trans ?_
  refine (den_seq ..).trans ?_
  refine (den_reg ..).trans ?_
  refine (runOps_cons ..).trans ((step_mv ..).trans ?_)
  refine (runOps_cons ..).trans ((step_mv ..).trans ?_)
  refine (runOps_nil ..).trans ?_
  refine (den_seq ..).trans ?_
  refine (den_seq ..).trans ?_
  refine (den_reg ..).trans ?_
  refine (runOps_cons ..).trans ((step_mv ..).trans ?_)
  refine (runOps_nil ..).trans ?_
  refine (den_block ..).trans ?_
  refine (den_loop' ..).trans ?_
  refine (iter_succ ..).trans ?_
  refine (den_seq ..).trans ?_
  refine (den_seq ..).trans ?_
  refine (den_reg ..).trans ?_
  refine (runOps_cons ..).trans ((step_mv ..).trans ?_)
  refine (runOps_cons ..).trans ((step_mv ..).trans ?_)
  refine (runOps_cons ..).trans ((stepE (v := (.bool true)) (by intro f as h; cases h) (fun K => w_lit (v := (.bool true)) (by intro K; rfl) K) _).trans ?_)
  refine (runOps_nil ..).trans ?_
  refine (den_condT rfl).trans ?_
  refine (den_skip ..).trans ?_
  refine (den_seq ..).trans ?_
  refine (den_block ..).trans ?_
  refine (den_reg ..).trans ?_
  refine (runOps_cons ..).trans ((step_mv ..).trans ?_)
  refine (runOps_cons ..).trans ((stepE (v := (.int .u32 (.ofNat (x / 256 % 4294967296)))) (by intro f as h; cases h) (fun K => w_bin (fun K => quo_u32 (a := x) (b := 256) (by decide) K) K) _).trans ?_)
  refine (runOps_cons ..).trans ((step_mv ..).trans ?_)
  refine (runOps_nil ..).trans ?_
  refine (den_reg ..).trans ?_
  refine (runOps_cons ..).trans ((step_mv ..).trans ?_)
  refine (runOps_cons ..).trans ((stepE (v := (.int .i64 (.ofNat 1))) (by intro f as h; cases h) (fun K => w_lit (v := (.int .i64 (.ofNat 1))) (by intro K; rfl) K) _).trans ?_)
  refine (runOps_cons ..).trans ((step_mv ..).trans ?_)
  refine (runOps_nil ..).trans ?_
  refine (iter_succ ..).trans ?_
  refine (den_seq ..).trans ?_
  refine (den_seq ..).trans ?_
  refine (den_reg ..).trans ?_
  refine (runOps_cons ..).trans ((step_mv ..).trans ?_)
  refine (runOps_cons ..).trans ((step_mv ..).trans ?_)
  refine (runOps_cons ..).trans ((stepE (v := (.bool false)) (by intro f as h; cases h) (fun K => w_lit (v := (.bool false)) (by intro K; rfl) K) _).trans ?_)
  refine (runOps_nil ..).trans ?_
  refine (den_condF rfl).trans ?_
  refine (den_exit ..).trans ?_
  refine (cond_beq ..).trans ?_
  refine (den_reg ..).trans ?_
  refine (runOps_cons ..).trans ((step_mv ..).trans ?_)
  refine (runOps_cons ..).trans ((step_mv ..).trans ?_)
  refine (runOps_cons ..).trans ((stepE (v := (.int .u32 (.ofNat ((x / 256 % 4294967296) % 256)))) (by intro f as h; cases h) (fun K => w_bin (fun K => rem_u32 (a := (x / 256 % 4294967296)) (b := 256) (by decide) K) K) _).trans ?_)
  refine (runOps_cons ..).trans ((stepE (v := (.int .u8 (.ofNat (((x / 256 % 4294967296) % 256) % 256)))) (by intro f as h; cases h) (fun K => w_cvi (r := (((x / 256 % 4294967296) % 256) % 256)) (by rfl) (by rfl) K) _).trans ?_)
  refine (runOps_cons ..).trans ((stepE (v := (.slc (((((((H).new (.cells (.rep 0 (.int .u8 (.ofNat 0))) false false)).new (.cells (Rp.set (.rep 1 (.int .u8 (.ofNat 0))) 0 (.int .u8 (.ofNat (((((x / 256 % 4294967296) / 256 % 4294967296) / 256 % 4294967296) % 256) % 256)))) false false)).new (.cells (Rp.app (Rp.sub (.rep 0 (.int .u8 (.ofNat 0))) 0 0) (Rp.sub (Rp.set (.rep 1 (.int .u8 (.ofNat 0))) 0 (.int .u8 (.ofNat (((((x / 256 % 4294967296) / 256 % 4294967296) / 256 % 4294967296) % 256) % 256)))) 0 1)) false false)).new (.cells (Rp.set (.rep 1 (.int .u8 (.ofNat 0))) 0 (.int .u8 (.ofNat ((((x / 256 % 4294967296) / 256 % 4294967296) % 256) % 256)))) false false)).kill (((H).new (.cells (.rep 0 (.int .u8 (.ofNat 0))) false false)).new (.cells (Rp.set (.rep 1 (.int .u8 (.ofNat 0))) 0 (.int .u8 (.ofNat (((((x / 256 % 4294967296) / 256 % 4294967296) / 256 % 4294967296) % 256) % 256)))) false false)).n).new (.cells (Rp.app (Rp.sub (Rp.app (Rp.sub (.rep 0 (.int .u8 (.ofNat 0))) 0 0) (Rp.sub (Rp.set (.rep 1 (.int .u8 (.ofNat 0))) 0 (.int .u8 (.ofNat (((((x / 256 % 4294967296) / 256 % 4294967296) / 256 % 4294967296) % 256) % 256)))) 0 1)) 0 1) (Rp.sub (Rp.set (.rep 1 (.int .u8 (.ofNat 0))) 0 (.int .u8 (.ofNat ((((x / 256 % 4294967296) / 256 % 4294967296) % 256) % 256)))) 0 1)) false false)).n 0 1 1)) (by intro f as h; cases h) (fun K => w_bsl (r := (Rp.set (.rep 1 (.int .u8 (.ofNat 0))) 0 (.int .u8 (.ofNat (((x / 256 % 4294967296) % 256) % 256))))) (by intro K; rfl) K) _).trans ?_)
  refine (runOps_cons ..).trans ((stepE (v := (.slu (((((((((H).new (.cells (.rep 0 (.int .u8 (.ofNat 0))) false false)).new (.cells (Rp.set (.rep 1 (.int .u8 (.ofNat 0))) 0 (.int .u8 (.ofNat (((((x / 256 % 4294967296) / 256 % 4294967296) / 256 % 4294967296) % 256) % 256)))) false false)).new (.cells (Rp.app (Rp.sub (.rep 0 (.int .u8 (.ofNat 0))) 0 0) (Rp.sub (Rp.set (.rep 1 (.int .u8 (.ofNat 0))) 0 (.int .u8 (.ofNat (((((x / 256 % 4294967296) / 256 % 4294967296) / 256 % 4294967296) % 256) % 256)))) 0 1)) false false)).new (.cells (Rp.set (.rep 1 (.int .u8 (.ofNat 0))) 0 (.int .u8 (.ofNat ((((x / 256 % 4294967296) / 256 % 4294967296) % 256) % 256)))) false false)).kill (((H).new (.cells (.rep 0 (.int .u8 (.ofNat 0))) false false)).new (.cells (Rp.set (.rep 1 (.int .u8 (.ofNat 0))) 0 (.int .u8 (.ofNat (((((x / 256 % 4294967296) / 256 % 4294967296) / 256 % 4294967296) % 256) % 256)))) false false)).n).new (.cells (Rp.app (Rp.sub (Rp.app (Rp.sub (.rep 0 (.int .u8 (.ofNat 0))) 0 0) (Rp.sub (Rp.set (.rep 1 (.int .u8 (.ofNat 0))) 0 (.int .u8 (.ofNat (((((x / 256 % 4294967296) / 256 % 4294967296) / 256 % 4294967296) % 256) % 256)))) 0 1)) 0 1) (Rp.sub (Rp.set (.rep 1 (.int .u8 (.ofNat 0))) 0 (.int .u8 (.ofNat ((((x / 256 % 4294967296) / 256 % 4294967296) % 256) % 256)))) 0 1)) false false)).new (.cells (Rp.set (.rep 1 (.int .u8 (.ofNat 0))) 0 (.int .u8 (.ofNat (((x / 256 % 4294967296) % 256) % 256)))) false false)).kill ((((((H).new (.cells (.rep 0 (.int .u8 (.ofNat 0))) false false)).new (.cells (Rp.set (.rep 1 (.int .u8 (.ofNat 0))) 0 (.int .u8 (.ofNat (((((x / 256 % 4294967296) / 256 % 4294967296) / 256 % 4294967296) % 256) % 256)))) false false)).new (.cells (Rp.app (Rp.sub (.rep 0 (.int .u8 (.ofNat 0))) 0 0) (Rp.sub (Rp.set (.rep 1 (.int .u8 (.ofNat 0))) 0 (.int .u8 (.ofNat (((((x / 256 % 4294967296) / 256 % 4294967296) / 256 % 4294967296) % 256) % 256)))) 0 1)) false false)).new (.cells (Rp.set (.rep 1 (.int .u8 (.ofNat 0))) 0 (.int .u8 (.ofNat ((((x / 256 % 4294967296) / 256 % 4294967296) % 256) % 256)))) false false)).kill (((H).new (.cells (.rep 0 (.int .u8 (.ofNat 0))) false false)).new (.cells (Rp.set (.rep 1 (.int .u8 (.ofNat 0))) 0 (.int .u8 (.ofNat (((((x / 256 % 4294967296) / 256 % 4294967296) / 256 % 4294967296) % 256) % 256)))) false false)).n).n).n 0 3 1)) (by intro f as h; cases h) (fun K => w_appslu (m := 3) (by rfl) (by rfl) g53 g51 (by rfl) (by rfl) (by rfl) (by rfl) (by rfl) (by rfl) K) _).trans ?_)
  refine (runOps_cons ..).trans ((step_mv ..).trans ?_)
  refine (runOps_nil ..).trans ?_
  refine (den_reg ..).trans ?_
  refine (runOps_cons ..).trans ((step_mv ..).trans ?_)
  refine (runOps_cons ..).trans ((stepE (v := (.int .i64 (.ofNat 0))) (by intro f as h; cases h) (fun K => w_lit (v := (.int .i64 (.ofNat 0))) (by intro K; rfl) K) _).trans ?_)
  refine (runOps_cons ..).trans ((step_mv ..).trans ?_)
  refine (runOps_nil ..).trans ?_
  refine (iter_succ ..).trans ?_
  refine (den_seq ..).trans ?_
  refine (den_seq ..).trans ?_
  refine (den_reg ..).trans ?_
  refine (runOps_cons ..).trans ((step_mv ..).trans ?_)
  refine (runOps_cons ..).trans ((stepE (v := (.bool true)) (by intro f as h; cases h) (fun K => w_lit (v := (.bool true)) (by intro K; rfl) K) _).trans ?_)
  refine (runOps_nil ..).trans ?_
  refine (den_condT rfl).trans ?_
  refine (den_skip ..).trans ?_
  refine (den_seq ..).trans ?_
  refine (den_block ..).trans ?_
  refine (den_seq ..).trans ?_
  refine (den_reg ..).trans ?_
  refine (runOps_cons ..).trans ((step_mv ..).trans ?_)
  refine (runOps_cons ..).trans ((step_mv ..).trans ?_)
  refine (runOps_nil ..).trans ?_
  refine (den_seq ..).trans ?_
  refine (den_seq ..).trans ?_
  refine (den_reg ..).trans ?_
  refine (runOps_cons ..).trans ((step_mv ..).trans ?_)
  refine (runOps_nil ..).trans ?_
  refine (den_block ..).trans ?_
  refine (den_loop' ..).trans ?_
  refine (iter_succ ..).trans ?_
  refine (den_seq ..).trans ?_
  refine (den_seq ..).trans ?_
  refine (den_reg ..).trans ?_
  refine (runOps_cons ..).trans ((step_mv ..).trans ?_)
  refine (runOps_cons ..).trans ((step_mv ..).trans ?_)
  refine (runOps_cons ..).trans ((stepE (v := (.bool false)) (by intro f as h; cases h) (fun K => w_lit (v := (.bool false)) (by intro K; rfl) K) _).trans ?_)
  refine (runOps_nil ..).trans ?_
  refine (den_condF rfl).trans ?_
  refine (den_exit ..).trans ?_
  refine (cond_beq ..).trans ?_
  refine (den_reg ..).trans ?_
  refine (runOps_cons ..).trans ((step_mv ..).trans ?_)
  refine (runOps_cons ..).trans ((step_mv ..).trans ?_)
  refine (runOps_cons ..).trans ((stepE (v := (.int .u32 (.ofNat (x % 256)))) (by intro f as h; cases h) (fun K => w_bin (fun K => rem_u32 (a := x) (b := 256) (by decide) K) K) _).trans ?_)
  refine (runOps_cons ..).trans ((stepE (v := (.int .u8 (.ofNat ((x % 256) % 256)))) (by intro f as h; cases h) (fun K => w_cvi (r := ((x % 256) % 256)) (by rfl) (by rfl) K) _).trans ?_)
  refine (runOps_cons ..).trans ((stepE (v := (.slc ((((((((((H).new (.cells (.rep 0 (.int .u8 (.ofNat 0))) false false)).new (.cells (Rp.set (.rep 1 (.int .u8 (.ofNat 0))) 0 (.int .u8 (.ofNat (((((x / 256 % 4294967296) / 256 % 4294967296) / 256 % 4294967296) % 256) % 256)))) false false)).new (.cells (Rp.app (Rp.sub (.rep 0 (.int .u8 (.ofNat 0))) 0 0) (Rp.sub (Rp.set (.rep 1 (.int .u8 (.ofNat 0))) 0 (.int .u8 (.ofNat (((((x / 256 % 4294967296) / 256 % 4294967296) / 256 % 4294967296) % 256) % 256)))) 0 1)) false false)).new (.cells (Rp.set (.rep 1 (.int .u8 (.ofNat 0))) 0 (.int .u8 (.ofNat ((((x / 256 % 4294967296) / 256 % 4294967296) % 256) % 256)))) false false)).kill (((H).new (.cells (.rep 0 (.int .u8 (.ofNat 0))) false false)).new (.cells (Rp.set (.rep 1 (.int .u8 (.ofNat 0))) 0 (.int .u8 (.ofNat (((((x / 256 % 4294967296) / 256 % 4294967296) / 256 % 4294967296) % 256) % 256)))) false false)).n).new (.cells (Rp.app (Rp.sub (Rp.app (Rp.sub (.rep 0 (.int .u8 (.ofNat 0))) 0 0) (Rp.sub (Rp.set (.rep 1 (.int .u8 (.ofNat 0))) 0 (.int .u8 (.ofNat (((((x / 256 % 4294967296) / 256 % 4294967296) / 256 % 4294967296) % 256) % 256)))) 0 1)) 0 1) (Rp.sub (Rp.set (.rep 1 (.int .u8 (.ofNat 0))) 0 (.int .u8 (.ofNat ((((x / 256 % 4294967296) / 256 % 4294967296) % 256) % 256)))) 0 1)) false false)).new (.cells (Rp.set (.rep 1 (.int .u8 (.ofNat 0))) 0 (.int .u8 (.ofNat (((x / 256 % 4294967296) % 256) % 256)))) false false)).kill ((((((H).new (.cells (.rep 0 (.int .u8 (.ofNat 0))) false false)).new (.cells (Rp.set (.rep 1 (.int .u8 (.ofNat 0))) 0 (.int .u8 (.ofNat (((((x / 256 % 4294967296) / 256 % 4294967296) / 256 % 4294967296) % 256) % 256)))) false false)).new (.cells (Rp.app (Rp.sub (.rep 0 (.int .u8 (.ofNat 0))) 0 0) (Rp.sub (Rp.set (.rep 1 (.int .u8 (.ofNat 0))) 0 (.int .u8 (.ofNat (((((x / 256 % 4294967296) / 256 % 4294967296) / 256 % 4294967296) % 256) % 256)))) 0 1)) false false)).new (.cells (Rp.set (.rep 1 (.int .u8 (.ofNat 0))) 0 (.int .u8 (.ofNat ((((x / 256 % 4294967296) / 256 % 4294967296) % 256) % 256)))) false false)).kill (((H).new (.cells (.rep 0 (.int .u8 (.ofNat 0))) false false)).new (.cells (Rp.set (.rep 1 (.int .u8 (.ofNat 0))) 0 (.int .u8 (.ofNat (((((x / 256 % 4294967296) / 256 % 4294967296) / 256 % 4294967296) % 256) % 256)))) false false)).n).n).new (.cells (Rp.app (Rp.sub (Rp.app (Rp.sub (Rp.app (Rp.sub (.rep 0 (.int .u8 (.ofNat 0))) 0 0) (Rp.sub (Rp.set (.rep 1 (.int .u8 (.ofNat 0))) 0 (.int .u8 (.ofNat (((((x / 256 % 4294967296) / 256 % 4294967296) / 256 % 4294967296) % 256) % 256)))) 0 1)) 0 1) (Rp.sub (Rp.set (.rep 1 (.int .u8 (.ofNat 0))) 0 (.int .u8 (.ofNat ((((x / 256 % 4294967296) / 256 % 4294967296) % 256) % 256)))) 0 1)) 0 2) (Rp.sub (Rp.set (.rep 1 (.int .u8 (.ofNat 0))) 0 (.int .u8 (.ofNat (((x / 256 % 4294967296) % 256) % 256)))) 0 1)) false false)).n 0 1 1)) (by intro f as h; cases h) (fun K => w_bsl (r := (Rp.set (.rep 1 (.int .u8 (.ofNat 0))) 0 (.int .u8 (.ofNat ((x % 256) % 256))))) (by intro K; rfl) K) _).trans ?_)
  refine (runOps_cons ..).trans ((stepE (v := (.slu ((((((((((((H).new (.cells (.rep 0 (.int .u8 (.ofNat 0))) false false)).new (.cells (Rp.set (.rep 1 (.int .u8 (.ofNat 0))) 0 (.int .u8 (.ofNat (((((x / 256 % 4294967296) / 256 % 4294967296) / 256 % 4294967296) % 256) % 256)))) false false)).new (.cells (Rp.app (Rp.sub (.rep 0 (.int .u8 (.ofNat 0))) 0 0) (Rp.sub (Rp.set (.rep 1 (.int .u8 (.ofNat 0))) 0 (.int .u8 (.ofNat (((((x / 256 % 4294967296) / 256 % 4294967296) / 256 % 4294967296) % 256) % 256)))) 0 1)) false false)).new (.cells (Rp.set (.rep 1 (.int .u8 (.ofNat 0))) 0 (.int .u8 (.ofNat ((((x / 256 % 4294967296) / 256 % 4294967296) % 256) % 256)))) false false)).kill (((H).new (.cells (.rep 0 (.int .u8 (.ofNat 0))) false false)).new (.cells (Rp.set (.rep 1 (.int .u8 (.ofNat 0))) 0 (.int .u8 (.ofNat (((((x / 256 % 4294967296) / 256 % 4294967296) / 256 % 4294967296) % 256) % 256)))) false false)).n).new (.cells (Rp.app (Rp.sub (Rp.app (Rp.sub (.rep 0 (.int .u8 (.ofNat 0))) 0 0) (Rp.sub (Rp.set (.rep 1 (.int .u8 (.ofNat 0))) 0 (.int .u8 (.ofNat (((((x / 256 % 4294967296) / 256 % 4294967296) / 256 % 4294967296) % 256) % 256)))) 0 1)) 0 1) (Rp.sub (Rp.set (.rep 1 (.int .u8 (.ofNat 0))) 0 (.int .u8 (.ofNat ((((x / 256 % 4294967296) / 256 % 4294967296) % 256) % 256)))) 0 1)) false false)).new (.cells (Rp.set (.rep 1 (.int .u8 (.ofNat 0))) 0 (.int .u8 (.ofNat (((x / 256 % 4294967296) % 256) % 256)))) false false)).kill ((((((H).new (.cells (.rep 0 (.int .u8 (.ofNat 0))) false false)).new (.cells (Rp.set (.rep 1 (.int .u8 (.ofNat 0))) 0 (.int .u8 (.ofNat (((((x / 256 % 4294967296) / 256 % 4294967296) / 256 % 4294967296) % 256) % 256)))) false false)).new (.cells (Rp.app (Rp.sub (.rep 0 (.int .u8 (.ofNat 0))) 0 0) (Rp.sub (Rp.set (.rep 1 (.int .u8 (.ofNat 0))) 0 (.int .u8 (.ofNat (((((x / 256 % 4294967296) / 256 % 4294967296) / 256 % 4294967296) % 256) % 256)))) 0 1)) false false)).new (.cells (Rp.set (.rep 1 (.int .u8 (.ofNat 0))) 0 (.int .u8 (.ofNat ((((x / 256 % 4294967296) / 256 % 4294967296) % 256) % 256)))) false false)).kill (((H).new (.cells (.rep 0 (.int .u8 (.ofNat 0))) false false)).new (.cells (Rp.set (.rep 1 (.int .u8 (.ofNat 0))) 0 (.int .u8 (.ofNat (((((x / 256 % 4294967296) / 256 % 4294967296) / 256 % 4294967296) % 256) % 256)))) false false)).n).n).new (.cells (Rp.app (Rp.sub (Rp.app (Rp.sub (Rp.app (Rp.sub (.rep 0 (.int .u8 (.ofNat 0))) 0 0) (Rp.sub (Rp.set (.rep 1 (.int .u8 (.ofNat 0))) 0 (.int .u8 (.ofNat (((((x / 256 % 4294967296) / 256 % 4294967296) / 256 % 4294967296) % 256) % 256)))) 0 1)) 0 1) (Rp.sub (Rp.set (.rep 1 (.int .u8 (.ofNat 0))) 0 (.int .u8 (.ofNat ((((x / 256 % 4294967296) / 256 % 4294967296) % 256) % 256)))) 0 1)) 0 2) (Rp.sub (Rp.set (.rep 1 (.int .u8 (.ofNat 0))) 0 (.int .u8 (.ofNat (((x / 256 % 4294967296) % 256) % 256)))) 0 1)) false false)).new (.cells (Rp.set (.rep 1 (.int .u8 (.ofNat 0))) 0 (.int .u8 (.ofNat ((x % 256) % 256)))) false false)).kill (((((((((H).new (.cells (.rep 0 (.int .u8 (.ofNat 0))) false false)).new (.cells (Rp.set (.rep 1 (.int .u8 (.ofNat 0))) 0 (.int .u8 (.ofNat (((((x / 256 % 4294967296) / 256 % 4294967296) / 256 % 4294967296) % 256) % 256)))) false false)).new (.cells (Rp.app (Rp.sub (.rep 0 (.int .u8 (.ofNat 0))) 0 0) (Rp.sub (Rp.set (.rep 1 (.int .u8 (.ofNat 0))) 0 (.int .u8 (.ofNat (((((x / 256 % 4294967296) / 256 % 4294967296) / 256 % 4294967296) % 256) % 256)))) 0 1)) false false)).new (.cells (Rp.set (.rep 1 (.int .u8 (.ofNat 0))) 0 (.int .u8 (.ofNat ((((x / 256 % 4294967296) / 256 % 4294967296) % 256) % 256)))) false false)).kill (((H).new (.cells (.rep 0 (.int .u8 (.ofNat 0))) false false)).new (.cells (Rp.set (.rep 1 (.int .u8 (.ofNat 0))) 0 (.int .u8 (.ofNat (((((x / 256 % 4294967296) / 256 % 4294967296) / 256 % 4294967296) % 256) % 256)))) false false)).n).new (.cells (Rp.app (Rp.sub (Rp.app (Rp.sub (.rep 0 (.int .u8 (.ofNat 0))) 0 0) (Rp.sub (Rp.set (.rep 1 (.int .u8 (.ofNat 0))) 0 (.int .u8 (.ofNat (((((x / 256 % 4294967296) / 256 % 4294967296) / 256 % 4294967296) % 256) % 256)))) 0 1)) 0 1) (Rp.sub (Rp.set (.rep 1 (.int .u8 (.ofNat 0))) 0 (.int .u8 (.ofNat ((((x / 256 % 4294967296) / 256 % 4294967296) % 256) % 256)))) 0 1)) false false)).new (.cells (Rp.set (.rep 1 (.int .u8 (.ofNat 0))) 0 (.int .u8 (.ofNat (((x / 256 % 4294967296) % 256) % 256)))) false false)).kill ((((((H).new (.cells (.rep 0 (.int .u8 (.ofNat 0))) false false)).new (.cells (Rp.set (.rep 1 (.int .u8 (.ofNat 0))) 0 (.int .u8 (.ofNat (((((x / 256 % 4294967296) / 256 % 4294967296) / 256 % 4294967296) % 256) % 256)))) false false)).new (.cells (Rp.app (Rp.sub (.rep 0 (.int .u8 (.ofNat 0))) 0 0) (Rp.sub (Rp.set (.rep 1 (.int .u8 (.ofNat 0))) 0 (.int .u8 (.ofNat (((((x / 256 % 4294967296) / 256 % 4294967296) / 256 % 4294967296) % 256) % 256)))) 0 1)) false false)).new (.cells (Rp.set (.rep 1 (.int .u8 (.ofNat 0))) 0 (.int .u8 (.ofNat ((((x / 256 % 4294967296) / 256 % 4294967296) % 256) % 256)))) false false)).kill (((H).new (.cells (.rep 0 (.int .u8 (.ofNat 0))) false false)).new (.cells (Rp.set (.rep 1 (.int .u8 (.ofNat 0))) 0 (.int .u8 (.ofNat (((((x / 256 % 4294967296) / 256 % 4294967296) / 256 % 4294967296) % 256) % 256)))) false false)).n).n).n).n 0 4 1)) (by intro f as h; cases h) (fun K => w_appslu (m := 4) (by rfl) (by rfl) g88 g86 (by rfl) (by rfl) (by rfl) (by rfl) (by rfl) (by rfl) K) _).trans ?_)
  refine (runOps_cons ..).trans ((step_mv ..).trans ?_)
  refine (runOps_nil ..).trans ?_
  refine (den_reg ..).trans ?_
  refine (runOps_cons ..).trans ((step_mv ..).trans ?_)
  refine (runOps_cons ..).trans ((stepE (v := (.int .i64 (.negSucc 0))) (by intro f as h; cases h) (fun K => w_lit (v := (.int .i64 (.negSucc 0))) (by intro K; rfl) K) _).trans ?_)
  refine (runOps_cons ..).trans ((step_mv ..).trans ?_)
  refine (runOps_nil ..).trans ?_
  refine (iter_succ ..).trans ?_
  refine (den_seq ..).trans ?_
  refine (den_seq ..).trans ?_
  refine (den_reg ..).trans ?_
  refine (runOps_cons ..).trans ((step_mv ..).trans ?_)
  refine (runOps_cons ..).trans ((stepE (v := (.bool false)) (by intro f as h; cases h) (fun K => w_lit (v := (.bool false)) (by intro K; rfl) K) _).trans ?_)
  refine (runOps_nil ..).trans ?_
  refine (den_condF rfl).trans ?_
  refine (den_exit ..).trans ?_
  refine (cond_beq ..).trans ?_
  refine (den_seq ..).trans ?_
  refine (den_reg ..).trans ?_
  refine (runOps_cons ..).trans ((step_mv ..).trans ?_)
  refine (runOps_cons ..).trans ((step_mv ..).trans ?_)
  refine (runOps_nil ..).trans ?_
  refine (den_ret ..).trans ?_
  exact fin_tmp (by rfl) (by rfl) k

theorem step_does {tbl : Nat → Option FT} {N f : Nat} {gStep : Nat} (hSt : tbl gStep = some (.code irStep)) (u c : Nat) (H : AH) : Does (RUN tbl N (f + 1)) gStep [.int .u64 (.ofNat u), .int .u8 (.ofNat c)] H (.int .u64 (.ofNat (fnvS u (c % 18446744073709551616)))) H := by
  refine Does.of hSt fun k => ?_
  show den _ _ none irStep.body [(.int .u64 (.ofNat u)), (.int .u8 (.ofNat c)), .tup [], .tup [], .tup [], .tup [], .tup [], .tup [], .tup [], .tup []] [] H (finK irStep k) = _
  unfold irStep
  refine (den_seq ..).trans ?_
  refine (den_reg ..).trans ?_
  refine (runOps_cons ..).trans ((step_mv ..).trans ?_)
  refine (runOps_nil ..).trans ?_
  refine (den_seq ..).trans ?_
  refine (den_reg ..).trans ?_
  refine (runOps_cons ..).trans ((step_mv ..).trans ?_)
  refine (runOps_cons ..).trans ((step_mv ..).trans ?_)
  refine (runOps_cons ..).trans ((stepE (v := (.int .u64 (.ofNat (c % 18446744073709551616)))) (by intro f as h; cases h) (fun K => w_cvi (r := (c % 18446744073709551616)) (by rfl) (by rfl) K) _).trans ?_)
  refine (runOps_cons ..).trans ((stepE (v := (.int .u64 (.ofNat (fnvX u (c % 18446744073709551616))))) (by intro f as h; cases h) (fun K => w_bin (fun K => xor_u64 u (c % 18446744073709551616) _ _ K) K) _).trans ?_)
  refine (runOps_cons ..).trans ((stepE (v := (.int .u64 (.ofNat (fnvS u (c % 18446744073709551616))))) (by intro f as h; cases h) (fun K => w_bin (fun K => mul_u64 (fnvX u (c % 18446744073709551616)) 1099511628211 _ _ K) K) _).trans ?_)
  refine (runOps_cons ..).trans ((step_mv ..).trans ?_)
  refine (runOps_nil ..).trans ?_
  refine (den_ret ..).trans ?_
  exact fin_tmp (by rfl) (by rfl) k

def fromBody (gStep : Nat) : IR := (.seq (.seq (.reg [⟨some 6, .mv (.tmp 5), none⟩, ⟨some 7, .mv (.tmp 1), none⟩, ⟨some 8, .len 0 (.tmp 7), none⟩, ⟨some 9, .bin .lss 0 (.tmp 6) (.tmp 8), none⟩]) (.cond (.tmp 9) .skip (.exit 0))) (.seq (.block 1 (.reg [⟨some 12, .mv (.tmp 0), none⟩, ⟨some 13, .mv (.tmp 1), none⟩, ⟨some 14, .mv (.tmp 5), none⟩, ⟨some 15, .ist (.tmp 13) (.tmp 14), none⟩, ⟨some 16, .call (.cst (.fn (.fn (.func gStep)) [] [])) [(.tmp 12), (.tmp 15)], none⟩, ⟨some 0, .mv (.tmp 16), none⟩])) (.reg [⟨some 10, .mv (.tmp 5), none⟩, ⟨some 11, .bin .add 0 (.tmp 10) (.cst (.int .i64 1)), none⟩, ⟨some 5, .mv (.tmp 11), none⟩])))
def irFrom (gStep : Nat) : FnIR := ⟨18, [.tmp 4], (.seq (.reg [⟨some 4, .mv (.cst (.int .u64 0)), none⟩]) (.seq (.seq (.reg [⟨some 5, .mv (.cst (.int .i64 0)), none⟩]) (.block 0 (.loop (fromBody gStep)))) (.seq (.reg [⟨some 17, .mv (.tmp 0), none⟩, ⟨some 4, .mv (.tmp 17), none⟩]) .ret)))⟩
theorem fnvS_mod (u c : Nat) : fnvS u (c % 18446744073709551616) = fnvS u c := by unfold fnvS fnvX; rw [Nat.mod_mod]
theorem from_body {tbl : Nat → Option FT} {N f gStep : Nat} (hSt : tbl gStep = some (.code irStep)) {s : List Nat} {i u c : Nat} (hi : s[i]? = some c) (hin : i < s.length) (hn : s.length ≤ 9223372036854775807) (x2 x3 x4 x6 x7 x8 x9 x10 x11 x12 x13 x14 x15 x16 x17 : AV) (ds : List Nat) (H : AH) (k : Kc) : den (RUN tbl N (f + 1)) N none (fromBody gStep) [(.int .u64 (.ofNat u)), (.str s), x2, x3, x4, (.int .i64 (.ofNat i)), x6, x7, x8, x9, x10, x11, x12, x13, x14, x15, x16, x17] ds H k = k .normal [(.int .u64 (.ofNat (fnvS u c))), (.str s), x2, x3, x4, (.int .i64 (.ofNat (i + 1))), (.int .i64 (.ofNat i)), (.str s), (.int .i64 (.ofNat (s.length))), (.bool true), (.int .i64 (.ofNat i)), (.int .i64 (.ofNat (i + 1))), (.int .u64 (.ofNat u)), (.str s), (.int .i64 (.ofNat i)), (.int .u8 (.ofNat c)), (.int .u64 (.ofNat (fnvS u c))), x17] ds H := by
  have d1 : Does (RUN tbl N (f + 1)) gStep [.int .u64 (.ofNat u), .int .u8 (.ofNat c)] (H) (.int .u64 (.ofNat (fnvS u c))) (H) := by rw [← fnvS_mod]; exact step_does (tbl := tbl) (N := N) (f := f) hSt u c (H)
  unfold fromBody
  refine (den_seq ..).trans ?_
  refine (den_seq ..).trans ?_
  refine (den_reg ..).trans ?_
  refine (runOps_cons ..).trans ((step_mv ..).trans ?_)
  refine (runOps_cons ..).trans ((step_mv ..).trans ?_)
  refine (runOps_cons ..).trans ((stepE (v := (.int .i64 (.ofNat (s.length)))) (by intro f as h; cases h) (fun K => w_lens (s := s) (n := (s.length)) (by rfl) (by rfl) K) _).trans ?_)
  refine (runOps_cons ..).trans ((stepE (v := (.bool true)) (by intro f as h; cases h) (fun K => w_bin (fun K => on_lss i s.length hin _ K) K) _).trans ?_)
  refine (runOps_nil ..).trans ?_
  refine (den_condT rfl).trans ?_
  refine (den_skip ..).trans ?_
  refine (den_seq ..).trans ?_
  refine (den_block ..).trans ?_
  refine (den_reg ..).trans ?_
  refine (runOps_cons ..).trans ((step_mv ..).trans ?_)
  refine (runOps_cons ..).trans ((step_mv ..).trans ?_)
  refine (runOps_cons ..).trans ((step_mv ..).trans ?_)
  refine (runOps_cons ..).trans ((stepE (v := (.int .u8 (.ofNat c))) (by intro f as h; cases h) (fun K => w_ist (by rfl) (by rfl) hi K) _).trans ?_)
  refine (runOps_cons ..).trans ((w_call d1 rfl rfl _).trans ?_)
  refine (runOps_cons ..).trans ((step_mv ..).trans ?_)
  refine (runOps_nil ..).trans ?_
  refine (den_reg ..).trans ?_
  refine (runOps_cons ..).trans ((step_mv ..).trans ?_)
  refine (runOps_cons ..).trans ((stepE (v := (.int .i64 (.ofNat (i + 1)))) (by intro f as h; cases h) (fun K => w_bin (fun K => add_i64 i 1 (by omega) _ _ K) K) _).trans ?_)
  refine (runOps_cons ..).trans ((step_mv ..).trans ?_)
  refine (runOps_nil ..).trans ?_
  rfl
theorem from_stop {tbl : Nat → Option FT} {N f gStep : Nat} (hSt : tbl gStep = some (.code irStep)) {s : List Nat} {u : Nat} (x2 x3 x4 x6 x7 x8 x9 x10 x11 x12 x13 x14 x15 x16 x17 : AV) (ds : List Nat) (H : AH) (k : Kc) : den (RUN tbl N (f + 1)) N none (fromBody gStep) [(.int .u64 (.ofNat u)), (.str s), x2, x3, x4, (.int .i64 (.ofNat (s.length))), x6, x7, x8, x9, x10, x11, x12, x13, x14, x15, x16, x17] ds H k = k (.exit 0) [(.int .u64 (.ofNat u)), (.str s), x2, x3, x4, (.int .i64 (.ofNat (s.length))), (.int .i64 (.ofNat (s.length))), (.str s), (.int .i64 (.ofNat (s.length))), (.bool false), x10, x11, x12, x13, x14, x15, x16, x17] ds H := by
  unfold fromBody
  refine (den_seq ..).trans ?_
  refine (den_seq ..).trans ?_
  refine (den_reg ..).trans ?_
  refine (runOps_cons ..).trans ((step_mv ..).trans ?_)
  refine (runOps_cons ..).trans ((step_mv ..).trans ?_)
  refine (runOps_cons ..).trans ((stepE (v := (.int .i64 (.ofNat (s.length)))) (by intro f as h; cases h) (fun K => w_lens (s := s) (n := (s.length)) (by rfl) (by rfl) K) _).trans ?_)
  refine (runOps_cons ..).trans ((stepE (v := (.bool false)) (by intro f as h; cases h) (fun K => w_bin (fun K => on_lss' s.length s.length (by omega) _ K) K) _).trans ?_)
  refine (runOps_nil ..).trans ?_
  refine (den_condF rfl).trans ?_
  rfl
def FromE (s : List Nat) (i u : Nat) (env : Env) : Prop := ∃ x2 x3 x4 x6 x7 x8 x9 x10 x11 x12 x13 x14 x15 x16 x17 : AV, env = [(.int .u64 (.ofNat u)), (.str s), x2, x3, x4, (.int .i64 (.ofNat i)), x6, x7, x8, x9, x10, x11, x12, x13, x14, x15, x16, x17]
theorem from_iter {tbl : Nat → Option FT} {N f gStep : Nat} (hSt : tbl gStep = some (.code irStep)) (s : List Nat) (hn : s.length ≤ 9223372036854775807) (ds : List Nat) (H : AH) : ∀ (m i u : Nat) (env : Env) (fu : Nat), FromE s i u env → i + m = s.length → m < fu →
    ∃ env', FromE s s.length ((s.drop i).foldl fnvS u) env' ∧ ∀ k : Kc, iter (den (RUN tbl N (f + 1)) N none (fromBody gStep)) fu env ds H k = k (.exit 0) env' ds H
  | 0, i, u, env, fu + 1, ⟨x2, x3, x4, x6, x7, x8, x9, x10, x11, x12, x13, x14, x15, x16, x17, he⟩, hi, _ => by
    subst he
    have hi' : i = s.length := by omega
    subst hi'
    rw [List.drop_length]
    refine ⟨_, ⟨x2, x3, x4, (.int .i64 (.ofNat (s.length))), (.str s), (.int .i64 (.ofNat (s.length))), (.bool false), x10, x11, x12, x13, x14, x15, x16, x17, rfl⟩, fun k => ?_⟩
    rw [iter_succ, from_stop hSt]
    rfl
  | m + 1, i, u, env, fu + 1, ⟨x2, x3, x4, x6, x7, x8, x9, x10, x11, x12, x13, x14, x15, x16, x17, he⟩, hi, hf => by
    subst he
    have hlt : i < s.length := by omega
    obtain ⟨c, hc⟩ : ∃ c, s[i]? = some c := ⟨s[i], List.getElem?_eq_getElem hlt⟩
    have hd : s.drop i = c :: s.drop (i + 1) := by
      rw [List.drop_eq_getElem_cons hlt]
      congr 1
      rw [List.getElem?_eq_getElem hlt] at hc
      exact Option.some.inj hc
    obtain ⟨env', h2, h3⟩ := from_iter hSt s hn ds H m (i + 1) (fnvS u c) _ fu ⟨x2, x3, x4, (.int .i64 (.ofNat i)), (.str s), (.int .i64 (.ofNat (s.length))), (.bool true), (.int .i64 (.ofNat i)), (.int .i64 (.ofNat (i + 1))), (.int .u64 (.ofNat u)), (.str s), (.int .i64 (.ofNat i)), (.int .u8 (.ofNat c)), (.int .u64 (.ofNat (fnvS u c))), x17, rfl⟩ (by omega) (by omega)
    rw [hd]
    exact ⟨env', h2, fun k => by rw [iter_succ, from_body hSt hc hlt hn]; exact h3 k⟩
theorem from_does {tbl : Nat → Option FT} {N f gFrom gStep : Nat} (hFr : tbl gFrom = some (.code (irFrom gStep))) (hSt : tbl gStep = some (.code irStep)) (u : Nat) (s : List Nat) (hs : s.length ≤ 9223372036854775807) (hN : s.length < N) (H : AH) : Does (RUN tbl N (f + 1 + 1)) gFrom [.int .u64 (.ofNat u), .str s] H (.int .u64 (.ofNat (s.foldl fnvS u))) H := by
  obtain ⟨env', ⟨y2, y3, y4, y6, y7, y8, y9, y10, y11, y12, y13, y14, y15, y16, y17, he⟩, h3⟩ := from_iter (N := N) (f := f) hSt s hs [] H s.length 0 u [(.int .u64 (.ofNat u)), (.str s), (.tup []), (.tup []), (.int .u64 (.ofNat 0)), (.int .i64 (.ofNat 0)), (.tup []), (.tup []), (.tup []), (.tup []), (.tup []), (.tup []), (.tup []), (.tup []), (.tup []), (.tup []), (.tup []), (.tup [])] N ⟨(.tup []), (.tup []), (.int .u64 (.ofNat 0)), (.tup []), (.tup []), (.tup []), (.tup []), (.tup []), (.tup []), (.tup []), (.tup []), (.tup []), (.tup []), (.tup []), (.tup []), rfl⟩ (by omega) hN
  rw [List.drop_zero] at he
  subst he
  refine Does.of hFr fun k => ?_
  show den _ _ none (irFrom gStep).body [.int .u64 (.ofNat u), .str s, .tup [], .tup [], .tup [], .tup [], .tup [], .tup [], .tup [], .tup [], .tup [], .tup [], .tup [], .tup [], .tup [], .tup [], .tup [], .tup []] [] H (finK (irFrom gStep) k) = _
  unfold irFrom
  refine (den_seq ..).trans ?_
  refine (den_reg ..).trans ?_
  refine (runOps_cons ..).trans ((step_mv ..).trans ?_)
  refine (runOps_nil ..).trans ?_
  refine (den_seq ..).trans ?_
  refine (den_seq ..).trans ?_
  refine (den_reg ..).trans ?_
  refine (runOps_cons ..).trans ((step_mv ..).trans ?_)
  refine (runOps_nil ..).trans ?_
  refine (den_block ..).trans ?_
  refine (den_loop' ..).trans ?_
  refine (h3 _).trans ?_
  refine (cond_beq ..).trans ?_
  refine (den_seq ..).trans ?_
  refine (den_reg ..).trans ?_
  refine (runOps_cons ..).trans ((step_mv ..).trans ?_)
  refine (runOps_cons ..).trans ((step_mv ..).trans ?_)
  refine (runOps_nil ..).trans ?_
  refine (den_ret ..).trans ?_
  exact fin_tmp (by rfl) (by rfl) k

def pofV (w s : List Nat) : Nat := List.foldl fnvS (fnvLong (List.foldl fnvS (fnvLong 14695981039346656037 ((w.length) % 18446744073709551616)) w) ((s.length) % 18446744073709551616)) s
def irSum (gWord gOf : Nat) : FnIR := ⟨12, [.tmp 4], (.seq (.reg [⟨some 4, .mv (.cst (.int .u64 0)), none⟩]) (.seq (.reg [⟨some 5, .mv (.tmp 0), none⟩, ⟨some 6, .cvi .u32 (.tmp 5), none⟩, ⟨some 7, .call (.cst (.fn (.fn (.func gWord)) [] [])) [(.cst .nils), (.tmp 6)], none⟩, ⟨some 8, .b2s (.tmp 7), none⟩, ⟨some 9, .mv (.tmp 1), none⟩, ⟨some 10, .bsl 2 (.rep 2 (.str [])) [(0, 1, (.tmp 8)), (1, 1, (.tmp 9))], none⟩, ⟨some 11, .call (.cst (.fn (.fn (.func gOf)) [] [])) [(.tmp 10)], none⟩, ⟨some 4, .mv (.tmp 11), none⟩]) .ret))⟩
theorem sum_does {tbl : Nat → Option FT} {N f : Nat} {gSum gWord gW gPut gOf gOn gOnS gLong : Nat} (hSum : tbl gSum = some (.code (irSum gWord gOf))) (hWord : tbl gWord = some (.code (irWord gW gPut))) (hW : tbl gW = some (.code irW)) (hP : tbl gPut = some (.code irPut)) (hOf : tbl gOf = some (.code (irOf gOnS gOn gLong))) (hO : tbl gOn = some (.code irOnB)) (hS : tbl gOnS = some (.sum sumOn)) (hL : tbl gLong = some (.code irLong)) {z : Int} {x : Nat} (hz : wrapF .u32 z = Int.ofNat x) {s : List Nat} (hs : s.length ≤ 9223372036854775807) (H : AH) : ∃ H' : AH, Ext H H' ∧ Does (RUN tbl (N + 20) (f + 1 + 1 + 1)) gSum [(.int .i64 z), (.str s)] H (.int .u64 (.ofNat (pofV [(x / 16777216) % 256, (x / 65536) % 256, (x / 256) % 256, x % 256] s))) H' := by
  obtain ⟨h1, b2, e3, g4, r5, l6, d7⟩ := word_does (tbl := tbl) (N := (N + 20)) (f := f) hWord hW hP x (H)
  have q8 := Nat.ne_of_lt l6
  have g9 := get_new_old (o' := (.cells (Rp.set (Rp.set (.rep 2 (.str [])) 0 (.str [(x / 16777216) % 256, (x / 65536) % 256, (x / 256) % 256, x % 256])) 1 (.str s)) false false)) g4 l6
  have l10 := Nat.lt_succ_of_lt l6
  have g11 := get_new_here (h1) (.cells (Rp.set (Rp.set (.rep 2 (.str [])) 0 (.str [(x / 16777216) % 256, (x / 65536) % 256, (x / 256) % 256, x % 256])) 1 (.str s)) false false)
  have l12 := Nat.lt_succ_self (h1).n
  obtain ⟨h13, e14, d15⟩ := of_does (tbl := tbl) (N := N) (f := f) hOf hO hS hL (w := [(x / 16777216) % 256, (x / 65536) % 256, (x / 256) % 256, x % 256]) (s := s) (by simp) hs (by rfl) (by rfl) ((h1).new (.cells (Rp.set (Rp.set (.rep 2 (.str [])) 0 (.str [(x / 16777216) % 256, (x / 65536) % 256, (x / 256) % 256, x % 256])) 1 (.str s)) false false)) g11 l12
  have d15' := d15
  have g16 := e14.get g9 l10
  have l17 := e14.lt l10
  have g18 := e14.get g11 l12
  have l19 := e14.lt l12
  refine ⟨h13, ((((Ext.refl H).trans e3).new (.cells (Rp.set (Rp.set (.rep 2 (.str [])) 0 (.str [(x / 16777216) % 256, (x / 65536) % 256, (x / 256) % 256, x % 256])) 1 (.str s)) false false)).trans e14), Does.of hSum fun k => ?_⟩
  show den _ _ none (irSum gWord gOf).body [(.int .i64 z), (.str s), .tup [], .tup [], .tup [], .tup [], .tup [], .tup [], .tup [], .tup [], .tup [], .tup []] [] H (finK (irSum gWord gOf) k) = _
  unfold irSum
  refine (den_seq ..).trans ?_
  refine (den_reg ..).trans ?_
  refine (runOps_cons ..).trans ((step_mv ..).trans ?_)
  refine (runOps_nil ..).trans ?_
  refine (den_seq ..).trans ?_
  refine (den_reg ..).trans ?_
  refine (runOps_cons ..).trans ((step_mv ..).trans ?_)
  refine (runOps_cons ..).trans ((stepE (v := (.int .u32 (.ofNat x))) (by intro f as h; cases h) (fun K => w_cviz hz (by rfl) K) _).trans ?_)
  refine (runOps_cons ..).trans ((w_call d7 rfl rfl _).trans ?_)
  refine (runOps_cons ..).trans ((stepE (v := (.str [(x / 16777216) % 256, (x / 65536) % 256, (x / 256) % 256, x % 256])) (by intro f as h; cases h) (fun K => w_b2su (l := [(x / 16777216) % 256, (x / 65536) % 256, (x / 256) % 256, x % 256]) (by rfl) g4 (by rfl) (by rfl) (by intro c hc; simp only [List.mem_cons, List.not_mem_nil, or_false] at hc; omega) K) _).trans ?_)
  refine (runOps_cons ..).trans ((step_mv ..).trans ?_)
  refine (runOps_cons ..).trans ((stepE (v := (.slc (h1).n 0 2 2)) (by intro f as h; cases h) (fun K => w_bsl (r := (Rp.set (Rp.set (.rep 2 (.str [])) 0 (.str [(x / 16777216) % 256, (x / 65536) % 256, (x / 256) % 256, x % 256])) 1 (.str s))) (by intro K; rfl) K) _).trans ?_)
  refine (runOps_cons ..).trans ((w_call d15 rfl rfl _).trans ?_)
  refine (runOps_cons ..).trans ((step_mv ..).trans ?_)
  refine (runOps_nil ..).trans ?_
  refine (den_ret ..).trans ?_
  exact fin_tmp (by rfl) (by rfl) k

theorem fourS_does {tbl : Nat → Option FT} {N f : Nat} {gFourS gFour : Nat} (hFS : tbl gFourS = some (.code (irFourS gFour))) (hF : tbl gFour = some (.code irFour)) {z : Int} {x : Nat} (hz : wrapF .u32 z = Int.ofNat x) (H : AH) : ∃ H' : AH, Ext H H' ∧ Does (RUN tbl (N + 20) (f + 1 + 1)) gFourS [(.int .i64 z)] H (.str [((((x / 256 % 4294967296) / 256 % 4294967296) / 256 % 4294967296) % 256) % 256, (((x / 256 % 4294967296) / 256 % 4294967296) % 256) % 256, ((x / 256 % 4294967296) % 256) % 256, (x % 256) % 256]) H' := by
  obtain ⟨h1, b2, e3, g4, r5, l6, d7⟩ := four_does (tbl := tbl) (N := N) (f := f) hF x (H)
  refine ⟨h1, ((Ext.refl H).trans e3), Does.of hFS fun k => ?_⟩
  show den _ _ none (irFourS gFour).body [(.int .i64 z), .tup [], .tup [], .tup [], .tup [], .tup [], .tup []] [] H (finK (irFourS gFour) k) = _
  unfold irFourS
  refine (den_seq ..).trans ?_
  refine (den_reg ..).trans ?_
  refine (runOps_cons ..).trans ((step_mv ..).trans ?_)
  refine (runOps_nil ..).trans ?_
  refine (den_seq ..).trans ?_
  refine (den_reg ..).trans ?_
  refine (runOps_cons ..).trans ((step_mv ..).trans ?_)
  refine (runOps_cons ..).trans ((stepE (v := (.int .u32 (.ofNat x))) (by intro f as h; cases h) (fun K => w_cviz hz (by rfl) K) _).trans ?_)
  refine (runOps_cons ..).trans ((w_call d7 rfl rfl _).trans ?_)
  refine (runOps_cons ..).trans ((stepE (v := (.str [((((x / 256 % 4294967296) / 256 % 4294967296) / 256 % 4294967296) % 256) % 256, (((x / 256 % 4294967296) / 256 % 4294967296) % 256) % 256, ((x / 256 % 4294967296) % 256) % 256, (x % 256) % 256])) (by intro f as h; cases h) (fun K => w_b2su (l := [((((x / 256 % 4294967296) / 256 % 4294967296) / 256 % 4294967296) % 256) % 256, (((x / 256 % 4294967296) / 256 % 4294967296) % 256) % 256, ((x / 256 % 4294967296) % 256) % 256, (x % 256) % 256]) (by rfl) g4 (by rfl) (by rfl) (by intro c hc; simp only [List.mem_cons, List.not_mem_nil, or_false] at hc; omega) K) _).trans ?_)
  refine (runOps_cons ..).trans ((step_mv ..).trans ?_)
  refine (runOps_nil ..).trans ?_
  refine (den_ret ..).trans ?_
  exact fin_tmp (by rfl) (by rfl) k

def irROf (gRLong gFrom : Nat) : FnIR := ⟨26, [.tmp 2], (.seq (.reg [⟨some 2, .mv (.cst (.int .u64 0)), none⟩]) (.seq (.reg [⟨some 3, .mv (.cst (.int .u64 14695981039346656037)), none⟩]) (.seq (.seq (.reg [⟨some 4, .mv (.cst (.int .i64 0)), none⟩]) (.block 0 (.loop (.seq (.seq (.reg [⟨some 5, .mv (.tmp 4), none⟩, ⟨some 6, .mv (.tmp 0), none⟩, ⟨some 7, .len 1 (.tmp 6), none⟩, ⟨some 8, .bin .lss 0 (.tmp 5) (.tmp 7), none⟩]) (.cond (.tmp 8) .skip (.exit 0))) (.seq (.block 1 (.dreg [.run ⟨some 11, .mv (.tmp 3), none⟩, .run ⟨some 12, .mv (.tmp 0), none⟩, .run ⟨some 13, .mv (.tmp 4), none⟩, .run ⟨some 14, .ixs 1 (.tmp 12) (.tmp 13), none⟩, .run ⟨some 15, .ld1 (.tmp 14), none⟩, .run ⟨some 16, .len 0 (.tmp 15), none⟩, .run ⟨some 17, .cvi .u64 (.tmp 16), none⟩, .run ⟨some 20, .mv (.tmp 0), none⟩, .run ⟨some 21, .mv (.tmp 4), none⟩, .run ⟨some 22, .ixs 1 (.tmp 20) (.tmp 21), none⟩, .run ⟨some 23, .ld1 (.tmp 22), none⟩] [(⟨some 18, .call (.cst (.fn (.fn (.func gRLong)) [] [])) [(.tmp 17)], none⟩, [.again ⟨some 23, .ld1 (.tmp 22), none⟩]), (⟨some 19, .call (.cst (.fn (.fn (.func gFrom)) [] [])) [(.tmp 11), (.tmp 18)], none⟩, [.again ⟨some 23, .ld1 (.tmp 22), none⟩]), (⟨some 24, .call (.cst (.fn (.fn (.func gFrom)) [] [])) [(.tmp 19), (.tmp 23)], none⟩, []), (⟨some 3, .mv (.tmp 24), none⟩, [])])) (.reg [⟨some 9, .mv (.tmp 4), none⟩, ⟨some 10, .bin .add 0 (.tmp 9) (.cst (.int .i64 1)), none⟩, ⟨some 4, .mv (.tmp 10), none⟩])))))) (.seq (.reg [⟨some 25, .mv (.tmp 3), none⟩, ⟨some 2, .mv (.tmp 25), none⟩]) .ret))))⟩
theorem rof_does {tbl : Nat → Option FT} {N f : Nat} {gROf gRLong gFrom gStep : Nat} (hROf : tbl gROf = some (.code (irROf gRLong gFrom))) (hRL : tbl gRLong = some (.code irRLong)) (hFr : tbl gFrom = some (.code (irFrom gStep))) (hSt : tbl gStep = some (.code irStep)) {b : Nat} {a : Rp AV} {st ro : Bool} {w s : List Nat} (hw : w.length ≤ 9223372036854775807) (hs : s.length ≤ 9223372036854775807) (hwN : w.length < N + 20) (hsN : s.length < N + 20) (hv0 : a.get 0 = some (.str w)) (hv1 : a.get 1 = some (.str s)) (H : AH) (hg : H.get b = some (.cells a st ro)) (hb : b < H.n) : ∃ H' : AH, Ext H H' ∧ Does (RUN tbl (N + 20) (f + 1 + 1 + 1)) gROf [(.slc b 0 2 2)] H (.int .u64 (.ofNat (List.foldl fnvS (List.foldl fnvS (List.foldl fnvS (List.foldl fnvS 14695981039346656037 [(((w.length) % 18446744073709551616) / 72057594037927936) % 256, (((w.length) % 18446744073709551616) / 281474976710656) % 256, (((w.length) % 18446744073709551616) / 1099511627776) % 256, (((w.length) % 18446744073709551616) / 4294967296) % 256, (((w.length) % 18446744073709551616) / 16777216) % 256, (((w.length) % 18446744073709551616) / 65536) % 256, (((w.length) % 18446744073709551616) / 256) % 256, (((w.length) % 18446744073709551616) / 1) % 256]) w) [(((s.length) % 18446744073709551616) / 72057594037927936) % 256, (((s.length) % 18446744073709551616) / 281474976710656) % 256, (((s.length) % 18446744073709551616) / 1099511627776) % 256, (((s.length) % 18446744073709551616) / 4294967296) % 256, (((s.length) % 18446744073709551616) / 16777216) % 256, (((s.length) % 18446744073709551616) / 65536) % 256, (((s.length) % 18446744073709551616) / 256) % 256, (((s.length) % 18446744073709551616) / 1) % 256]) s))) H' := by
  obtain ⟨h1, e2, d3⟩ := rlong_does (tbl := tbl) (N := N) (f := f + 1) hRL ((w.length) % 18446744073709551616) (H)
  have g4 := e2.get hg hb
  have l5 := e2.lt hb
  have d6 := from_does (tbl := tbl) (N := N + 20) (f := f) hFr hSt 14695981039346656037 [(((w.length) % 18446744073709551616) / 72057594037927936) % 256, (((w.length) % 18446744073709551616) / 281474976710656) % 256, (((w.length) % 18446744073709551616) / 1099511627776) % 256, (((w.length) % 18446744073709551616) / 4294967296) % 256, (((w.length) % 18446744073709551616) / 16777216) % 256, (((w.length) % 18446744073709551616) / 65536) % 256, (((w.length) % 18446744073709551616) / 256) % 256, (((w.length) % 18446744073709551616) / 1) % 256] (by simp) (by simp) (h1)
  have d7 := from_does (tbl := tbl) (N := N + 20) (f := f) hFr hSt (List.foldl fnvS 14695981039346656037 [(((w.length) % 18446744073709551616) / 72057594037927936) % 256, (((w.length) % 18446744073709551616) / 281474976710656) % 256, (((w.length) % 18446744073709551616) / 1099511627776) % 256, (((w.length) % 18446744073709551616) / 4294967296) % 256, (((w.length) % 18446744073709551616) / 16777216) % 256, (((w.length) % 18446744073709551616) / 65536) % 256, (((w.length) % 18446744073709551616) / 256) % 256, (((w.length) % 18446744073709551616) / 1) % 256]) w hw hwN (h1)
  obtain ⟨h8, e9, d10⟩ := rlong_does (tbl := tbl) (N := N) (f := f + 1) hRL ((s.length) % 18446744073709551616) (h1)
  have g11 := e9.get g4 l5
  have l12 := e9.lt l5
  have d13 := from_does (tbl := tbl) (N := N + 20) (f := f) hFr hSt (List.foldl fnvS (List.foldl fnvS 14695981039346656037 [(((w.length) % 18446744073709551616) / 72057594037927936) % 256, (((w.length) % 18446744073709551616) / 281474976710656) % 256, (((w.length) % 18446744073709551616) / 1099511627776) % 256, (((w.length) % 18446744073709551616) / 4294967296) % 256, (((w.length) % 18446744073709551616) / 16777216) % 256, (((w.length) % 18446744073709551616) / 65536) % 256, (((w.length) % 18446744073709551616) / 256) % 256, (((w.length) % 18446744073709551616) / 1) % 256]) w) [(((s.length) % 18446744073709551616) / 72057594037927936) % 256, (((s.length) % 18446744073709551616) / 281474976710656) % 256, (((s.length) % 18446744073709551616) / 1099511627776) % 256, (((s.length) % 18446744073709551616) / 4294967296) % 256, (((s.length) % 18446744073709551616) / 16777216) % 256, (((s.length) % 18446744073709551616) / 65536) % 256, (((s.length) % 18446744073709551616) / 256) % 256, (((s.length) % 18446744073709551616) / 1) % 256] (by simp) (by simp) (h8)
  have d14 := from_does (tbl := tbl) (N := N + 20) (f := f) hFr hSt (List.foldl fnvS (List.foldl fnvS (List.foldl fnvS 14695981039346656037 [(((w.length) % 18446744073709551616) / 72057594037927936) % 256, (((w.length) % 18446744073709551616) / 281474976710656) % 256, (((w.length) % 18446744073709551616) / 1099511627776) % 256, (((w.length) % 18446744073709551616) / 4294967296) % 256, (((w.length) % 18446744073709551616) / 16777216) % 256, (((w.length) % 18446744073709551616) / 65536) % 256, (((w.length) % 18446744073709551616) / 256) % 256, (((w.length) % 18446744073709551616) / 1) % 256]) w) [(((s.length) % 18446744073709551616) / 72057594037927936) % 256, (((s.length) % 18446744073709551616) / 281474976710656) % 256, (((s.length) % 18446744073709551616) / 1099511627776) % 256, (((s.length) % 18446744073709551616) / 4294967296) % 256, (((s.length) % 18446744073709551616) / 16777216) % 256, (((s.length) % 18446744073709551616) / 65536) % 256, (((s.length) % 18446744073709551616) / 256) % 256, (((s.length) % 18446744073709551616) / 1) % 256]) s hs hsN (h8)
  refine ⟨h8, (((Ext.refl H).trans e2).trans e9), Does.of hROf fun k => ?_⟩
  show den _ _ none (irROf gRLong gFrom).body [(.slc b 0 2 2), .tup [], .tup [], .tup [], .tup [], .tup [], .tup [], .tup [], .tup [], .tup [], .tup [], .tup [], .tup [], .tup [], .tup [], .tup [], .tup [], .tup [], .tup [], .tup [], .tup [], .tup [], .tup [], .tup [], .tup [], .tup []] [] H (finK (irROf gRLong gFrom) k) = _
  unfold irROf
  refine (den_seq ..).trans ?_
  refine (den_reg ..).trans ?_
  refine (runOps_cons ..).trans ((step_mv ..).trans ?_)
  refine (runOps_nil ..).trans ?_
  refine (den_seq ..).trans ?_
  refine (den_reg ..).trans ?_
  refine (runOps_cons ..).trans ((step_mv ..).trans ?_)
  refine (runOps_nil ..).trans ?_
  refine (den_seq ..).trans ?_
  refine (den_seq ..).trans ?_
  refine (den_reg ..).trans ?_
  refine (runOps_cons ..).trans ((step_mv ..).trans ?_)
  refine (runOps_nil ..).trans ?_
  refine (den_block ..).trans ?_
  refine (den_loop' ..).trans ?_
  refine (iter_succ ..).trans ?_
  refine (den_seq ..).trans ?_
  refine (den_seq ..).trans ?_
  refine (den_reg ..).trans ?_
  refine (runOps_cons ..).trans ((step_mv ..).trans ?_)
  refine (runOps_cons ..).trans ((step_mv ..).trans ?_)
  refine (runOps_cons ..).trans ((stepE (v := (.int .i64 (.ofNat 2))) (by intro f as h; cases h) (fun K => len_slc (by rfl) K) _).trans ?_)
  refine (runOps_cons ..).trans ((stepE (v := (.bool true)) (by intro f as h; cases h) (fun K => w_lit (v := (.bool true)) (by intro K; rfl) K) _).trans ?_)
  refine (runOps_nil ..).trans ?_
  refine (den_condT rfl).trans ?_
  refine (den_skip ..).trans ?_
  refine (den_seq ..).trans ?_
  refine (den_block ..).trans ?_
  refine (den_dreg ..).trans ?_
  refine (runD_run ..).trans ((step_mv ..).trans ?_)
  refine (runD_run ..).trans ((step_mv ..).trans ?_)
  refine (runD_run ..).trans ((step_mv ..).trans ?_)
  refine (runD_run ..).trans ((stepE (v := (.ptr b 0)) (by intro f as h; cases h) (fun K => w_ixs (b := b) (o := 0) (n := 0) (r := 0) (by rfl) (by rfl) (by omega) (by rfl) K) _).trans ?_)
  refine (runD_run ..).trans ((stepE (v := (.str w)) (by intro f as h; cases h) (fun K => w_ld1 (by rfl) hg hv0 K) _).trans ?_)
  refine (runD_run ..).trans ((stepE (v := (.int .i64 (.ofNat (w.length)))) (by intro f as h; cases h) (fun K => w_lens (s := w) (n := (w.length)) (by rfl) (by rfl) K) _).trans ?_)
  refine (runD_run ..).trans ((stepE (v := (.int .u64 (.ofNat ((w.length) % 18446744073709551616)))) (by intro f as h; cases h) (fun K => w_cvi (r := ((w.length) % 18446744073709551616)) (by rfl) (by rfl) K) _).trans ?_)
  refine (runD_run ..).trans ((step_mv ..).trans ?_)
  refine (runD_run ..).trans ((step_mv ..).trans ?_)
  refine (runD_run ..).trans ((stepE (v := (.ptr b 0)) (by intro f as h; cases h) (fun K => w_ixs (b := b) (o := 0) (n := 0) (r := 0) (by rfl) (by rfl) (by omega) (by rfl) K) _).trans ?_)
  refine (runD_run ..).trans ((stepE (v := (.str w)) (by intro f as h; cases h) (fun K => w_ld1 (by rfl) hg hv0 K) _).trans ?_)
  refine (runD_nil ..).trans ?_
  refine (runS_cons ..).trans ((w_call d3 rfl rfl _).trans ?_)
  refine (again_str (fun K => w_ld1 (by rfl) g4 hv0 K) rfl _).trans ?_
  refine (runD_nil ..).trans ?_
  refine (runS_cons ..).trans ((w_call d6 rfl rfl _).trans ?_)
  refine (again_str (fun K => w_ld1 (by rfl) g4 hv0 K) rfl _).trans ?_
  refine (runD_nil ..).trans ?_
  refine (runS_cons ..).trans ((w_call d7 rfl rfl _).trans ?_)
  refine (runD_nil ..).trans ?_
  refine (runS_cons ..).trans ((step_mv ..).trans ?_)
  refine (runD_nil ..).trans ?_
  refine (runS_nil ..).trans ?_
  refine (den_reg ..).trans ?_
  refine (runOps_cons ..).trans ((step_mv ..).trans ?_)
  refine (runOps_cons ..).trans ((stepE (v := (.int .i64 (.ofNat 1))) (by intro f as h; cases h) (fun K => w_lit (v := (.int .i64 (.ofNat 1))) (by intro K; rfl) K) _).trans ?_)
  refine (runOps_cons ..).trans ((step_mv ..).trans ?_)
  refine (runOps_nil ..).trans ?_
  refine (iter_succ ..).trans ?_
  refine (den_seq ..).trans ?_
  refine (den_seq ..).trans ?_
  refine (den_reg ..).trans ?_
  refine (runOps_cons ..).trans ((step_mv ..).trans ?_)
  refine (runOps_cons ..).trans ((step_mv ..).trans ?_)
  refine (runOps_cons ..).trans ((stepE (v := (.int .i64 (.ofNat 2))) (by intro f as h; cases h) (fun K => len_slc (by rfl) K) _).trans ?_)
  refine (runOps_cons ..).trans ((stepE (v := (.bool true)) (by intro f as h; cases h) (fun K => w_lit (v := (.bool true)) (by intro K; rfl) K) _).trans ?_)
  refine (runOps_nil ..).trans ?_
  refine (den_condT rfl).trans ?_
  refine (den_skip ..).trans ?_
  refine (den_seq ..).trans ?_
  refine (den_block ..).trans ?_
  refine (den_dreg ..).trans ?_
  refine (runD_run ..).trans ((step_mv ..).trans ?_)
  refine (runD_run ..).trans ((step_mv ..).trans ?_)
  refine (runD_run ..).trans ((step_mv ..).trans ?_)
  refine (runD_run ..).trans ((stepE (v := (.ptr b 1)) (by intro f as h; cases h) (fun K => w_ixs (b := b) (o := 0) (n := 1) (r := 1) (by rfl) (by rfl) (by omega) (by rfl) K) _).trans ?_)
  refine (runD_run ..).trans ((stepE (v := (.str s)) (by intro f as h; cases h) (fun K => w_ld1 (by rfl) g4 hv1 K) _).trans ?_)
  refine (runD_run ..).trans ((stepE (v := (.int .i64 (.ofNat (s.length)))) (by intro f as h; cases h) (fun K => w_lens (s := s) (n := (s.length)) (by rfl) (by rfl) K) _).trans ?_)
  refine (runD_run ..).trans ((stepE (v := (.int .u64 (.ofNat ((s.length) % 18446744073709551616)))) (by intro f as h; cases h) (fun K => w_cvi (r := ((s.length) % 18446744073709551616)) (by rfl) (by rfl) K) _).trans ?_)
  refine (runD_run ..).trans ((step_mv ..).trans ?_)
  refine (runD_run ..).trans ((step_mv ..).trans ?_)
  refine (runD_run ..).trans ((stepE (v := (.ptr b 1)) (by intro f as h; cases h) (fun K => w_ixs (b := b) (o := 0) (n := 1) (r := 1) (by rfl) (by rfl) (by omega) (by rfl) K) _).trans ?_)
  refine (runD_run ..).trans ((stepE (v := (.str s)) (by intro f as h; cases h) (fun K => w_ld1 (by rfl) g4 hv1 K) _).trans ?_)
  refine (runD_nil ..).trans ?_
  refine (runS_cons ..).trans ((w_call d10 rfl rfl _).trans ?_)
  refine (again_str (fun K => w_ld1 (by rfl) g11 hv1 K) rfl _).trans ?_
  refine (runD_nil ..).trans ?_
  refine (runS_cons ..).trans ((w_call d13 rfl rfl _).trans ?_)
  refine (again_str (fun K => w_ld1 (by rfl) g11 hv1 K) rfl _).trans ?_
  refine (runD_nil ..).trans ?_
  refine (runS_cons ..).trans ((w_call d14 rfl rfl _).trans ?_)
  refine (runD_nil ..).trans ?_
  refine (runS_cons ..).trans ((step_mv ..).trans ?_)
  refine (runD_nil ..).trans ?_
  refine (runS_nil ..).trans ?_
  refine (den_reg ..).trans ?_
  refine (runOps_cons ..).trans ((step_mv ..).trans ?_)
  refine (runOps_cons ..).trans ((stepE (v := (.int .i64 (.ofNat 2))) (by intro f as h; cases h) (fun K => w_lit (v := (.int .i64 (.ofNat 2))) (by intro K; rfl) K) _).trans ?_)
  refine (runOps_cons ..).trans ((step_mv ..).trans ?_)
  refine (runOps_nil ..).trans ?_
  refine (iter_succ ..).trans ?_
  refine (den_seq ..).trans ?_
  refine (den_seq ..).trans ?_
  refine (den_reg ..).trans ?_
  refine (runOps_cons ..).trans ((step_mv ..).trans ?_)
  refine (runOps_cons ..).trans ((step_mv ..).trans ?_)
  refine (runOps_cons ..).trans ((stepE (v := (.int .i64 (.ofNat 2))) (by intro f as h; cases h) (fun K => len_slc (by rfl) K) _).trans ?_)
  refine (runOps_cons ..).trans ((stepE (v := (.bool false)) (by intro f as h; cases h) (fun K => w_lit (v := (.bool false)) (by intro K; rfl) K) _).trans ?_)
  refine (runOps_nil ..).trans ?_
  refine (den_condF rfl).trans ?_
  refine (den_exit ..).trans ?_
  refine (cond_beq ..).trans ?_
  refine (den_seq ..).trans ?_
  refine (den_reg ..).trans ?_
  refine (runOps_cons ..).trans ((step_mv ..).trans ?_)
  refine (runOps_cons ..).trans ((step_mv ..).trans ?_)
  refine (runOps_nil ..).trans ?_
  refine (den_ret ..).trans ?_
  exact fin_tmp (by rfl) (by rfl) k

def rofV (w s : List Nat) : Nat := List.foldl fnvS (List.foldl fnvS (List.foldl fnvS (List.foldl fnvS 14695981039346656037 [(((w.length) % 18446744073709551616) / 72057594037927936) % 256, (((w.length) % 18446744073709551616) / 281474976710656) % 256, (((w.length) % 18446744073709551616) / 1099511627776) % 256, (((w.length) % 18446744073709551616) / 4294967296) % 256, (((w.length) % 18446744073709551616) / 16777216) % 256, (((w.length) % 18446744073709551616) / 65536) % 256, (((w.length) % 18446744073709551616) / 256) % 256, (((w.length) % 18446744073709551616) / 1) % 256]) w) [(((s.length) % 18446744073709551616) / 72057594037927936) % 256, (((s.length) % 18446744073709551616) / 281474976710656) % 256, (((s.length) % 18446744073709551616) / 1099511627776) % 256, (((s.length) % 18446744073709551616) / 4294967296) % 256, (((s.length) % 18446744073709551616) / 16777216) % 256, (((s.length) % 18446744073709551616) / 65536) % 256, (((s.length) % 18446744073709551616) / 256) % 256, (((s.length) % 18446744073709551616) / 1) % 256]) s
def irRSum (gFourS gROf : Nat) : FnIR := ⟨10, [.tmp 4], (.seq (.reg [⟨some 4, .mv (.cst (.int .u64 0)), none⟩]) (.seq (.reg [⟨some 5, .mv (.tmp 0), none⟩, ⟨some 6, .call (.cst (.fn (.fn (.func gFourS)) [] [])) [(.tmp 5)], none⟩, ⟨some 7, .mv (.tmp 1), none⟩, ⟨some 8, .bsl 2 (.rep 2 (.str [])) [(0, 1, (.tmp 6)), (1, 1, (.tmp 7))], none⟩, ⟨some 9, .call (.cst (.fn (.fn (.func gROf)) [] [])) [(.tmp 8)], none⟩, ⟨some 4, .mv (.tmp 9), none⟩]) .ret))⟩
theorem rsum_does {tbl : Nat → Option FT} {N f : Nat} {gRSum gFourS gFour gROf gRLong gFrom gStep : Nat} (hRSum : tbl gRSum = some (.code (irRSum gFourS gROf))) (hFS : tbl gFourS = some (.code (irFourS gFour))) (hF : tbl gFour = some (.code irFour)) (hROf : tbl gROf = some (.code (irROf gRLong gFrom))) (hRL : tbl gRLong = some (.code irRLong)) (hFr : tbl gFrom = some (.code (irFrom gStep))) (hSt : tbl gStep = some (.code irStep)) {z : Int} {x : Nat} (hz : wrapF .u32 z = Int.ofNat x) {s : List Nat} (hs : s.length ≤ 9223372036854775807) (hsN : s.length < N + 20) (H : AH) : ∃ H' : AH, Ext H H' ∧ Does (RUN tbl (N + 20) (f + 1 + 1 + 1 + 1)) gRSum [(.int .i64 z), (.str s)] H (.int .u64 (.ofNat (rofV [((((x / 256 % 4294967296) / 256 % 4294967296) / 256 % 4294967296) % 256) % 256, (((x / 256 % 4294967296) / 256 % 4294967296) % 256) % 256, ((x / 256 % 4294967296) % 256) % 256, (x % 256) % 256] s))) H' := by
  obtain ⟨h1, e2, d3⟩ := fourS_does (tbl := tbl) (N := N) (f := f + 1) hFS hF hz (H)
  have g4 := get_new_here (h1) (.cells (Rp.set (Rp.set (.rep 2 (.str [])) 0 (.str [((((x / 256 % 4294967296) / 256 % 4294967296) / 256 % 4294967296) % 256) % 256, (((x / 256 % 4294967296) / 256 % 4294967296) % 256) % 256, ((x / 256 % 4294967296) % 256) % 256, (x % 256) % 256])) 1 (.str s)) false false)
  have l5 := Nat.lt_succ_self (h1).n
  obtain ⟨h6, e7, d8⟩ := rof_does (tbl := tbl) (N := N) (f := f) hROf hRL hFr hSt (w := [((((x / 256 % 4294967296) / 256 % 4294967296) / 256 % 4294967296) % 256) % 256, (((x / 256 % 4294967296) / 256 % 4294967296) % 256) % 256, ((x / 256 % 4294967296) % 256) % 256, (x % 256) % 256]) (s := s) (by simp) hs (by simp) hsN (by rfl) (by rfl) ((h1).new (.cells (Rp.set (Rp.set (.rep 2 (.str [])) 0 (.str [((((x / 256 % 4294967296) / 256 % 4294967296) / 256 % 4294967296) % 256) % 256, (((x / 256 % 4294967296) / 256 % 4294967296) % 256) % 256, ((x / 256 % 4294967296) % 256) % 256, (x % 256) % 256])) 1 (.str s)) false false)) g4 l5
  have g9 := e7.get g4 l5
  have l10 := e7.lt l5
  refine ⟨h6, ((((Ext.refl H).trans e2).new (.cells (Rp.set (Rp.set (.rep 2 (.str [])) 0 (.str [((((x / 256 % 4294967296) / 256 % 4294967296) / 256 % 4294967296) % 256) % 256, (((x / 256 % 4294967296) / 256 % 4294967296) % 256) % 256, ((x / 256 % 4294967296) % 256) % 256, (x % 256) % 256])) 1 (.str s)) false false)).trans e7), Does.of hRSum fun k => ?_⟩
  show den _ _ none (irRSum gFourS gROf).body [(.int .i64 z), (.str s), .tup [], .tup [], .tup [], .tup [], .tup [], .tup [], .tup [], .tup []] [] H (finK (irRSum gFourS gROf) k) = _
  unfold irRSum
  refine (den_seq ..).trans ?_
  refine (den_reg ..).trans ?_
  refine (runOps_cons ..).trans ((step_mv ..).trans ?_)
  refine (runOps_nil ..).trans ?_
  refine (den_seq ..).trans ?_
  refine (den_reg ..).trans ?_
  refine (runOps_cons ..).trans ((step_mv ..).trans ?_)
  refine (runOps_cons ..).trans ((w_call d3 rfl rfl _).trans ?_)
  refine (runOps_cons ..).trans ((step_mv ..).trans ?_)
  refine (runOps_cons ..).trans ((stepE (v := (.slc (h1).n 0 2 2)) (by intro f as h; cases h) (fun K => w_bsl (r := (Rp.set (Rp.set (.rep 2 (.str [])) 0 (.str [((((x / 256 % 4294967296) / 256 % 4294967296) / 256 % 4294967296) % 256) % 256, (((x / 256 % 4294967296) / 256 % 4294967296) % 256) % 256, ((x / 256 % 4294967296) % 256) % 256, (x % 256) % 256])) 1 (.str s))) (by intro K; rfl) K) _).trans ?_)
  refine (runOps_cons ..).trans ((w_call d8 rfl rfl _).trans ?_)
  refine (runOps_cons ..).trans ((step_mv ..).trans ?_)
  refine (runOps_nil ..).trans ?_
  refine (den_ret ..).trans ?_
  exact fin_tmp (by rfl) (by rfl) k

theorem long_gen (F : Nat → Nat → Nat) (hF : ∀ u c, F u (c % 18446744073709551616) = F u c) (u x : Nat) : F (F (F (F (F (F (F (F (u) ((((((((x / 256) / 256) / 256) / 256) / 256) / 256) / 256) % 256 % 18446744073709551616)) (((((((x / 256) / 256) / 256) / 256) / 256) / 256) % 256 % 18446744073709551616)) ((((((x / 256) / 256) / 256) / 256) / 256) % 256 % 18446744073709551616)) (((((x / 256) / 256) / 256) / 256) % 256 % 18446744073709551616)) ((((x / 256) / 256) / 256) % 256 % 18446744073709551616)) (((x / 256) / 256) % 256 % 18446744073709551616)) ((x / 256) % 256 % 18446744073709551616)) (x % 256 % 18446744073709551616) = List.foldl F u [(x / 72057594037927936) % 256, (x / 281474976710656) % 256, (x / 1099511627776) % 256, (x / 4294967296) % 256, (x / 16777216) % 256, (x / 65536) % 256, (x / 256) % 256, (x / 1) % 256] := by
  simp only [List.foldl_cons, List.foldl_nil, hF, Nat.div_div_eq_div_mul, Nat.reduceMul, Nat.div_one]
theorem fnvLong_eq (u x : Nat) : fnvLong u x = List.foldl fnvS u [(x / 72057594037927936) % 256, (x / 281474976710656) % 256, (x / 1099511627776) % 256, (x / 4294967296) % 256, (x / 16777216) % 256, (x / 65536) % 256, (x / 256) % 256, (x / 1) % 256] := long_gen fnvS fnvS_mod u x
theorem ofV_eq (w s : List Nat) : pofV w s = rofV w s := by
  unfold pofV rofV
  simp only [fnvLong_eq]
theorem word_four (x : Nat) (hx : x < 4294967296) : ([(x / 16777216) % 256, (x / 65536) % 256, (x / 256) % 256, x % 256] : List Nat) = [((((x / 256 % 4294967296) / 256 % 4294967296) / 256 % 4294967296) % 256) % 256, (((x / 256 % 4294967296) / 256 % 4294967296) % 256) % 256, ((x / 256 % 4294967296) % 256) % 256, (x % 256) % 256] := by
  refine congr (congrArg _ ?_) (congr (congrArg _ ?_) (congr (congrArg _ ?_) (congr (congrArg _ ?_) rfl))) <;> omega
theorem sums_eq (x : Nat) (hx : x < 4294967296) (s : List Nat) : pofV [(x / 16777216) % 256, (x / 65536) % 256, (x / 256) % 256, x % 256] s = rofV [((((x / 256 % 4294967296) / 256 % 4294967296) / 256 % 4294967296) % 256) % 256, (((x / 256 % 4294967296) / 256 % 4294967296) % 256) % 256, ((x / 256 % 4294967296) % 256) % 256, (x % 256) % 256] s := by rw [ofV_eq, word_four x hx]
def irLaw (gSum gRSum : Nat) : FnIR := ⟨17, [.tmp 4], (.seq (.reg [⟨some 4, .mv (.cst (.bool false)), none⟩]) (.seq (.reg [⟨some 5, .mv (.tmp 1), none⟩, ⟨some 6, .len 0 (.tmp 5), none⟩, ⟨some 7, .bin .gtr 0 (.tmp 6) (.cst (.int .i64 10000)), none⟩, ⟨some 8, .mv (.tmp 7), none⟩, ⟨some 9, .mv (.tmp 0), some (8, false)⟩, ⟨some 10, .mv (.tmp 1), some (8, false)⟩, ⟨some 11, .call (.cst (.fn (.fn (.func gSum)) [] [])) [(.tmp 9), (.tmp 10)], some (8, false)⟩, ⟨some 12, .mv (.tmp 0), some (8, false)⟩, ⟨some 13, .mv (.tmp 1), some (8, false)⟩, ⟨some 14, .call (.cst (.fn (.fn (.func gRSum)) [] [])) [(.tmp 12), (.tmp 13)], some (8, false)⟩, ⟨some 15, .bin .eql 0 (.tmp 11) (.tmp 14), some (8, false)⟩, ⟨some 16, .pick (.tmp 8) (.cst (.bool true)) (.tmp 15), none⟩, ⟨some 4, .mv (.tmp 16), none⟩]) .ret))⟩
theorem law_small {tbl : Nat → Option FT} {N f : Nat} {gLaw gSum gRSum gWord gW gPut gOf gOn gOnS gLong gFourS gFour gROf gRLong gFrom gStep : Nat} (hLaw : tbl gLaw = some (.code (irLaw gSum gRSum))) (hSum : tbl gSum = some (.code (irSum gWord gOf))) (hWord : tbl gWord = some (.code (irWord gW gPut))) (hW : tbl gW = some (.code irW)) (hP : tbl gPut = some (.code irPut)) (hOf : tbl gOf = some (.code (irOf gOnS gOn gLong))) (hO : tbl gOn = some (.code irOnB)) (hS : tbl gOnS = some (.sum sumOn)) (hL : tbl gLong = some (.code irLong)) (hRSum : tbl gRSum = some (.code (irRSum gFourS gROf))) (hFS : tbl gFourS = some (.code (irFourS gFour))) (hF : tbl gFour = some (.code irFour)) (hROf : tbl gROf = some (.code (irROf gRLong gFrom))) (hRL : tbl gRLong = some (.code irRLong)) (hFr : tbl gFrom = some (.code (irFrom gStep))) (hSt : tbl gStep = some (.code irStep)) {z : Int} {x : Nat} (hz : wrapF .u32 z = Int.ofNat x) (hx : x < 4294967296) {s : List Nat} (h10 : s.length ≤ 10000) (hs : s.length ≤ 9223372036854775807) (hsN : s.length < N + 20) (H : AH) : ∃ H' : AH, Ext H H' ∧ Does (RUN tbl (N + 20) (f + 1 + 1 + 1 + 1 + 1)) gLaw [(.int .i64 z), (.str s)] H (.bool true) H' := by
  obtain ⟨h1, e2, d3⟩ := sum_does (tbl := tbl) (N := N) (f := f + 1) hSum hWord hW hP hOf hO hS hL hz hs (H)
  obtain ⟨h4, e5, d6⟩ := rsum_does (tbl := tbl) (N := N) (f := f) hRSum hFS hF hROf hRL hFr hSt hz hs hsN (h1)
  refine ⟨h4, (((Ext.refl H).trans e2).trans e5), Does.of hLaw fun k => ?_⟩
  show den _ _ none (irLaw gSum gRSum).body [(.int .i64 z), (.str s), .tup [], .tup [], .tup [], .tup [], .tup [], .tup [], .tup [], .tup [], .tup [], .tup [], .tup [], .tup [], .tup [], .tup [], .tup []] [] H (finK (irLaw gSum gRSum) k) = _
  unfold irLaw
  refine (den_seq ..).trans ?_
  refine (den_reg ..).trans ?_
  refine (runOps_cons ..).trans ((step_mv ..).trans ?_)
  refine (runOps_nil ..).trans ?_
  refine (den_seq ..).trans ?_
  refine (den_reg ..).trans ?_
  refine (runOps_cons ..).trans ((step_mv ..).trans ?_)
  refine (runOps_cons ..).trans ((stepE (v := (.int .i64 (.ofNat (s.length)))) (by intro f as h; cases h) (fun K => w_lens (s := s) (n := (s.length)) (by rfl) (by rfl) K) _).trans ?_)
  refine (runOps_cons ..).trans ((stepE (v := (.bool false)) (by intro f as h; cases h) (fun K => w_bin (fun K => gtr_no s.length 10000 h10 K) K) _).trans ?_)
  refine (runOps_cons ..).trans ((step_mv ..).trans ?_)
  refine (runOps_cons ..).trans ((guard_yesF (by rfl) ..).trans ?_)
  refine (step_mv ..).trans ?_
  refine (runOps_cons ..).trans ((guard_yesF (by rfl) ..).trans ?_)
  refine (step_mv ..).trans ?_
  refine (runOps_cons ..).trans ((guard_yesF (by rfl) ..).trans ?_)
  refine (w_call d3 rfl rfl _).trans ?_
  refine (runOps_cons ..).trans ((guard_yesF (by rfl) ..).trans ?_)
  refine (step_mv ..).trans ?_
  refine (runOps_cons ..).trans ((guard_yesF (by rfl) ..).trans ?_)
  refine (step_mv ..).trans ?_
  refine (runOps_cons ..).trans ((guard_yesF (by rfl) ..).trans ?_)
  refine (w_call d6 rfl rfl _).trans ?_
  refine (runOps_cons ..).trans ((guard_yesF (by rfl) ..).trans ?_)
  refine (stepE (v := (.bool true)) (by intro f as h; cases h) (fun K => w_bin (fun K => eql_same (sums_eq x hx s) K) K) _).trans ?_
  refine (runOps_cons ..).trans ((stepE (v := (.bool true)) (by intro f as h; cases h) (fun K => w_pickF (by rfl) (by rfl) K) _).trans ?_)
  refine (runOps_cons ..).trans ((step_mv ..).trans ?_)
  refine (runOps_nil ..).trans ?_
  refine (den_ret ..).trans ?_
  exact fin_tmp (by rfl) (by rfl) k

theorem law_big {tbl : Nat → Option FT} {N f : Nat} {gLaw gSum gRSum : Nat} (hLaw : tbl gLaw = some (.code (irLaw gSum gRSum))) {z : Int} {s : List Nat} (h10 : 10000 < s.length) (H : AH) : ∃ H' : AH, Ext H H' ∧ Does (RUN tbl (N + 20) (f + 1 + 1 + 1 + 1 + 1)) gLaw [(.int .i64 z), (.str s)] H (.bool true) H' := by
  refine ⟨H, (Ext.refl H), Does.of hLaw fun k => ?_⟩
  show den _ _ none (irLaw gSum gRSum).body [(.int .i64 z), (.str s), .tup [], .tup [], .tup [], .tup [], .tup [], .tup [], .tup [], .tup [], .tup [], .tup [], .tup [], .tup [], .tup [], .tup [], .tup []] [] H (finK (irLaw gSum gRSum) k) = _
  unfold irLaw
  refine (den_seq ..).trans ?_
  refine (den_reg ..).trans ?_
  refine (runOps_cons ..).trans ((step_mv ..).trans ?_)
  refine (runOps_nil ..).trans ?_
  refine (den_seq ..).trans ?_
  refine (den_reg ..).trans ?_
  refine (runOps_cons ..).trans ((step_mv ..).trans ?_)
  refine (runOps_cons ..).trans ((stepE (v := (.int .i64 (.ofNat (s.length)))) (by intro f as h; cases h) (fun K => w_lens (s := s) (n := (s.length)) (by rfl) (by rfl) K) _).trans ?_)
  refine (runOps_cons ..).trans ((stepE (v := (.bool true)) (by intro f as h; cases h) (fun K => w_bin (fun K => gtr_yes s.length 10000 h10 K) K) _).trans ?_)
  refine (runOps_cons ..).trans ((step_mv ..).trans ?_)
  refine (runOps_cons ..).trans ((guard_noT (by rfl) ..).trans ?_)
  refine (runOps_cons ..).trans ((guard_noT (by rfl) ..).trans ?_)
  refine (runOps_cons ..).trans ((guard_noT (by rfl) ..).trans ?_)
  refine (runOps_cons ..).trans ((guard_noT (by rfl) ..).trans ?_)
  refine (runOps_cons ..).trans ((guard_noT (by rfl) ..).trans ?_)
  refine (runOps_cons ..).trans ((guard_noT (by rfl) ..).trans ?_)
  refine (runOps_cons ..).trans ((guard_noT (by rfl) ..).trans ?_)
  refine (runOps_cons ..).trans ((stepE (v := (.bool true)) (by intro f as h; cases h) (fun K => w_pickT (by rfl) (by rfl) K) _).trans ?_)
  refine (runOps_cons ..).trans ((step_mv ..).trans ?_)
  refine (runOps_nil ..).trans ?_
  refine (den_ret ..).trans ?_
  exact fin_tmp (by rfl) (by rfl) k

theorem law_does {tbl : Nat → Option FT} {gLaw gSum gRSum gWord gW gPut gOf gOn gOnS gLong gFourS gFour gROf gRLong gFrom gStep : Nat} (hLaw : tbl gLaw = some (.code (irLaw gSum gRSum))) (hSum : tbl gSum = some (.code (irSum gWord gOf))) (hWord : tbl gWord = some (.code (irWord gW gPut))) (hW : tbl gW = some (.code irW)) (hP : tbl gPut = some (.code irPut)) (hOf : tbl gOf = some (.code (irOf gOnS gOn gLong))) (hO : tbl gOn = some (.code irOnB)) (hS : tbl gOnS = some (.sum sumOn)) (hL : tbl gLong = some (.code irLong)) (hRSum : tbl gRSum = some (.code (irRSum gFourS gROf))) (hFS : tbl gFourS = some (.code (irFourS gFour))) (hF : tbl gFour = some (.code irFour)) (hROf : tbl gROf = some (.code (irROf gRLong gFrom))) (hRL : tbl gRLong = some (.code irRLong)) (hFr : tbl gFrom = some (.code (irFrom gStep))) (hSt : tbl gStep = some (.code irStep)) (z : Int) (s : List Nat) : ∃ H' : AH, Does (RUN tbl 100000 99) gLaw [.int .i64 z, .str s] ⟨.lf, 0⟩ (.bool true) H' := by
  obtain ⟨x, hx, hz⟩ := wrap_u32 z
  by_cases h10 : 10000 < s.length
  · obtain ⟨H', _, d⟩ := law_big (tbl := tbl) (N := 99980) (f := 94) hLaw (z := z) h10 ⟨.lf, 0⟩
    exact ⟨H', d⟩
  · obtain ⟨H', _, d⟩ := law_small (tbl := tbl) (N := 99980) (f := 94) hLaw hSum hWord hW hP hOf hO hS hL hRSum hFS hF hROf hRL hFr hSt hz hx (s := s) (by omega) (by omega) (by omega) ⟨.lf, 0⟩
    exact ⟨H', d⟩
end
end Go.Jt
