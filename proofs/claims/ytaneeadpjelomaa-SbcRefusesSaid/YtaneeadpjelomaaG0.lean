import Derived.Test.YtaneeadpjelomaaCf8
import Derived.Test.YtaneeadpjelomaaProg
-- printed by wip/cf/cfprint.py
namespace Go.Proofs.Ytaneeadpjelomaa
open Go CF
def cs : List Nat := [3, 4, 5, 6, 7, 8, 9, 10, 11, 12, 13, 14, 15, 16, 17, 18, 19, 20, 21, 22, 23, 24, 25, 26, 27, 28, 29, 30, 31, 32, 33, 34, 35, 36, 37, 38, 39, 40, 41, 42, 43, 44, 45, 46, 47, 48, 49, 50, 51, 52, 53, 54, 55, 56, 57, 58, 59, 60, 61, 62, 63, 64, 65, 66, 67, 68, 69, 70]
def okCalls (P : Program) : List Nat → Bool
  | [] => true
  | f :: r => (match P.funcs[f]? with | some fn => !(fn.name == "runtime.NumGoroutine") && !fn.body.isNone | none => false) && okCalls P r
theorem okCalls_ok {P : Program} : ∀ {l : List Nat}, okCalls P l = true → Callable P l
  | [], _, f, h => by cases h
  | g :: r, hok, f, h => by
    simp only [okCalls, Bool.and_eq_true] at hok
    simp only [memN, Bool.or_eq_true] at h
    rcases h with h | h
    · have e : g = f := Nat.eq_of_beq_eq_true h
      subst e
      have h1 := hok.1
      split at h1
      · rename_i fn hf
        simp only [Bool.and_eq_true, Bool.not_eq_true'] at h1
        exact ⟨fn, hf, h1.1, h1.2⟩
      · cases h1
    · exact okCalls_ok hok.2 f h
theorem callable : Callable Try.prog cs := okCalls_ok (by kernel_rfl)
theorem wide : Try.prog.follows .mixedOrders = true := by kernel_rfl
noncomputable def G : Gen := gen Try.prog cs
def s_f : ByteArray := ⟨#[102]⟩
def Cpalletlaw14_SbcCompares (p0 : Sl) (p1 : Sl) (p2 : Sl) (p3 : Int) (p4 : Int) (w : World) (R : Bool → World → Prop) : Prop := CallK Try.prog 3 #[.slice p0.A p0.n p0.c, .slice p1.A p1.n p1.c, .slice p2.A p2.n p2.c, .int .u8 p3, .int .u8 p4] w [.b] R
def Cpalletlaw14_SbcProtects (p0 : Sl) (p1 : Int) (p2 : Int) (p3 : Int) (p4 : Int) (w : World) (R : Bool → World → Prop) : Prop := CallK Try.prog 4 #[.slice p0.A p0.n p0.c, .int .u8 p1, .int .u8 p2, .int .u8 p3, .int .u8 p4] w [.b] R
def Cpalletlaw14_SbcSplits (p0 : Sl) (p1 : Int) (p2 : Int) (p3 : Bool) (w : World) (R : Bool → World → Prop) : Prop := CallK Try.prog 5 #[.slice p0.A p0.n p0.c, .int .u8 p1, .int .u8 p2, .bool p3] w [.b] R
def Cpalletlaw14_SbcUnmaps (p0 : Sl) (p1 : Int) (p2 : Int) (p3 : Bool) (w : World) (R : Bool → World → Prop) : Prop := CallK Try.prog 6 #[.slice p0.A p0.n p0.c, .int .u8 p1, .int .u8 p2, .bool p3] w [.b] R
def Cpalletlaw14_SbcRefuses (p0 : Array Value) (p1 : Sl) (p2 : Int) (w : World) (R : Bool → World → Prop) : Prop := CallK Try.prog 7 #[.agg p0, .slice p1.A p1.n p1.c, .int .u8 p2] w [.b] R
def Cpalletlaw14_SbcVerifies (p0 : Sl) (p1 : Int) (p2 : Int) (p3 : Int) (w : World) (R : Bool → World → Prop) : Prop := CallK Try.prog 8 #[.slice p0.A p0.n p0.c, .int .u16 p1, .int .u8 p2, .int .u8 p3] w [.b] R
def Cpalletlaw14_SbcPrefix (p0 : Sl) (p1 : Int) (p2 : Int) (p3 : Bool) (w : World) (R : Bool → World → Prop) : Prop := CallK Try.prog 9 #[.slice p0.A p0.n p0.c, .int .u8 p1, .int .u8 p2, .bool p3] w [.b] R
def Cpalletlaw14_awake (w : World) (R : Bool → World → Prop) : Prop := CallK Try.prog 10 #[] w [.b] R
def Cpalletlaw14_device (p0 : Int) (p1 : Int) (p2 : Bool) (w : World) (R : (Option Addr) → (Option Addr) → World → Prop) : Prop := CallK Try.prog 11 #[.int .i64 p0, .int .u8 p1, .bool p2] w [.p, .p] R
def Csbc_Dev_Do (p0 : Option Addr) (p1 : Array Value) (p2 : Sl) (w : World) (R : (Array Value) → World → Prop) : Prop := CallK Try.prog 12 #[.pointer p0, .agg p1, .slice p2.A p2.n p2.c] w [.ag] R
def Cpalletref14_Same (p0 : Array Value) (p1 : Array Value) (w : World) (R : Bool → World → Prop) : Prop := CallK Try.prog 13 #[.agg p0, .agg p1] w [.b] R
def Cpalletref14_At (p0 : Int) (p1 : Int) (p2 : Int) (w : World) (R : (Array Value) → World → Prop) : Prop := CallK Try.prog 14 #[.int .u8 p0, .int .u16 p1, .int .u64 p2] w [.ag] R
def Cpalletref13_Unpack (p0 : Sl) (p1 : Bool) (w : World) (R : Sl → Bool → World → Prop) : Prop := CallK Try.prog 15 #[.slice p0.A p0.n p0.c, .bool p1] w [.sl, .b] R
def Cpalletlaw14_bytes (p0 : Int) (p1 : Int) (w : World) (R : Sl → World → Prop) : Prop := CallK Try.prog 16 #[.int .i64 p0, .int .u8 p1] w [.sl] R
def Cworld_World_Waits (p0 : Option Addr) (w : World) (R : Int → World → Prop) : Prop := CallK Try.prog 17 #[.pointer p0] w [.i .i64] R
def Cpalletref14_Ends (p0 : Int) (p1 : Int) (w : World) (R : (Array Value) → World → Prop) : Prop := CallK Try.prog 18 #[.int .u8 p0, .int .u16 p1] w [.ag] R
def Cworld_World_Plan (p0 : Option Addr) (p1 : Sl) (p2 : Int) (w : World) (R : World → Prop) : Prop := CallK Try.prog 19 #[.pointer p0, .slice p1.A p1.n p1.c, .int .i64 p2] w [] R
def Cworld_New (w : World) (R : (Option Addr) → World → Prop) : Prop := CallK Try.prog 20 #[] w [.p] R
def Cstore_Open (p0 : Option Addr) (p1 : ByteArray) (p2 : Int) (p3 : Bool) (w : World) (R : (Option Addr) → Int → World → Prop) : Prop := CallK Try.prog 21 #[.pointer p0, .string p1, .int .i64 p2, .bool p3] w [.p, .i .i64] R
def Csbc_fails (p0 : Array Value) (w : World) (R : (Array Value) → World → Prop) : Prop := CallK Try.prog 22 #[.agg p0] w [.ag] R
def Cpi_Known (p0 : Int) (p1 : Int) (w : World) (R : Bool → World → Prop) : Prop := CallK Try.prog 23 #[.int .u8 p0, .int .u8 p1] w [.b] R
def Cbe_Within (p0 : Int) (p1 : Int) (p2 : Int) (w : World) (R : Bool → World → Prop) : Prop := CallK Try.prog 24 #[.int .u64 p0, .int .u64 p1, .int .u64 p2] w [.b] R
def Csbc_Dev_blocks (p0 : Option Addr) (w : World) (R : Int → World → Prop) : Prop := CallK Try.prog 25 #[.pointer p0] w [.i .u64] R
def Csbc_at (p0 : Int) (p1 : Int) (p2 : Int) (w : World) (R : (Array Value) → World → Prop) : Prop := CallK Try.prog 26 #[.int .u8 p0, .int .u16 p1, .int .u64 p2] w [.ag] R
def Csbc_Dev_read (p0 : Option Addr) (p1 : Array Value) (w : World) (R : Sl → (Array Value) → Bool → World → Prop) : Prop := CallK Try.prog 27 #[.pointer p0, .agg p1] w [.sl, .ag, .b] R
def Csbc_good (p0 : Sl) (w : World) (R : (Array Value) → World → Prop) : Prop := CallK Try.prog 28 #[.slice p0.A p0.n p0.c] w [.ag] R
def Cpi_Pack (p0 : Sl) (p1 : Bool) (w : World) (R : Sl → World → Prop) : Prop := CallK Try.prog 29 #[.slice p0.A p0.n p0.c, .bool p1] w [.sl] R
def Csbc_Dev_come (p0 : Option Addr) (p1 : Array Value) (p2 : Sl) (p3 : Int) (w : World) (R : Sl → (Array Value) → Bool → World → Prop) : Prop := CallK Try.prog 30 #[.pointer p0, .agg p1, .slice p2.A p2.n p2.c, .int .u64 p3] w [.sl, .ag, .b] R
def Csbc_Dev_write (p0 : Option Addr) (p1 : Int) (p2 : Sl) (p3 : Bool) (w : World) (R : (Array Value) → World → Prop) : Prop := CallK Try.prog 31 #[.pointer p0, .int .u64 p1, .slice p2.A p2.n p2.c, .bool p3] w [.ag] R
def Csbc_Dev_verify (p0 : Option Addr) (p1 : Array Value) (p2 : Sl) (w : World) (R : (Array Value) → World → Prop) : Prop := CallK Try.prog 32 #[.pointer p0, .agg p1, .slice p2.A p2.n p2.c] w [.ag] R
def Cstore_Store_Sync (p0 : Option Addr) (w : World) (R : Int → World → Prop) : Prop := CallK Try.prog 33 #[.pointer p0] w [.i .i64] R
def Csbc_Dev_same (p0 : Option Addr) (p1 : Array Value) (p2 : Sl) (w : World) (R : (Array Value) → World → Prop) : Prop := CallK Try.prog 34 #[.pointer p0, .agg p1, .slice p2.A p2.n p2.c] w [.ag] R
def Csbc_Dev_unmap (p0 : Option Addr) (p1 : Sl) (w : World) (R : (Array Value) → World → Prop) : Prop := CallK Try.prog 35 #[.pointer p0, .slice p1.A p1.n p1.c] w [.ag] R
def Csbc_Dev_compare (p0 : Option Addr) (p1 : Array Value) (p2 : Sl) (w : World) (R : (Array Value) → World → Prop) : Prop := CallK Try.prog 36 #[.pointer p0, .agg p1, .slice p2.A p2.n p2.c] w [.ag] R
def Csbc_Dev_capacity (p0 : Option Addr) (p1 : Array Value) (w : World) (R : (Array Value) → World → Prop) : Prop := CallK Try.prog 37 #[.pointer p0, .agg p1] w [.ag] R
def Cpalletref01_Num (p0 : Sl) (p1 : Int) (p2 : Int) (w : World) (R : Int → World → Prop) : Prop := CallK Try.prog 38 #[.slice p0.A p0.n p0.c, .int .i64 p1, .int .i64 p2] w [.i .u64] R
def Cstore_Store_Blocks (p0 : Option Addr) (w : World) (R : Int → World → Prop) : Prop := CallK Try.prog 39 #[.pointer p0] w [.i .i64] R
def Cstore_Store_Read (p0 : Option Addr) (p1 : Int) (p2 : Int) (w : World) (R : Sl → Int → Int → World → Prop) : Prop := CallK Try.prog 40 #[.pointer p0, .int .i64 p1, .int .i64 p2] w [.sl, .i .i64, .i .i64] R
def Cpi_Check (p0 : Int) (p1 : Int) (p2 : Int) (p3 : Array Value) (w : World) (R : Int → World → Prop) : Prop := CallK Try.prog 41 #[.int .u8 p0, .int .u8 p1, .int .u64 p2, .agg p3] w [.i .u16] R
def Cpi_Unpack (p0 : Sl) (p1 : Bool) (w : World) (R : Sl → Bool → World → Prop) : Prop := CallK Try.prog 42 #[.slice p0.A p0.n p0.c, .bool p1] w [.sl, .b] R
def Csbc_length (w : World) (R : (Array Value) → World → Prop) : Prop := CallK Try.prog 43 #[] w [.ag] R
def Cpi_Make (p0 : Int) (p1 : Int) (p2 : Array Value) (p3 : Int) (w : World) (R : (Array Value) → World → Prop) : Prop := CallK Try.prog 44 #[.int .u8 p0, .int .u64 p1, .agg p2, .int .u16 p3] w [.ag] R
def Cstore_Store_Write (p0 : Option Addr) (p1 : Int) (p2 : Sl) (p3 : Bool) (w : World) (R : Int → Int → World → Prop) : Prop := CallK Try.prog 45 #[.pointer p0, .int .i64 p1, .slice p2.A p2.n p2.c, .bool p3] w [.i .i64, .i .i64] R
def Csbc_differ (p0 : Sl) (p1 : Sl) (w : World) (R : Int → World → Prop) : Prop := CallK Try.prog 46 #[.slice p0.A p0.n p0.c, .slice p1.A p1.n p1.c] w [.i .i64] R
def Cworld_World_Sync (p0 : Option Addr) (w : World) (R : Int → World → Prop) : Prop := CallK Try.prog 47 #[.pointer p0] w [.i .i64] R
def Cstore_Store_Unmap (p0 : Option Addr) (p1 : Int) (p2 : Int) (w : World) (R : Int → Int → World → Prop) : Prop := CallK Try.prog 48 #[.pointer p0, .int .i64 p1, .int .i64 p2] w [.i .i64, .i .i64] R
def Cbe_Get (p0 : Sl) (p1 : Int) (p2 : Int) (w : World) (R : Int → Int → World → Prop) : Prop := CallK Try.prog 49 #[.slice p0.A p0.n p0.c, .int .i64 p1, .int .i64 p2] w [.i .u64, .i .i64] R
def Cpi_Size (p0 : Bool) (w : World) (R : Int → World → Prop) : Prop := CallK Try.prog 50 #[.bool p0] w [.i .i64] R
def Cbe_Put (p0 : Sl) (p1 : Int) (p2 : Int) (p3 : Int) (w : World) (R : Sl → Int → World → Prop) : Prop := CallK Try.prog 51 #[.slice p0.A p0.n p0.c, .int .i64 p1, .int .i64 p2, .int .u64 p3] w [.sl, .i .i64] R
def Cpalletref01_Get (p0 : Sl) (p1 : Int) (p2 : Int) (w : World) (R : Int → Int → World → Prop) : Prop := CallK Try.prog 52 #[.slice p0.A p0.n p0.c, .int .i64 p1, .int .i64 p2] w [.i .u64, .i .i64] R
def Cstore_Store_check (p0 : Option Addr) (p1 : Int) (p2 : Int) (w : World) (R : Int → World → Prop) : Prop := CallK Try.prog 53 #[.pointer p0, .int .i64 p1, .int .i64 p2] w [.i .i64] R
def Cworld_World_Read (p0 : Option Addr) (p1 : ByteArray) (p2 : Int) (p3 : Int) (w : World) (R : Sl → Int → World → Prop) : Prop := CallK Try.prog 54 #[.pointer p0, .string p1, .int .i64 p2, .int .i64 p3] w [.sl, .i .i64] R
def Cstore_block (p0 : Sl) (w : World) (R : (Array Value) → World → Prop) : Prop := CallK Try.prog 55 #[.slice p0.A p0.n p0.c] w [.ag] R
def Cpi_escapes (p0 : Int) (p1 : Array Value) (w : World) (R : Bool → World → Prop) : Prop := CallK Try.prog 56 #[.int .u8 p0, .agg p1] w [.b] R
def Ccrc_C16 (p0 : Sl) (w : World) (R : Int → World → Prop) : Prop := CallK Try.prog 57 #[.slice p0.A p0.n p0.c] w [.i .u16] R
def Cstore_Store_lay (p0 : Option Addr) (p1 : Int) (p2 : Int) (p3 : Value) (p4 : Bool) (w : World) (R : Int → Int → World → Prop) : Prop := CallK Try.prog 58 #[.pointer p0, .int .i64 p1, .int .i64 p2, p3, .bool p4] w [.i .i64, .i .i64] R
def Cstore_Store_Write_1 (p0 : Int) (p1 : Addr) (w : World) (R : Sl → World → Prop) : Prop := CallK Try.prog 59 #[.int .i64 p0, .pointer (some p1)] w [.sl] R
def Cstore_record (p0 : Array Value) (w : World) (R : Sl → World → Prop) : Prop := CallK Try.prog 60 #[.agg p0] w [.sl] R
def Cworld_World_call (p0 : Option Addr) (w : World) (R : Int → World → Prop) : Prop := CallK Try.prog 61 #[.pointer p0] w [.i .i64] R
def Cworld_apply (p0 : Option Nat) (p1 : Array Value) (p2 : Int) (w : World) (R : World → Prop) : Prop := CallK Try.prog 62 #[.map p0, .agg p1, .int .i64 p2] w [] R
def Cstore_Store_Unmap_1 (p0 : Int) (w : World) (R : Sl → World → Prop) : Prop := CallK Try.prog 63 #[.int .i64 p0] w [.sl] R
def Cbe_field (p0 : Sl) (p1 : Int) (p2 : Int) (w : World) (R : Int → World → Prop) : Prop := CallK Try.prog 64 #[.slice p0.A p0.n p0.c, .int .i64 p1, .int .i64 p2] w [.i .i64] R
def Cpalletref01_field (p0 : Int) (p1 : Int) (p2 : Int) (w : World) (R : Int → World → Prop) : Prop := CallK Try.prog 65 #[.int .i64 p0, .int .i64 p1, .int .i64 p2] w [.i .i64] R
def Cworld_name (p0 : ByteArray) (w : World) (R : Bool → World → Prop) : Prop := CallK Try.prog 66 #[.string p0] w [.b] R
def Cstore_empty (w : World) (R : (Array Value) → World → Prop) : Prop := CallK Try.prog 67 #[] w [.ag] R
def Ccrc_Add16 (p0 : Int) (p1 : Sl) (w : World) (R : Int → World → Prop) : Prop := CallK Try.prog 68 #[.int .u16 p0, .slice p1.A p1.n p1.c] w [.i .u16] R
def Cworld_World_Write (p0 : Option Addr) (p1 : ByteArray) (p2 : Int) (p3 : Sl) (w : World) (R : Int → World → Prop) : Prop := CallK Try.prog 69 #[.pointer p0, .string p1, .int .i64 p2, .slice p3.A p3.n p3.c] w [.i .i64] R
def Cworld_World_do (p0 : Option Addr) (p1 : Array Value) (w : World) (R : Int → World → Prop) : Prop := CallK Try.prog 70 #[.pointer p0, .agg p1] w [.i .i64] R
abbrev t_int : TypeId := 3
theorem u_int : Try.prog.underlying 3 = some (.int .i64) := by kernel_rfl
theorem i_int : (Try.prog.info? 3).map (fun i => (i.zero, i.size, i.bytes)) = some (some (.int .i64 0), 1, 8) := by kernel_rfl
abbrev t_bool : TypeId := 4
theorem u_bool : Try.prog.underlying 4 = some .bool := by kernel_rfl
theorem i_bool : (Try.prog.info? 4).map (fun i => (i.zero, i.size, i.bytes)) = some (some (.bool false), 1, 1) := by kernel_rfl
abbrev t_uint8 : TypeId := 5
theorem u_uint8 : Try.prog.underlying 5 = some (.int .u8) := by kernel_rfl
theorem i_uint8 : (Try.prog.info? 5).map (fun i => (i.zero, i.size, i.bytes)) = some (some (.int .u8 0), 1, 1) := by kernel_rfl
abbrev t_string : TypeId := 9
theorem u_string : Try.prog.underlying 9 = some .string := by kernel_rfl
theorem i_string : (Try.prog.info? 9).map (fun i => (i.zero, i.size, i.bytes)) = some (some (.string ⟨#[]⟩), 1, 16) := by kernel_rfl
abbrev t_sl_uint8 : TypeId := 22
theorem u_sl_uint8 : Try.prog.underlying 22 = some (.slice 5) := by kernel_rfl
theorem i_sl_uint8 : (Try.prog.info? 22).map (fun i => (i.zero, i.size, i.bytes)) = some (some (.slice none 0 0), 1, 24) := by kernel_rfl
abbrev t_p_sbc_Dev : TypeId := 24
theorem i_p_sbc_Dev : (Try.prog.info? 24).map (fun i => (i.zero, i.size, i.bytes)) = some (some (.pointer none), 1, 8) := by kernel_rfl
abbrev t_p_world_World : TypeId := 25
theorem i_p_world_World : (Try.prog.info? 25).map (fun i => (i.zero, i.size, i.bytes)) = some (some (.pointer none), 1, 8) := by kernel_rfl
abbrev t_api_Status : TypeId := 28
theorem u_api_Status : Try.prog.underlying 28 = some (.int .u8) := by kernel_rfl
theorem i_api_Status : (Try.prog.info? 28).map (fun i => (i.zero, i.size, i.bytes)) = some (some (.int .u8 0), 1, 1) := by kernel_rfl
abbrev t_uint16 : TypeId := 29
theorem u_uint16 : Try.prog.underlying 29 = some (.int .u16) := by kernel_rfl
theorem i_uint16 : (Try.prog.info? 29).map (fun i => (i.zero, i.size, i.bytes)) = some (some (.int .u16 0), 1, 2) := by kernel_rfl
abbrev t_uint64 : TypeId := 30
theorem u_uint64 : Try.prog.underlying 30 = some (.int .u64) := by kernel_rfl
theorem i_uint64 : (Try.prog.info? 30).map (fun i => (i.zero, i.size, i.bytes)) = some (some (.int .u64 0), 1, 8) := by kernel_rfl
abbrev t_api_Sense : TypeId := 32
theorem i_api_Sense : (Try.prog.info? 32).map (fun i => (i.zero, i.size, i.bytes)) = some (some (.agg #[.int .u8 0, .int .u16 0, .int .u64 0, .bool false, .int .i64 0, .int .i64 0, .bool false, .bool false]), 8, 48) := by kernel_rfl
theorem g_api_Sense : (Try.prog.underlying 32).map kdOf = some .ag := by kernel_rfl
abbrev t_api_Result : TypeId := 34
theorem i_api_Result : (Try.prog.info? 34).map (fun i => (i.zero, i.size, i.bytes)) = some (some (.agg #[.int .u8 0, .int .u8 0, .int .u16 0, .int .u64 0, .bool false, .int .i64 0, .int .i64 0, .bool false, .bool false, .slice none 0 0]), 10, 80) := by kernel_rfl
theorem g_api_Result : (Try.prog.underlying 34).map kdOf = some .ag := by kernel_rfl
abbrev t_api_Kind : TypeId := 36
theorem u_api_Kind : Try.prog.underlying 36 = some (.int .u8) := by kernel_rfl
theorem i_api_Kind : (Try.prog.info? 36).map (fun i => (i.zero, i.size, i.bytes)) = some (some (.int .u8 0), 1, 1) := by kernel_rfl
abbrev t_api_Cmd : TypeId := 38
theorem i_api_Cmd : (Try.prog.info? 38).map (fun i => (i.zero, i.size, i.bytes)) = some (some (.agg #[.int .u8 0, .bool false, .int .u64 0, .int .u64 0, .int .i64 0, .bool false, .int .u8 0, .bool false, .bool false, .int .u8 0, .int .u8 0, .bool false, .int .u8 0, .int .u8 0, .bool false]), 15, 48) := by kernel_rfl
theorem g_api_Cmd : (Try.prog.underlying 38).map kdOf = some .ag := by kernel_rfl
abbrev t_sl_api_Block : TypeId := 42
theorem u_sl_api_Block : Try.prog.underlying 42 = some (.slice 78) := by kernel_rfl
theorem i_sl_api_Block : (Try.prog.info? 42).map (fun i => (i.zero, i.size, i.bytes)) = some (some (.slice none 0 0), 1, 24) := by kernel_rfl
abbrev t_sl_int : TypeId := 53
theorem u_sl_int : Try.prog.underlying 53 = some (.slice 3) := by kernel_rfl
theorem i_sl_int : (Try.prog.info? 53).map (fun i => (i.zero, i.size, i.bytes)) = some (some (.slice none 0 0), 1, 24) := by kernel_rfl
abbrev t_p_store_Store : TypeId := 55
theorem i_p_store_Store : (Try.prog.info? 55).map (fun i => (i.zero, i.size, i.bytes)) = some (some (.pointer none), 1, 8) := by kernel_rfl
abbrev t_api_Errno : TypeId := 56
theorem u_api_Errno : Try.prog.underlying 56 = some (.int .i64) := by kernel_rfl
theorem i_api_Errno : (Try.prog.info? 56).map (fun i => (i.zero, i.size, i.bytes)) = some (some (.int .i64 0), 1, 8) := by kernel_rfl
abbrev t_sbc_Dev : TypeId := 60
theorem i_sbc_Dev : (Try.prog.info? 60).map (fun i => (i.zero, i.size, i.bytes)) = some (some (.agg #[.pointer none, .int .u8 0]), 2, 16) := by kernel_rfl
theorem g_sbc_Dev : (Try.prog.underlying 60).map kdOf = some .ag := by kernel_rfl
abbrev t_16_uint8 : TypeId := 73
theorem i_16_uint8 : (Try.prog.info? 73).map (fun i => (i.zero, i.size, i.bytes)) = some (some (.agg #[.int .u8 0, .int .u8 0, .int .u8 0, .int .u8 0, .int .u8 0, .int .u8 0, .int .u8 0, .int .u8 0, .int .u8 0, .int .u8 0, .int .u8 0, .int .u8 0, .int .u8 0, .int .u8 0, .int .u8 0, .int .u8 0]), 16, 16) := by kernel_rfl
theorem g_16_uint8 : (Try.prog.underlying 73).map kdOf = some .ag := by kernel_rfl
abbrev t_uint32 : TypeId := 74
theorem u_uint32 : Try.prog.underlying 74 = some (.int .u32) := by kernel_rfl
theorem i_uint32 : (Try.prog.info? 74).map (fun i => (i.zero, i.size, i.bytes)) = some (some (.int .u32 0), 1, 4) := by kernel_rfl
abbrev t_api_Tuple : TypeId := 76
theorem i_api_Tuple : (Try.prog.info? 76).map (fun i => (i.zero, i.size, i.bytes)) = some (some (.agg #[.int .u16 0, .int .u16 0, .int .u32 0]), 3, 8) := by kernel_rfl
theorem g_api_Tuple : (Try.prog.underlying 76).map kdOf = some .ag := by kernel_rfl
abbrev t_api_Block : TypeId := 78
theorem i_api_Block : (Try.prog.info? 78).map (fun i => (i.zero, i.size, i.bytes)) = some (some (.agg #[.int .u8 0, .int .u8 0, .int .u8 0, .int .u8 0, .int .u8 0, .int .u8 0, .int .u8 0, .int .u8 0, .int .u8 0, .int .u8 0, .int .u8 0, .int .u8 0, .int .u8 0, .int .u8 0, .int .u8 0, .int .u8 0, .int .u16 0, .int .u16 0, .int .u32 0]), 19, 24) := by kernel_rfl
theorem g_api_Block : (Try.prog.underlying 78).map kdOf = some .ag := by kernel_rfl
abbrev t_map_string_sl_uint8 : TypeId := 80
theorem u_map_string_sl_uint8 : Try.prog.underlying 80 = some (.map 9 22) := by kernel_rfl
theorem i_map_string_sl_uint8 : (Try.prog.info? 80).map (fun i => (i.zero, i.size, i.bytes)) = some (some (.map none), 1, 8) := by kernel_rfl
abbrev t_sl_world_change : TypeId := 81
theorem u_sl_world_change : Try.prog.underlying 81 = some (.slice 113) := by kernel_rfl
theorem i_sl_world_change : (Try.prog.info? 81).map (fun i => (i.zero, i.size, i.bytes)) = some (some (.slice none 0 0), 1, 24) := by kernel_rfl
abbrev t_map_int_bool : TypeId := 82
theorem u_map_int_bool : Try.prog.underlying 82 = some (.map 3 4) := by kernel_rfl
theorem i_map_int_bool : (Try.prog.info? 82).map (fun i => (i.zero, i.size, i.bytes)) = some (some (.map none), 1, 8) := by kernel_rfl
abbrev t_world_World : TypeId := 84
theorem i_world_World : (Try.prog.info? 84).map (fun i => (i.zero, i.size, i.bytes)) = some (some (.agg #[.map none, .map none, .slice none 0 0, .int .i64 0, .map none, .int .i64 0, .bool false]), 7, 72) := by kernel_rfl
theorem g_world_World : (Try.prog.underlying 84).map kdOf = some .ag := by kernel_rfl
abbrev t_store_Store : TypeId := 86
theorem i_store_Store : (Try.prog.info? 86).map (fun i => (i.zero, i.size, i.bytes)) = some (some (.agg #[.pointer none, .string ⟨#[]⟩, .int .i64 0, .bool false]), 4, 40) := by kernel_rfl
theorem g_store_Store : (Try.prog.underlying 86).map kdOf = some .ag := by kernel_rfl
abbrev t_world_change : TypeId := 113
theorem i_world_change : (Try.prog.info? 113).map (fun i => (i.zero, i.size, i.bytes)) = some (some (.agg #[.int .u8 0, .string ⟨#[]⟩, .string ⟨#[]⟩, .int .i64 0, .slice none 0 0]), 5, 72) := by kernel_rfl
theorem g_world_change : (Try.prog.underlying 113).map kdOf = some .ag := by kernel_rfl
end Go.Proofs.Ytaneeadpjelomaa
