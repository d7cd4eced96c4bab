/- sync.WaitGroup's Add(1) in whatever company: only the group's block is looked at. Conditions: none. -/
import Derived.Conc.WgGenN3
namespace Go.Proofs.Ytpolipcicfjkiaa.Cy
open Go Go.Conc Go.RowKit Go.Conc.Lib Go.ConcR.Gen
open Go.ConcN (WgLive)
open Go.ConcN.Gen Go.ConcN
open Go.ConcR (KK wgBlock WgAt stA smA rd wr mk DC0)

/-- The group stays one. -/
def RS (ty : TypeId) (Wg : Nat) (w w₁ : World) : Prop := WgLive ty Wg w → WgLive ty Wg w₁

/-- Where a mark is set. -/
def AtMk (P : Program) (main : Bool) (m : Mark) (Next : Goroutine → World → Prop) (g : Goroutine) (w : World) : Prop :=
  g.status = .running ∧ ∃ g', stepG P main g w = .go g' w #[mk m] ∧ Next g' w

section
variable (P : Program) (ty : TypeId) (Wg : Nat)
/-- Some steps that turn nothing and list nothing, to a stop. -/
abbrev GS (main : Bool) (Stop : Goroutine → World → Prop) (g : Goroutine) (w : World) : Prop := Goes P main (RS ty Wg) DC0 Stop 120 g w

/-- Add(1)'s atomic add, whatever the count, nobody waiting. -/
def AtInc (Ret : Goroutine → World → Prop) (g : Goroutine) (w : World) : Prop :=
  g.status = .running ∧ ∀ v : Nat, v < 2147483647 → WgAt ty Wg w (v * KK) 0 →
    ∃ g', stepG P true g w = .go g' (w.setCell (stA Wg) (.int .u64 ((v + 1) * KK))) #[rd (stA Wg), wr (stA Wg)] ∧
      ((v = 0 ∧ GS P ty Wg true (AtMk P true (.read (smA Wg)) (GS P ty Wg true (AtMk P true .enable (GS P ty Wg true Ret)))) g' (w.setCell (stA Wg) (.int .u64 ((v + 1) * KK)))) ∨
       (0 < v ∧ GS P ty Wg true (AtMk P true .enable (GS P ty Wg true Ret)) g' (w.setCell (stA Wg) (.int .u64 ((v + 1) * KK)))))
end

variable {L : WgLink}
theorem rs_rl {ty : TypeId} {Wg : Nat} {w w₁ : World} (h : WgLive ty Wg w) (r : RS ty Wg w w₁) : WgLive ty Wg w₁ := r h

section
variable {Wg : Nat} {b₀ : Frame} {a₀ : Act} {ops₀ : Array Oper} {i₀ : Nat} {rest₀ : List Nat} {k₀ : List Item} {cs : List Frame}

set_option maxRecDepth 100000 in
set_option maxHeartbeats 8000000 in
theorem addInc {P : Program} (H : WgLib P L) (w : World) (hF : WgLive L.tWg Wg w) :
    GS P L.tWg Wg true (AtMk P true .disable (GS P L.tWg Wg true (AtInc P L.tWg Wg fun g _ => g = G (b₀.at (a₀.put ((ops₀[i₀]?).bind (·.dst)) (.tuple #[])) (.inRegion ops₀ rest₀ :: k₀)) cs)))
      (G ((base L.add).at ⟨#[.pointer (some ⟨Wg, 0, none⟩), .int .i64 1] ++ Array.replicate 115 undef, []⟩ [.code (body_add L)]) (b₀.at a₀ (.inRegion ops₀ (i₀ :: rest₀) :: k₀) :: cs)) w := by
  lib_facts
  have erep : (#[.pointer (some ⟨Wg, 0, none⟩), .int .i64 1] : Array Value) ++ Array.replicate 115 undef = (#[.pointer (some ⟨Wg, 0, none⟩), .int .i64 1] ++ (List.replicate 115 undef).toArray) := by simp
  rw [erep]
  simp only [body_add, addFn, Option.getD_some, List.replicate, List.append_toArray, List.cons_append, List.nil_append]
  u_c stepG_seq rs_rl hF
  u_cond true rs_rl hF
  u_c stepG_seq rs_rl hF
  u_c stepG_seq rs_rl hF
  u_reg rs_rl hF
  u_op rs_rl hF
  u_op rs_rl hF
  u_c stepG_region_end rs_rl hF
  u_cond false rs_rl hF
  u_c stepG_skip rs_rl hF
  u_c stepG_seq rs_rl hF
  u_reg rs_rl hF
  refine Goes.stop (fun w₁ h₁ => ?_)
  replace hF := rs_rl hF h₁
  clear h₁
  refine ⟨rfl, _, stepG_mark0 .disable (by simp) rfl rfl (by k_ne) rfl H.f_disable (x_disable_n L) (x_disable_b L) (x_disable_x L) (x_disable_f L), ?_⟩
  walk_nrm
  u_c stepG_region_end rs_rl hF
  u_reg rs_rl hF
  u_defer rs_rl hF
  u_c stepG_region_end rs_rl hF
  u_c stepG_seq rs_rl hF
  u_reg rs_rl hF
  u_op rs_rl hF
  u_c stepG_region_end rs_rl hF
  u_c stepG_seq rs_rl hF
  u_c stepG_seq rs_rl hF
  u_reg rs_rl hF
  u_bub rs_rl hF
  u_c stepG_region_end rs_rl hF
  u_cond false rs_rl hF
  u_c stepG_skip rs_rl hF
  u_c stepG_seq rs_rl hF
  u_reg rs_rl hF
  u_op rs_rl hF
  u_op rs_rl hF
  u_op rs_rl hF
  u_op rs_rl hF
  u_op rs_rl hF
  u_op rs_rl hF
  u_call H.f_uAdd (nm_uAdd L) uAddFn rs_rl hF
  u_c stepG_seq rs_rl hF
  u_reg rs_rl hF
  u_op rs_rl hF
  u_c stepG_region_end rs_rl hF
  u_c stepG_seq rs_rl hF
  u_reg rs_rl hF
  u_op rs_rl hF
  u_op rs_rl hF
  u_op rs_rl hF
  u_op rs_rl hF
  refine Goes.stop (fun w₂ h₂ => ?_)
  replace hF := rs_rl hF h₂
  clear h₂
  refine ⟨rfl, fun v hv hw => ?_⟩
  rcases Nat.eq_zero_or_pos v with rfl | hvp
  · replace hw : WgAt L.tWg Wg w₂ 0 0 := by simpa using hw
    have z : (((0 : Nat) : Int) + 1) * KK = KK := by simp
    rw [z]
    have e0 : IntKind.u64.wrap (0 + 4294967296) = KK := by decide
    refine ⟨_, (stepG_add_atomic rfl rfl (by k_ne) rfl H.f_addU64 (x_addU64_n L) (x_addU64_b L) (x_addU64_x L) .u64 (x_addU64_f L) rfl rfl hw.cellSt (hw.thaw 0)).trans (by rw [e0]; rfl), .inl ⟨rfl, ?_⟩⟩
    replace hF : WgLive L.tWg Wg (w₂.setCell (stA Wg) (.int .u64 KK)) := ⟨_, _, hw.setSt _⟩
    clear hw
    simp only [KK] at hF ⊢
    walk_nrm
    u_op rs_rl hF
    u_c stepG_region_end rs_rl hF
    u_c stepG_ret' rs_rl hF
    u_leave1 H.f_uAdd rs_rl hF
    u_op rs_rl hF
    u_c stepG_region_end rs_rl hF
    u_c stepG_seq rs_rl hF
    u_c stepG_seq rs_rl hF
    u_reg rs_rl hF
    u_op rs_rl hF
    u_op rs_rl hF
    u_op rs_rl hF
    u_op rs_rl hF
    u_skip rs_rl hF
    u_skip rs_rl hF
    u_op rs_rl hF
    u_c stepG_region_end rs_rl hF
    u_cond false rs_rl hF
    u_c stepG_skip rs_rl hF
    u_c stepG_seq rs_rl hF
    u_reg rs_rl hF
    u_op rs_rl hF
    u_op rs_rl hF
    u_op rs_rl hF
    u_op rs_rl hF
    u_c stepG_region_end rs_rl hF
    u_c stepG_seq rs_rl hF
    u_reg rs_rl hF
    u_op rs_rl hF
    u_op rs_rl hF
    u_op rs_rl hF
    u_op rs_rl hF
    u_c stepG_region_end rs_rl hF
    u_c stepG_seq rs_rl hF
    u_c stepG_seq rs_rl hF
    u_reg rs_rl hF
    u_op rs_rl hF
    u_op rs_rl hF
    u_op rs_rl hF
    u_op rs_rl hF
    u_op rs_rl hF
    u_op rs_rl hF
    u_op rs_rl hF
    u_op rs_rl hF
    u_op rs_rl hF
    u_op rs_rl hF
    u_c stepG_region_end rs_rl hF
    u_cond true rs_rl hF
    u_reg rs_rl hF
    u_op rs_rl hF
    u_op rs_rl hF
    u_op rs_rl hF
    u_conv H.underlying_tPU32 H.room_tU32 (WgLive.cell1 hF).choose_spec rs_rl hF
    refine Goes.stop (fun w₃ h₃ => ?_)
    replace hF := rs_rl hF h₃
    clear h₃
    refine ⟨rfl, _, stepG_markAt .read (by simp) rfl rfl (by k_ne) rfl H.f_raceRead (x_raceRead_n L) (x_raceRead_b L) (x_raceRead_x L) (x_raceRead_f L) (ad := smA Wg) (by simp [Act.eval, smA]), ?_⟩
    walk_nrm
    u_c stepG_region_end rs_rl hF
    u_c stepG_seq rs_rl hF
    u_c stepG_seq rs_rl hF
    u_reg rs_rl hF
    u_op rs_rl hF
    u_op rs_rl hF
    u_c stepG_region_end rs_rl hF
    u_cond false rs_rl hF
    u_c stepG_skip rs_rl hF
    u_c stepG_seq rs_rl hF
    u_c stepG_seq rs_rl hF
    u_reg rs_rl hF
    u_op rs_rl hF
    u_op rs_rl hF
    u_op rs_rl hF
    u_skip rs_rl hF
    u_skip rs_rl hF
    u_op rs_rl hF
    u_op rs_rl hF
    u_skip rs_rl hF
    u_skip rs_rl hF
    u_skip rs_rl hF
    u_skip rs_rl hF
    u_op rs_rl hF
    u_c stepG_region_end rs_rl hF
    u_cond false rs_rl hF
    u_c stepG_skip rs_rl hF
    u_c stepG_seq rs_rl hF
    u_c stepG_seq rs_rl hF
    u_reg rs_rl hF
    u_op rs_rl hF
    u_op rs_rl hF
    u_op rs_rl hF
    u_skip rs_rl hF
    u_skip rs_rl hF
    u_op rs_rl hF
    u_c stepG_region_end rs_rl hF
    u_cond true rs_rl hF
    u_c stepG_ret' rs_rl hF
    refine Goes.stop (fun w₃ h₃ => ?_)
    replace hF := rs_rl hF h₃
    clear h₃
    refine ⟨rfl, _, stepG_unwind_entry (v := .tuple #[]) (evs := #[mk .enable]) rfl H.f_enable (x_enable_n L) (x_enable_b L) (x_enable_x L) (x_enable_f L) (by simp [Extern.Race.none_]) (by simp [mk]) (by simp [mk]), ?_⟩
    u_leave0 H.f_add rs_rl hF
    exact Goes.stop (fun _ _ => rfl)
  · obtain ⟨V, hV⟩ : ∃ V : Int, V = (v : Int) + 1 := ⟨_, rfl⟩
    obtain ⟨S, hS⟩ : ∃ S : Int, S = V * KK := ⟨_, rfl⟩
    have eS : IntKind.u64.wrap ((v : Int) * KK + 4294967296) = S := by rw [IntKind.wrap_u64, hS, hV]; simp only [KK]; omega
    rw [← hV, ← hS]
    have a1 : S / 4294967296 = V := by rw [hS]; simp only [KK]; omega
    have b1 : bits .and .u64 S 2147483648 = 0 := by rw [hS, hV]; have := st_flag (v + 1) 0 (by omega) (by omega); simpa [KK] using this
    have b2 : bits .and .u64 S 2147483647 = 0 := by rw [hS, hV]; have := st_waiters (v + 1) 0 (by omega) (by omega); simpa [KK] using this
    have c1 : IntKind.i32.wrap V = V := by rw [IntKind.wrap_i32]; omega
    have hV1 : 1 < V := by omega
    have hV2 : V < 2147483648 := by omega
    have q1 : (V == 1) = false := by simp; omega
    have q2 : decide (V = 1) = false := decide_eq_false (by omega)
    have q3 : decide (V < 0) = false := decide_eq_false (by omega)
    have q4 : decide (0 < V) = true := decide_eq_true (by omega)
    have q5 : (V == 0) = false := by simp; omega
    have q6 : decide (V = 0) = false := decide_eq_false (by omega)
    refine ⟨_, (stepG_add_atomic rfl rfl (by k_ne) rfl H.f_addU64 (x_addU64_n L) (x_addU64_b L) (x_addU64_x L) .u64 (x_addU64_f L) rfl rfl hw.cellSt (hw.thaw 0)).trans (by rw [eS]; rfl), .inr ⟨hvp, ?_⟩⟩
    replace hF : WgLive L.tWg Wg (w₂.setCell (stA Wg) (.int .u64 S)) := ⟨_, _, hw.setSt _⟩
    clear hw hS hV eS
    walk_nrm
    u_op rs_rl hF
    u_c stepG_region_end rs_rl hF
    u_c stepG_ret' rs_rl hF
    u_leave1 H.f_uAdd rs_rl hF
    u_op rs_rl hF
    u_c stepG_region_end rs_rl hF
    u_c stepG_seq rs_rl hF
    u_c stepG_seq rs_rl hF
    u_reg rs_rl hF
    u_op rs_rl hF
    u_op rs_rl hF
    u_op rs_rl hF
    u_op rs_rl hF
    u_skip rs_rl hF
    u_skip rs_rl hF
    u_op rs_rl hF
    u_c stepG_region_end rs_rl hF
    u_cnd false rs_rl hF
    u_c stepG_skip rs_rl hF
    u_c stepG_seq rs_rl hF
    u_reg rs_rl hF
    u_op rs_rl hF
    u_op rs_rl hF
    u_op rs_rl hF
    u_op rs_rl hF
    u_c stepG_region_end rs_rl hF
    u_c stepG_seq rs_rl hF
    u_reg rs_rl hF
    u_op rs_rl hF
    u_op rs_rl hF
    u_op rs_rl hF
    u_op rs_rl hF
    u_c stepG_region_end rs_rl hF
    u_c stepG_seq rs_rl hF
    u_c stepG_seq rs_rl hF
    u_reg rs_rl hF
    u_op rs_rl hF
    u_op rs_rl hF
    u_op rs_rl hF
    u_op rs_rl hF
    u_op rs_rl hF
    u_op rs_rl hF
    u_op rs_rl hF
    u_op rs_rl hF
    u_op rs_rl hF
    u_op rs_rl hF
    u_c stepG_region_end rs_rl hF
    u_cnd false rs_rl hF
    u_c stepG_skip rs_rl hF
    u_c stepG_seq rs_rl hF
    u_c stepG_seq rs_rl hF
    u_reg rs_rl hF
    u_op rs_rl hF
    u_op rs_rl hF
    u_c stepG_region_end rs_rl hF
    u_cnd false rs_rl hF
    u_c stepG_skip rs_rl hF
    u_c stepG_seq rs_rl hF
    u_c stepG_seq rs_rl hF
    u_reg rs_rl hF
    u_op rs_rl hF
    u_op rs_rl hF
    u_op rs_rl hF
    u_skip rs_rl hF
    u_skip rs_rl hF
    u_op rs_rl hF
    u_op rs_rl hF
    u_skip rs_rl hF
    u_skip rs_rl hF
    u_skip rs_rl hF
    u_skip rs_rl hF
    u_op rs_rl hF
    u_c stepG_region_end rs_rl hF
    u_cnd false rs_rl hF
    u_c stepG_skip rs_rl hF
    u_c stepG_seq rs_rl hF
    u_c stepG_seq rs_rl hF
    u_reg rs_rl hF
    u_op rs_rl hF
    u_op rs_rl hF
    u_op rs_rl hF
    u_skip rs_rl hF
    u_skip rs_rl hF
    u_op rs_rl hF
    u_c stepG_region_end rs_rl hF
    u_cnd true rs_rl hF
    u_c stepG_ret' rs_rl hF
    refine Goes.stop (fun w₃ h₃ => ?_)
    replace hF := rs_rl hF h₃
    clear h₃
    refine ⟨rfl, _, stepG_unwind_entry (v := .tuple #[]) (evs := #[mk .enable]) rfl H.f_enable (x_enable_n L) (x_enable_b L) (x_enable_x L) (x_enable_f L) (by simp [Extern.Race.none_]) (by simp [mk]) (by simp [mk]), ?_⟩
    u_leave0 H.f_add rs_rl hF
    exact Goes.stop (fun _ _ => rfl)
end
end Go.Proofs.Ytpolipcicfjkiaa.Cy
/- sync.WaitGroup's Wait in whatever company: only the group's block is looked at. Conditions: none. -/
namespace Go.Proofs.Ytpolipcicfjkiaa.Cy
open Go Go.Conc Go.RowKit Go.Conc.Lib Go.ConcR.Gen
open Go.ConcN (WgLive)
open Go.ConcN.Gen Go.ConcN
open Go.ConcR (KK wgBlock WgAt stA smA rd wr mk DC0)

section
variable (P : Program) (ty : TypeId) (Wg : Nat)
/-- The join seen: 'enable', 'acquire', and out. -/
def AtSeen (Ret : Goroutine → World → Prop) : Goroutine → World → Prop := AtMk P true .enable (GS P ty Wg true (AtMk P true (.acquire (stA Wg)) (GS P ty Wg true Ret)))
def AtLast (Ret : Goroutine → World → Prop) (g : Goroutine) (w : World) : Prop :=
  g.status = .running ∧ (WgAt ty Wg w 0 0 → ∃ g', stepG P true g w = .go g' w #[rd (stA Wg)] ∧ GS P ty Wg true (AtSeen P ty Wg Ret) g' w)
def AtSem (Ret : Goroutine → World → Prop) (g : Goroutine) (w : World) : Prop :=
  g.status = .running ∧ g.offers = none ∧ ((∃ st, WgAt ty Wg w st 0) → stepG P true g w = .go { g with status := .blocked } w #[]) ∧
    (WgAt ty Wg w 0 1 → ∃ g', stepG P true g w = .go g' (w.setCell (smA Wg) (.int .u32 0)) (semEvents (smA Wg)) ∧ GS P ty Wg true (AtLast P ty Wg Ret) g' (w.setCell (smA Wg) (.int .u32 0)))
def AtCas (Anch Ret : Goroutine → World → Prop) (vs : Nat) (g : Goroutine) (w : World) : Prop :=
  g.status = .running ∧ ∀ v : Nat, v < 2147483648 → WgAt ty Wg w (v * KK) 0 →
    (v = vs → ∃ g', stepG P true g w = .go g' (w.setCell (stA Wg) (.int .u64 (v * KK + 1))) #[rd (stA Wg), wr (stA Wg)] ∧
      GS P ty Wg true (AtMk P true (.write (smA Wg)) (GS P ty Wg true (AtSem P ty Wg Ret))) g' (w.setCell (stA Wg) (.int .u64 (v * KK + 1)))) ∧
    (v ≠ vs → ∃ g', stepG P true g w = .go g' w #[rd (stA Wg)] ∧ GS P ty Wg true Anch g' w)
def AtLoad (Anch Ret : Goroutine → World → Prop) (g : Goroutine) (w : World) : Prop :=
  g.status = .running ∧ ∀ v : Nat, v < 2147483648 → WgAt ty Wg w (v * KK) 0 → ∃ g', stepG P true g w = .go g' w #[rd (stA Wg)] ∧
    (v = 0 → GS P ty Wg true (AtSeen P ty Wg Ret) g' w) ∧ (v ≠ 0 → GS P ty Wg true (AtCas P ty Wg Anch Ret v) g' w)
end

def IsG (g0 g : Goroutine) (_ : World) : Prop := g = g0

/-- The head of Wait's loop. -/
def AnchW (L : WgLink) (Wg : Nat) (c : Frame) (cs : List Frame) (g : Goroutine) (_ : World) : Prop :=
  ∃ T : Array Value, g = G ((base L.wait).at ⟨T, []⟩ [.code (L7 L), .inLoop (L7 L), .inBlock 0]) (c :: cs) ∧ T.size = 84 ∧ T[0]? = some (.pointer (some ⟨Wg, 0, none⟩))

variable {L : WgLink}
section
variable {Wg : Nat} {b₀ : Frame} {a₀ : Act} {ops₀ : Array Oper} {i₀ : Nat} {rest₀ : List Nat} {k₀ : List Item} {cs : List Frame}
set_option maxRecDepth 100000 in
set_option maxHeartbeats 8000000 in
theorem waitHead {P : Program} (H : WgLib P L) (g : Goroutine) (w : World) (h : AnchW L Wg (b₀.at a₀ (.inRegion ops₀ (i₀ :: rest₀) :: k₀)) cs g w) (hF : WgLive L.tWg Wg w) : GS P L.tWg Wg true (AtLoad P L.tWg Wg (AnchW L Wg (b₀.at a₀ (.inRegion ops₀ (i₀ :: rest₀) :: k₀)) cs) (IsG (G (b₀.at (a₀.put ((ops₀[i₀]?).bind (·.dst)) (.tuple #[])) (.inRegion ops₀ rest₀ :: k₀)) cs))) g w := by
  lib_facts
  obtain ⟨T, rfl, hT84, t0⟩ := h
  obtain ⟨v0, v1, v2, v3, v4, v5, v6, v7, v8, v9, v10, v11, v12, v13, v14, v15, v16, v17, v18, v19, v20, v21, v22, v23, v24, v25, v26, v27, v28, v29, v30, v31, v32, v33, v34, v35, v36, v37, v38, v39, v40, v41, v42, v43, v44, v45, v46, v47, v48, v49, v50, v51, v52, v53, v54, v55, v56, v57, v58, v59, v60, v61, v62, v63, v64, v65, v66, v67, v68, v69, v70, v71, v72, v73, v74, v75, v76, v77, v78, v79, v80, v81, v82, v83, rfl⟩ := array84 T hT84
  simp only [List.getElem?_toArray, List.getElem?_cons_zero, Option.some.injEq] at t0
  subst t0
  simp only [L7, body_wait, waitFn, Option.getD_some]
  u_c stepG_block rs_rl hF
  u_c stepG_seq rs_rl hF
  u_reg rs_rl hF
  u_op rs_rl hF
  u_op rs_rl hF
  u_op rs_rl hF
  u_call H.f_uLoad (nm_uLoad L) uLoadFn rs_rl hF
  u_c stepG_seq rs_rl hF
  u_reg rs_rl hF
  u_op rs_rl hF
  u_c stepG_region_end rs_rl hF
  u_c stepG_seq rs_rl hF
  u_reg rs_rl hF
  u_op rs_rl hF
  u_op rs_rl hF
  u_op rs_rl hF
  refine Goes.stop (fun w1 h1 => ?_)
  replace hF := rs_rl hF h1
  clear h1
  refine ⟨rfl, fun v hv hw => ?_⟩
  rcases Nat.eq_zero_or_pos v with rfl | hvp
  · replace hw : WgAt L.tWg Wg w1 0 0 := by simpa using hw
    refine ⟨_, stepG_load_atomic (v := 0) rfl rfl (by k_ne) rfl H.f_loadU64 (x_loadU64_n L) (x_loadU64_b L) (x_loadU64_x L) .u64 (x_loadU64_f L) rfl hw.cellSt, fun _ => ?_, fun h => absurd rfl h⟩
    clear hw
    walk_nrm
    u_op rs_rl hF
    u_c stepG_region_end rs_rl hF
    u_c stepG_ret' rs_rl hF
    u_leave1 H.f_uLoad rs_rl hF
    u_op rs_rl hF
    u_c stepG_region_end rs_rl hF
    u_c stepG_seq rs_rl hF
    u_reg rs_rl hF
    u_op rs_rl hF
    u_op rs_rl hF
    u_op rs_rl hF
    u_op rs_rl hF
    u_c stepG_region_end rs_rl hF
    u_c stepG_seq rs_rl hF
    u_reg rs_rl hF
    u_op rs_rl hF
    u_op rs_rl hF
    u_op rs_rl hF
    u_op rs_rl hF
    u_c stepG_region_end rs_rl hF
    u_c stepG_seq rs_rl hF
    u_c stepG_seq rs_rl hF
    u_reg rs_rl hF
    u_op rs_rl hF
    u_op rs_rl hF
    u_c stepG_region_end rs_rl hF
    u_cond true rs_rl hF
    u_c stepG_seq rs_rl hF
    u_cond true rs_rl hF
    u_c stepG_seq rs_rl hF
    u_reg rs_rl hF
    refine Goes.stop (fun w5 h5 => ?_)
    replace hF := rs_rl hF h5
    clear h5
    refine ⟨rfl, _, stepG_mark0 .enable (by simp) rfl rfl (by k_ne) rfl H.f_enable (x_enable_n L) (x_enable_b L) (x_enable_x L) (x_enable_f L), ?_⟩
    walk_nrm
    u_c stepG_region_end rs_rl hF
    u_reg rs_rl hF
    u_op rs_rl hF
    u_conv H.underlying_tWgP H.room_tWg (WgLive.cell0 hF).choose_spec rs_rl hF
    refine Goes.stop (fun w6 h6 => ?_)
    replace hF := rs_rl hF h6
    clear h6
    refine ⟨rfl, _, stepG_markAt .acquire (by simp) rfl rfl (by k_ne) rfl H.f_acquire (x_acquire_n L) (x_acquire_b L) (x_acquire_x L) (x_acquire_f L) (ad := stA Wg) (by simp [Act.eval, stA]), ?_⟩
    walk_nrm
    u_c stepG_region_end rs_rl hF
    u_c stepG_seq rs_rl hF
    u_c stepG_seq rs_rl hF
    u_reg rs_rl hF
    u_op rs_rl hF
    u_op rs_rl hF
    u_op rs_rl hF
    u_op rs_rl hF
    u_op rs_rl hF
    u_op rs_rl hF
    u_op rs_rl hF
    u_op rs_rl hF
    u_skip rs_rl hF
    u_skip rs_rl hF
    u_op rs_rl hF
    u_c stepG_region_end rs_rl hF
    u_cond false rs_rl hF
    u_c stepG_skip rs_rl hF
    u_c stepG_ret' rs_rl hF
    u_leave0 H.f_wait rs_rl hF
    exact Goes.stop (fun _ _ => by unfold IsG; rfl)
  · obtain ⟨S, hS⟩ : ∃ S : Int, (v : Int) * KK = S := ⟨_, rfl⟩
    have a1 : S / 4294967296 = (v : Int) := by rw [← hS]; simp only [KK]; omega
    have b1 : bits .and .u64 S 2147483648 = 0 := by rw [← hS]; have := st_flag v 0 (by omega) (by omega); simpa [KK] using this
    have b2 : bits .and .u64 S 2147483647 = 0 := by rw [← hS]; have := st_waiters v 0 (by omega) (by omega); simpa [KK] using this
    have c1 : IntKind.i32.wrap (v : Int) = (v : Int) := by rw [IntKind.wrap_i32]; omega
    have w1' : IntKind.u64.wrap (S + 1) = S + 1 := by rw [IntKind.wrap_u64, ← hS]; simp only [KK]; omega
    have q3 : decide ((v : Int) < 0) = false := decide_eq_false (by omega)
    have q4 : decide (0 < (v : Int)) = true := decide_eq_true (by omega)
    have q5 : ((v : Int) == 0) = false := by simp; omega
    have q6 : decide ((v : Int) = 0) = false := decide_eq_false (by omega)
    rw [hS] at hw
    refine ⟨_, stepG_load_atomic (v := S) rfl rfl (by k_ne) rfl H.f_loadU64 (x_loadU64_n L) (x_loadU64_b L) (x_loadU64_x L) .u64 (x_loadU64_f L) rfl hw.cellSt, fun h0 => absurd h0 (by omega), fun _ => ?_⟩
    clear hw
    walk_nrm
    u_op rs_rl hF
    u_c stepG_region_end rs_rl hF
    u_c stepG_ret' rs_rl hF
    u_leave1 H.f_uLoad rs_rl hF
    u_op rs_rl hF
    u_c stepG_region_end rs_rl hF
    u_c stepG_seq rs_rl hF
    u_reg rs_rl hF
    u_op rs_rl hF
    u_op rs_rl hF
    u_op rs_rl hF
    u_op rs_rl hF
    u_c stepG_region_end rs_rl hF
    u_c stepG_seq rs_rl hF
    u_reg rs_rl hF
    u_op rs_rl hF
    u_op rs_rl hF
    u_op rs_rl hF
    u_op rs_rl hF
    u_c stepG_region_end rs_rl hF
    u_c stepG_seq rs_rl hF
    u_c stepG_seq rs_rl hF
    u_reg rs_rl hF
    u_op rs_rl hF
    u_op rs_rl hF
    u_c stepG_region_end rs_rl hF
    u_cnd false rs_rl hF
    u_c stepG_skip rs_rl hF
    u_c stepG_seq rs_rl hF
    u_reg rs_rl hF
    u_op rs_rl hF
    u_op rs_rl hF
    u_op rs_rl hF
    u_op rs_rl hF
    u_op rs_rl hF
    u_op rs_rl hF
    u_call H.f_uCas (nm_uCas L) uCasFn rs_rl hF
    u_c stepG_seq rs_rl hF
    u_reg rs_rl hF
    u_op rs_rl hF
    u_c stepG_region_end rs_rl hF
    u_c stepG_seq rs_rl hF
    u_reg rs_rl hF
    u_op rs_rl hF
    u_op rs_rl hF
    u_op rs_rl hF
    u_op rs_rl hF
    u_op rs_rl hF
    refine Goes.stop (fun w2 h2 => ?_)
    replace hF := rs_rl hF h2
    clear h2
    refine ⟨rfl, fun v' hv' hw => ⟨fun e => ?_, fun e => ?_⟩⟩
    · subst e
      rw [hS] at hw ⊢
      refine ⟨_, (stepG_cas_hit (v := S) (n := S + 1) rfl rfl (by k_ne) rfl H.f_casU64 (x_casU64_n L) (x_casU64_b L) (x_casU64_x L) .u64 (x_casU64_f L) rfl rfl rfl hw.cellSt (hw.thaw 0)).trans (by rfl), ?_⟩
      replace hF : WgLive L.tWg Wg (w2.setCell (stA Wg) (.int .u64 (S + 1))) := ⟨_, _, hw.setSt _⟩
      clear hw
      walk_nrm
      u_op rs_rl hF
      u_c stepG_region_end rs_rl hF
      u_c stepG_ret' rs_rl hF
      u_leave1 H.f_uCas rs_rl hF
      u_c stepG_region_end rs_rl hF
      u_cond true rs_rl hF
      u_c stepG_seq rs_rl hF
      u_c stepG_seq rs_rl hF
      u_reg rs_rl hF
      u_op rs_rl hF
      u_op rs_rl hF
      u_op rs_rl hF
      u_op rs_rl hF
      u_c stepG_region_end rs_rl hF
      u_cond true rs_rl hF
      u_reg rs_rl hF
      u_op rs_rl hF
      u_op rs_rl hF
      u_op rs_rl hF
      u_conv H.underlying_tPU32 H.room_tU32 (WgLive.cell1 hF).choose_spec rs_rl hF
      refine Goes.stop (fun w3 h3 => ?_)
      replace hF := rs_rl hF h3
      clear h3
      refine ⟨rfl, _, stepG_markAt .write (by simp) rfl rfl (by k_ne) rfl H.f_raceWrite (x_raceWrite_n L) (x_raceWrite_b L) (x_raceWrite_x L) (x_raceWrite_f L) (ad := smA Wg) (by simp [Act.eval, smA]), ?_⟩
      walk_nrm
      u_c stepG_region_end rs_rl hF
      u_c stepG_seq rs_rl hF
      u_reg rs_rl hF
      u_op rs_rl hF
      u_c stepG_region_end rs_rl hF
      u_c stepG_seq rs_rl hF
      u_c stepG_seq rs_rl hF
      u_reg rs_rl hF
      u_op rs_rl hF
      u_op rs_rl hF
      u_op rs_rl hF
      u_op rs_rl hF
      u_skip rs_rl hF
      u_op rs_rl hF
      u_c stepG_region_end rs_rl hF
      u_cond false rs_rl hF
      u_c stepG_skip rs_rl hF
      u_c stepG_seq rs_rl hF
      u_reg rs_rl hF
      u_op rs_rl hF
      u_op rs_rl hF
      u_op rs_rl hF
      u_op rs_rl hF
      refine Goes.stop (fun w4 h4 => ?_)
      replace hF := rs_rl hF h4
      clear h4
      refine ⟨rfl, rfl, fun ⟨st, hw⟩ => stepG_semacquire_wait rfl rfl rfl H.f_semacquire (x_semacquire_n L) (x_semacquire_b L) (x_semacquire_x L) (x_semacquire_f L) (by simp [Act.eval, smA]) hw.cellSm, fun hf => ?_⟩
      refine ⟨_, (stepG_semacquire (n := 1) rfl rfl (by k_ne) rfl H.f_semacquire (x_semacquire_n L) (x_semacquire_b L) (x_semacquire_x L) (x_semacquire_f L) (by simp [Act.eval, smA]) hf.cellSm (by k_ne) (hf.thaw 1)).trans (by rfl), ?_⟩
      replace hF : WgLive L.tWg Wg (w4.setCell (smA Wg) (.int .u32 0)) := ⟨_, _, hf.setSm 0⟩
      clear hf
      walk_nrm
      u_c stepG_region_end rs_rl hF
      u_c stepG_seq rs_rl hF
      u_reg rs_rl hF
      u_op rs_rl hF
      u_op rs_rl hF
      u_op rs_rl hF
      u_call H.f_uLoad (nm_uLoad L) uLoadFn rs_rl hF
      u_c stepG_seq rs_rl hF
      u_reg rs_rl hF
      u_op rs_rl hF
      u_c stepG_region_end rs_rl hF
      u_c stepG_seq rs_rl hF
      u_reg rs_rl hF
      u_op rs_rl hF
      u_op rs_rl hF
      u_op rs_rl hF
      refine Goes.stop (fun w5 h5 => ?_)
      replace hF := rs_rl hF h5
      clear h5
      refine ⟨rfl, fun hw => ⟨_, stepG_load_atomic (v := 0) rfl rfl (by k_ne) rfl H.f_loadU64 (x_loadU64_n L) (x_loadU64_b L) (x_loadU64_x L) .u64 (x_loadU64_f L) rfl hw.cellSt, ?_⟩⟩
      clear hw
      walk_nrm
      u_op rs_rl hF
      u_c stepG_region_end rs_rl hF
      u_c stepG_ret' rs_rl hF
      u_leave1 H.f_uLoad rs_rl hF
      u_op rs_rl hF
      u_op rs_rl hF
      u_c stepG_region_end rs_rl hF
      u_c stepG_seq rs_rl hF
      u_cond true rs_rl hF
      u_c stepG_seq rs_rl hF
      u_reg rs_rl hF
      refine Goes.stop (fun w6 h6 => ?_)
      replace hF := rs_rl hF h6
      clear h6
      refine ⟨rfl, _, stepG_mark0 .enable (by simp) rfl rfl (by k_ne) rfl H.f_enable (x_enable_n L) (x_enable_b L) (x_enable_x L) (x_enable_f L), ?_⟩
      walk_nrm
      u_c stepG_region_end rs_rl hF
      u_reg rs_rl hF
      u_op rs_rl hF
      u_conv H.underlying_tWgP H.room_tWg (WgLive.cell0 hF).choose_spec rs_rl hF
      refine Goes.stop (fun w7 h7 => ?_)
      replace hF := rs_rl hF h7
      clear h7
      refine ⟨rfl, _, stepG_markAt .acquire (by simp) rfl rfl (by k_ne) rfl H.f_acquire (x_acquire_n L) (x_acquire_b L) (x_acquire_x L) (x_acquire_f L) (ad := stA Wg) (by simp [Act.eval, stA]), ?_⟩
      walk_nrm
      u_c stepG_region_end rs_rl hF
      u_c stepG_seq rs_rl hF
      u_c stepG_seq rs_rl hF
      u_reg rs_rl hF
      u_op rs_rl hF
      u_c stepG_region_end rs_rl hF
      u_cond false rs_rl hF
      u_c stepG_skip rs_rl hF
      u_c stepG_ret' rs_rl hF
      u_leave0 H.f_wait rs_rl hF
      exact Goes.stop (fun _ _ => by unfold IsG; rfl)
    · refine ⟨_, stepG_cas_miss (v := (v' : Int) * KK) (old := S) (n := S + 1) rfl rfl (by k_ne) rfl H.f_casU64 (x_casU64_n L) (x_casU64_b L) (x_casU64_x L) .u64 (x_casU64_f L) rfl rfl rfl hw.cellSt (hw.thaw 0) (by rw [← hS]; simp only [KK]; omega), ?_⟩
      clear hw
      walk_nrm
      u_op rs_rl hF
      u_c stepG_region_end rs_rl hF
      u_c stepG_ret' rs_rl hF
      u_leave1 H.f_uCas rs_rl hF
      u_c stepG_region_end rs_rl hF
      u_cond false rs_rl hF
      u_c stepG_skip rs_rl hF
      u_c stepG_inBlock rs_rl hF
      u_c stepG_inLoop rs_rl hF
      exact Goes.stop (fun _ _ => ⟨_, rfl, by simp, by simp⟩)

set_option maxRecDepth 100000 in
theorem waitEnter {P : Program} (H : WgLib P L) (w : World) (hF : WgLive L.tWg Wg w) :
    GS P L.tWg Wg true (AtMk P true .disable (GS P L.tWg Wg true (AnchW L Wg (b₀.at a₀ (.inRegion ops₀ (i₀ :: rest₀) :: k₀)) cs)))
      (G ((base L.wait).at ⟨#[.pointer (some ⟨Wg, 0, none⟩)] ++ Array.replicate 83 undef, []⟩ [.code (body_wait L)]) (b₀.at a₀ (.inRegion ops₀ (i₀ :: rest₀) :: k₀) :: cs)) w := by
  lib_facts
  simp only [body_wait, waitFn, Option.getD_some]
  u_c stepG_seq rs_rl hF
  u_cond true rs_rl hF
  u_reg rs_rl hF
  refine Goes.stop (fun w1 h1 => ?_)
  replace hF := rs_rl hF h1
  clear h1
  refine ⟨rfl, _, stepG_mark0 .disable (by simp) rfl rfl (by k_ne) rfl H.f_disable (x_disable_n L) (x_disable_b L) (x_disable_x L) (x_disable_f L), ?_⟩
  walk_nrm
  u_c stepG_region_end rs_rl hF
  u_c stepG_block rs_rl hF
  u_c stepG_loop rs_rl hF
  exact Goes.stop (fun _ _ => ⟨_, rfl, by simp, by simp⟩)
end
end Go.Proofs.Ytpolipcicfjkiaa.Cy
