/-
  Texts merged by a program of this claim's: DiskPlays.
-/
import Derived.Test.YtkhcdbafcigeoaaDoorM23
import Derived.Test.YtkhcdbafcigeoaaDoorM9
import Derived.Deep.DeepCutAuto
import Derived.Deep.CutBlock
/-
  amanuensislaw02.DiskPlays: through any script every answer, the files and the power are as the document defines.
-/
namespace Go.Proofs.YtkhcdbafcigeoaaDoor.DiskPlays
open Go Go.RowKit Go.Sort
set_option maxRecDepth 100000
set_option maxHeartbeats 3200000
/-- At the loop's head. -/
structure PL (W w : World) (b pw : Nat) (d r : Dsk) (a : Option Addr) (c : Nat) : Prop where
  lies : Lies (fun k => k = pw) W w b d r (diskV r a c)
  w0 : W.heap.size ≤ pw
  box : w.heap[pw]? = some (DB (.int .i64 r.most) (.slice a r.files.length c) (.int .i64 r.arm) (.bool r.down))
theorem PL.nw {W w w' : World} {b pw : Nat} {d r : Dsk} {a : Option Addr} {c : Nat} (h : PL W w b pw d r a c) (hw : Nw w w') : PL W w' b pw d r a c := ⟨h.lies.nw hw, h.w0, hw.at_ h.box⟩
theorem _root_.Go.Proofs.YtkhcdbafcigeoaaDoor.PM.pl {W w : World} {b pw po : Nat} {d r : Dsk} {o : OpR} {vb vk : Value} {a : Option Addr} {c : Nat} (h : PM W w b pw po d r o vb vk a c) : PL W w b pw d r a c :=
  ⟨h.base.lies.weak fun k hk => .inl hk, h.base.w0, h.box⟩
theorem PL.op {W w w' : World} {b pw : Nat} {d r : Dsk} {a : Option Addr} {c : Nat} {o : OpR} {vb vk : Value} (h : PL W w b pw d r a c)
    (ho : OpIs W [.int .i64 o.kind, .int .i64 o.n, .string ⟨o.name.toArray⟩, .string ⟨o.tgt.toArray⟩, vb, vk] o vb vk) (hn : Nw w w') (hs : w.heap.size < w'.heap.size)
    (hb : w'.heap[w.heap.size]? = some (.cells #[.int .i64 o.kind, .int .i64 o.n, .string ⟨o.name.toArray⟩, .string ⟨o.tgt.toArray⟩, vb, vk] 36 (0, 0))) :
    PM W w' b pw w.heap.size d r o vb vk a c := by
  have hlt := h.lies.lt pw rfl
  refine ⟨⟨h.lies.nwY hn (fun k hk => ?_), ho, hb, h.w0, by omega, _, _, _, _, hn.at_ h.box⟩, hn.at_ h.box⟩
  rcases hk with hk | hk
  · exact .inl hk
  · exact .inr ⟨by omega, by omega⟩
theorem walk (w : World) (v1 : Value) (most : Int) (ops : List OpR) (hm01 : -9223372036854775808 ≤ most ∧ most ≤ 9223372036854775807) (h1 : RdK 6 (isOp w) w v1 ops) :
    Calls Tryd.prog 3 #[.int .i64 most, v1] w fun e w' => e = .returned (.bool true) ∧ Nw w w' := by
  obtain ⟨hm0, hm1⟩ := hm01
  obtain ⟨sa, cap, rfl, hc1, hc2, hel⟩ := h1.len
  have HE := Lib.hid hel
  clear h1 hel
  unfold maxLen at hc2
  have AW := Lib.hid (fun w => awake_ok w)
  go_enter Tryd.func3, Tryd.ntmps3
  go_upto_if 16 with fail
  go_cut [0] (fun s w' => ∃ m : Int, m ≤ 16777216 ∧ s = .int .i64 m ∧ w' = w)
  case first =>
    by_cases hb : 16777216 < most
    · have e : most.tmod 1000 = most % 1000 := Int.tmod_eq_emod_of_nonneg (by omega)
      go_wp2
      go_meet
      case rel => exact ⟨most % 1000, by omega, by simp [e], rfl⟩
    · go_wp2
      go_meet
      case rel => exact ⟨most, by omega, rfl, rfl⟩
  case rest =>
    obtain ⟨m, hm, rfl, rfl⟩ := hcut
    by_cases hneg : m < 0
    · go_wp2_with fail
      refine (New_no m _ (.inl hneg)).mono ?_
      rintro e w1 ⟨rfl, rfl⟩
      go_wp2_with fail
      refine (rNew_no _ m (.inl hneg)).mono ?_
      rintro e w2 ⟨rfl, n2⟩
      have N2 := Lib.hid n2
      clear n2 hneg
      go_wp2_with fail
      refine (AW.out _).mono ?_
      rintro e w3 ⟨rfl, n3⟩
      have N3 := Lib.hid n3
      clear n3
      go_wp2
      go_ret
      exact ⟨rfl, ((N2.out.alloc _).trans N3.out)⟩
    · have hge : 0 ≤ m := by omega
      clear hneg
      go_wp2_with fail
      refine (HasX.new m _ hge hm).mono ?_
      rintro e w1 ⟨b, rfl, H1⟩
      have H1 := Lib.hid H1
      go_wp2_with fail
      refine (rNew_ok _ m hge hm).mono ?_
      rintro e w2 ⟨rfl, n2⟩
      have N2 := Lib.hid n2
      clear n2
      have L0 : Hid (PL wc (w2.alloc (DB (.int .i64 m) (.slice none 0 0) (.int .i64 (-1)) (.bool false))) b w2.heap.size (newDsk m) (newDsk m) none 0) := by
        have hl : Lies (fun _ => False) wc w2 b (newDsk m) (newDsk m) (diskV (newDsk m) none 0) := Lies.new H1.out ⟨_, rfl, [], ⟨rfl, .inl ⟨none, rfl, rfl⟩⟩, rfl, fun hne => absurd rfl hne⟩ N2.out
        exact Lib.hid ⟨hl.nwY ((Nw.refl w2).alloc _) (fun k hk => .inr (by subst hk; simp)), Nat.le_trans H1.out.base.size N2.out.size, heap_alloc_new w2 _⟩
      clear hm0 hm1
      obtain ⟨pw, hpw⟩ : ∃ x, w2.heap.size = x := ⟨_, rfl⟩
      rw [hpw] at L0
      go_upto_region 5 with fail
      rw [show (Obj.cells #[.int .i64 m, .slice none 0 0, .int .i64 (-1), .bool false] 29) = DB (.int .i64 m) (.slice none 0 0) (.int .i64 (-1)) (.bool false) from rfl]
      generalize w2.alloc (DB (.int .i64 m) (.slice none 0 0) (.int .i64 (-1)) (.bool false)) = w3 at L0 ⊢
      clear H1 N2 hpw
      go_wp2
      go_loopw [9] (fun i wr => ∃ (k : Nat) (d r : Dsk) (a : Option Addr) (c : Nat), k ≤ ops.length ∧ k ≤ 60 ∧ i = .int .i64 k ∧ PL wc wr b pw d r a c ∧ RefOf d r) (fun i _ => ops.length - (intOf i).toNat)
      case atStart => exact ⟨0, _, _, _, _, by omega, by omega, rfl, L0.out, ref_new m⟩
      case round =>
        obtain ⟨k, d, r, a, c, hk, hk6, rfl, hL, hO⟩ := hrel
        have HL := Lib.hid hL
        have HO := Lib.hid hO
        clear hL hO L0
        have hend : ∀ K : Prop, (Nw wc wr → K) → K := fun K h => h HL.out.lies.base
        by_cases hlt : k < ops.length
        case neg =>
          have q1 : decide ((k : Int) < (ops.length : Int)) = false := by simp; omega
          go_wp2_with fail
          refine (AW.out _).mono ?_
          rintro e w4 ⟨rfl, n4⟩
          go_wp2
          go_ret
          exact ⟨rfl, HL.out.lies.base.trans n4⟩
        have q1 : decide ((k : Int) < (ops.length : Int)) = true := by simp; omega
        by_cases hlt6 : k < 60
        case neg =>
          have q2 : decide ((k : Int) < 60) = false := by simp; omega
          go_wp2_with fail
          refine (AW.out _).mono ?_
          rintro e w4 ⟨rfl, n4⟩
          go_wp2
          go_ret
          exact ⟨rfl, HL.out.lies.base.trans n4⟩
        have q2 : decide ((k : Int) < 60) = true := by simp; omega
        obtain ⟨g, o, rfl, hg, cs, hcl, hcc, vb, vk, hop⟩ := HE.out k hlt
        have hwk : IntKind.i64.wrap ((k : Int) + 1) = ((k + 1 : Nat) : Int) := by rw [← Int.natCast_one, ← Int.natCast_add]; exact IntWalk.i64_in _ (by omega)
        generalize ops[k] = x at hop
        obtain ⟨c0, c1, c2, c3, c4, c5⟩ := op_cells hop (fun j hj => HL.out.lies.base.cell (hcc j hj))
        have hop' := hop
        rw [hop.cells] at hop'
        have HOP := Lib.hid hop'
        have HN : Hid (Nw wr (wr.alloc (.cells #[.int .i64 x.kind, .int .i64 x.n, .string ⟨x.name.toArray⟩, .string ⟨x.tgt.toArray⟩, vb, vk] 36))) := Lib.hid ((Nw.refl wr).alloc _)
        have HM := Lib.hid (HL.out.op HOP.out HN.out (by simp) (heap_alloc_new wr _))
        obtain ⟨ba, bc, rfl, -⟩ := hop.bs.len
        obtain ⟨ka, kc, rfl, -⟩ := hop.ks.len
        clear hop hop' hcc
        have hk0 : (0 : Int) ≤ (k : Int) := by omega
        go_upto_region 11 with fail
        obtain ⟨po, hpo⟩ : ∃ z, wr.heap.size = z := ⟨_, rfl⟩
        rw [hpo] at HM ⊢
        obtain ⟨w4, hw4⟩ : ∃ z, wr.alloc (.cells #[.int .i64 x.kind, .int .i64 x.n, .string ⟨x.name.toArray⟩, .string ⟨x.tgt.toArray⟩, .slice ba x.b.length bc, .slice ka x.keeps.length kc] 36) = z := ⟨_, rfl⟩
        rw [hw4] at HM ⊢
        clear c0 c1 c2 c3 c4 c5 hw4 HN hpo hend
        obtain ⟨c0, c1, c2, c3, c4, c5⟩ := HM.out.base.cells
        by_cases hs1 : x.b.length ≤ 200
        case neg =>
          have t1 : decide ((200 : Int) < (x.b.length : Int)) = true := by simp; omega
          go_wp2
          go_roundw
          case rel => exact ⟨k + 1, d, r, a, c, by omega, by omega, by first | rfl | (simp; done) | rw [hwk], HM.out.pl, HO.out⟩
          case measure => simp only [intOf]; omega
        have t1 : decide ((200 : Int) < (x.b.length : Int)) = false := by simp; omega
        by_cases hs2 : x.name.length ≤ 100
        case neg =>
          have t2 : decide ((100 : Int) < (x.name.length : Int)) = true := by simp; omega
          go_wp2
          go_roundw
          case rel => exact ⟨k + 1, d, r, a, c, by omega, by omega, by first | rfl | (simp; done) | rw [hwk], HM.out.pl, HO.out⟩
          case measure => simp only [intOf]; omega
        have t2 : decide ((100 : Int) < (x.name.length : Int)) = false := by simp; omega
        by_cases hs3 : x.tgt.length ≤ 100
        case neg =>
          have t3 : decide ((100 : Int) < (x.tgt.length : Int)) = true := by simp; omega
          go_wp2
          go_roundw
          case rel => exact ⟨k + 1, d, r, a, c, by omega, by omega, by first | rfl | (simp; done) | rw [hwk], HM.out.pl, HO.out⟩
          case measure => simp only [intOf]; omega
        have t3 : decide ((100 : Int) < (x.tgt.length : Int)) = false := by simp; omega
        by_cases hs4 : x.keeps.length ≤ 300
        case neg =>
          have t4 : decide ((300 : Int) < (x.keeps.length : Int)) = true := by simp; omega
          go_wp2
          go_roundw
          case rel => exact ⟨k + 1, d, r, a, c, by omega, by omega, by first | rfl | (simp; done) | rw [hwk], HM.out.pl, HO.out⟩
          case measure => simp only [intOf]; omega
        have t4 : decide ((300 : Int) < (x.keeps.length : Int)) = false := by simp; omega
        have H1 := Lib.hid hs1
        have H2 := Lib.hid hs2
        have H3 := Lib.hid hs3
        clear hs1 hs2 hs3 hs4
        go_upto_block 2 with fail
        refine b2 HM HO H1.out H2.out H3.out (fun _ _ _ _ _ h => h) ?_
        intro s84 s85 s86 s87 s88 s89 s90 s91 s92 s93 s94 s95 s96 s97 s98 s99 s100 s101 s102 s103 s104 s105 s106 s107 s108 s109 s110 s111 s112 s113 s114 s115 s116 s117 s118 s119 s120 s121 s122 s123 s124 s125 s126 s127 s128 s129 s130 s131 s132 s133 s134 s135 s136 s137 s138 s139 s140 s141 s142 s143 s144 s145 s146 s147 s148 s149 s150 s151 s152 s153 s154 s155 s156 s157 s158 s159 s160 s161 s162 s163 s164 s165 s166 s167 s168 s169 s170 s171 s172 s173 s174 s175 s176 s177 s178 s179 s180 s181 s182 s183 s184 s185 s186 s187 s188 s189 s190 s191 s192 s193 s194 s195 s196 s197 s198 s199 d2 r2 a2 cc2 l y f1 f2 z1 z2 w5 m5 o5 p5 q5
        have M5 := Lib.hid m5
        have O5 := Lib.hid o5
        have P5 := Lib.hid p5
        have Q5 := Lib.hid q5
        clear m5 o5 p5 q5 c0 c1 c2 c3 c4 c5 t1 t2 t3 t4
        go_upto_region 42 with fail
        refine p42 M5 O5 P5 Q5 (fun _ _ _ _ _ h => h) ?_
        intro e200 e201 e202 e203 e204 e205 e206 e207 e208 e209 e210 e211 e212 e213 e214 e215 e216 e217 e218 e219 e220 e221 e222 e223 e224 e225 e226 e227 e228 e229 e230 e231 e232 w6 m6
        have M6 := Lib.hid m6
        clear m6
        go_wp2
        go_roundw
        case rel => exact ⟨k + 1, d2, r2, a2, cc2, by omega, by omega, by first | rfl | (simp; done) | rw [hwk], M6.out.pl, O5.out⟩
        case measure => simp only [intOf]; omega
end Go.Proofs.YtkhcdbafcigeoaaDoor.DiskPlays
