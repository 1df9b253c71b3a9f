/-
  amanuensislaw02.DiskKeeps: what is synced is there behind any crash.
-/
import Derived.Test.YtihagdadbeoeoaaDoorDiskKeepsP
import Derived.Test.YtihagdadbeoeoaaDoorAwake
import Derived.Test.YtihagdadbeoeoaaDoorClose
import Derived.Test.YtihagdadbeoeoaaDoorMix
namespace Go.Proofs.YtihagdadbeoeoaaDoor.DiskKeeps
open Go Go.RowKit Go.Sort
set_option maxRecDepth 100000
set_option maxHeartbeats 3200000

theorem under {X Y : Nat → Prop} {w0 W w : World} {b : Nat} {d : Dsk} (h : HasX X W w b d) (hn : Nw w0 W) (hy : ∀ k, Y k → X k ∨ k < W.heap.size) : HasX Y w0 w b d := by
  obtain ⟨S, h1, h2, h3, h4⟩ := h
  refine ⟨S, h1, hn.trans h2, fun k hk => Nat.le_trans hn.size (h3 k hk), fun k hk => ?_⟩
  rcases hy k hk with hk | hk
  · exact h4 k hk
  · exact ⟨Nat.lt_of_lt_of_le hk h2.size, fun hs => by have := h3 k hs; omega⟩
theorem start {w w1 : World} {a : Nat} (q : Nat) (hq : w.heap.size ≤ q ∧ q < w1.heap.size)
    (hn : w1.heap[q]? = some (.cells #[.string ⟨#[97]⟩, .string ⟨#[98]⟩, .string ⟨#[99]⟩] 9 (0, 0))) (hX : HasX (fun k => k = q) w w1 a (newDsk 1048576)) :
    St w q w1.heap.size (w1.heap.size + 1) (w1.heap.size + 1 + 1) a 0 (((w1.alloc (.cells #[.slice none 0 0, .slice none 0 0, .slice none 0 0] 30)).alloc (.cells #[.int .i64 0, .int .i64 0, .int .i64 0] 31)).alloc (.cells #[.bool false, .bool false, .bool false] 32)) := by
  refine ⟨fun _ => .slice none 0 0, fun _ => [], fun _ => 0, fun _ => false, newDsk 1048576, ⟨⟨hq.1, hq.2, by omega, by omega⟩, ?_, ?_, ?_, ?_, fun _ _ => .inl ⟨_, rfl, rfl⟩, fun _ _ h => absurd rfl h, ?_⟩, ⟨fun j hj => ?_, fun _ _ => by simp⟩⟩
  · exact ((((Nw.refl w1).alloc _).alloc _).alloc _).at_ hn
  · exact (((Nw.refl _).alloc _).alloc _).at_ (heap_alloc_new w1 _)
  · have := ((Nw.refl _).alloc (.cells #[.bool false, .bool false, .bool false] 32)).at_ (heap_alloc_new (w1.alloc (.cells #[.slice none 0 0, .slice none 0 0, .slice none 0 0] 30)) (.cells #[.int .i64 0, .int .i64 0, .int .i64 0] 31))
    simpa using this
  · have := heap_alloc_new ((w1.alloc (.cells #[.slice none 0 0, .slice none 0 0, .slice none 0 0] 30)).alloc (.cells #[.int .i64 0, .int .i64 0, .int .i64 0] 31)) (.cells #[.bool false, .bool false, .bool false] 32)
    simpa using this
  · refine hX.nwY ((((Nw.refl w1).alloc _).alloc _).alloc _) (fun k hk => ?_)
    rcases hk with e | e | e | e | ⟨j, hj, hne, -⟩
    · exact .inl e
    · exact .inr (by subst e; simp; omega)
    · exact .inr (by subst e; simp)
    · exact .inr (by subst e; simp; omega)
    · exact absurd rfl hne
  · unfold FileIs
    simp [newDsk, getF]

/-- What the loop behind a crash has done so far. -/
def Inner (w : World) (q p8 p9 p10 a : Nat) (A : Nat → List UInt8) (s m : Nat → Nat) (t : Nat → Bool) (d : Dsk) (j : Nat) (wr : World) : Prop :=
  ∃ V A1 s1, KMem w wr q p8 p9 p10 a V A1 s1 t d ∧ (∀ i, i < 3 → A1 i = if i < j then (A i).take (m i) else A i) ∧ ∀ i, i < 3 → s1 i = if i < j then m i else s i
theorem walk (w : World) (v0 v1 : Value) (ps : List (List UInt8)) (acts : List Int) (h0 : RdK 1 (isBs w) w v0 ps) (h1 : Rd i64v w v1 acts ∧ ∀ z ∈ acts, -9223372036854775808 ≤ z ∧ z ≤ 9223372036854775807) :
    Calls Tryd.prog 3 #[v0, v1] w fun e w' => e = .returned (.bool true) ∧ Nw w w' := by
  obtain ⟨sa, cap, rfl, hc1, hc2, hel⟩ := h0.len
  have HE := Lib.hid hel
  obtain ⟨sb, capb, rfl, hd1, hd2, hel2⟩ := h1.1.elems
  have HE2 := Lib.hid hel2
  clear h0 hel h1 hel2
  unfold maxLen at hc2 hd2
  have AW := Lib.hid (fun w => awake_ok w)
  obtain ⟨i0, hi, hz0, hz1, hz2⟩ := info_parts Tryd.infoByte
  have HI := Lib.hid hi
  have HZ0 := Lib.hid hz0
  have HZ1 := Lib.hid hz1
  have HZ2 := Lib.hid hz2
  clear hi hz0 hz1 hz2
  go_enter Tryd.func3, Tryd.ntmps3
  go_wp2_with fail
  refine (HasX.new 1048576 _ (by omega) (by omega)).mono ?_
  rintro e w1 ⟨a, rfl, H1⟩
  have H1 := Lib.hid H1
  have hq1 : w.heap.size < w1.heap.size := by have := H1.out.base.size; simp at this; omega
  have S0 := Lib.hid (start (w := w) (w1 := w1) (a := a) w.heap.size ⟨Nat.le_refl _, hq1⟩ (H1.out.base.at_ (heap_alloc_new w _)) (under H1.out ((Nw.refl w).alloc _) (fun k hk => .inr (by subst hk; simp))))
  clear H1
  go_wp2
  go_loopw [11] (fun i wr => ∃ n : Nat, n ≤ ps.length ∧ n ≤ 40 ∧ n ≤ acts.length ∧ i = .int .i64 n ∧ St w w.heap.size w1.heap.size (w1.heap.size + 1) (w1.heap.size + 1 + 1) a (100 * n) wr) (fun i _ => ps.length - (intOf i).toNat)
  case atStart => exact ⟨0, Nat.zero_le _, by omega, Nat.zero_le _, rfl, S0.out⟩
  case round =>
    obtain ⟨n, hn1, hn2, hn3, rfl, hst⟩ := hrel
    have HS := Lib.hid hst
    clear hst S0
    go_upto_region 9 with fail
    refine p9 (fun _ _ _ _ _ h => h) ?_
    intro s25 s26 s27 s28 s29 s30 s31 s32 s33 s34 s35 s36 s37 b9 wx9 hb9 rfl
    have HB9 := Lib.hid hb9
    clear hb9
    cases b9
    case false =>
      go_wp2_with fail
      refine (AW.out _).mono ?_
      rintro e w6 ⟨rfl, n6⟩
      have N6 := Lib.hid n6
      clear n6
      go_wp2
      go_ret
      obtain ⟨V, A, s, t, d, hm, -⟩ := HS.out
      exact ⟨rfl, hm.has.base.trans N6.out⟩
    obtain ⟨hg1, hg2, hg3⟩ := HB9.out rfl
    clear HB9
    obtain ⟨g, o, rfl, hg, cs, hcl, hcc, sv, hsv, hbs⟩ := HE.out n hg1
    have hc0 : w.cell? ⟨g, o + n, none⟩ = some sv := by
      subst hsv
      simpa using hcc 0 (by simp)
    generalize ps[n] = p at *
    obtain ⟨ba, bc, hvb, -⟩ := hbs.len
    subst hvb
    have HBS := Lib.hid hbs
    have HC0 := Lib.hid hc0
    clear hcc hsv hcl hbs hc0
    obtain ⟨g2, o2, rfl, hg', hca⟩ := HE2.out n hg3
    have HCA := Lib.hid hca
    generalize acts[n] = act0 at *
    clear hca
    obtain ⟨V, A, s, t, d, hm, hi⟩ := HS.out
    have HIV := Lib.hid hi
    have HMM := Lib.hid hm
    clear hi hm HS
    go_upto_region 11 with fail
    refine p11 hg1 hc1 (HMM.out.has.base.cell HC0.out) (fun _ _ _ _ _ h => h) ?_
    intro s41 s42 s43 s44 s45 b11 wx11 hb11 rfl
    have HB11 := Lib.hid hb11
    clear hb11
    cases b11
    case true =>
      go_wp2_with fail
      go_roundw
      case rel => exact ⟨n + 1, by omega, by omega, by omega, by go_num, V, A, s, t, d, HMM.out, HIV.out.wide (by omega)⟩
      case measure => simp [intOf]; omega
    have hp := HB11.out rfl
    have hB : 100 * n + 100 ≤ 4000 := by omega
    go_upto_region 12 with fail
    refine p12 hg3 hd1 (HMM.out.has.base.cell HCA.out) (fun _ _ _ _ _ h => h) ?_
    intro s47 s48 s49 s50 s51 m wx12 hmlt rfl
    go_upto_region 13 with fail
    refine p13 hmlt (fun _ _ _ _ _ h => h) ?_
    intro s52 s53 s54 s55 s56 k o' wx13 hk3 ho3 rfl
    go_upto_region 14 with fail
    refine p14 hmlt (fun _ _ _ _ _ h => h) ?_
    intro s57 s58 s59 b14 wx14 rfl
    go_upto_if 60 with fail
    refine p60 HMM HIV hmlt (fun _ _ _ _ _ h => h) ?_
    intro s61 s62 s63 s64 s65 wx60 hs60
    have HS := Lib.hid hs60
    clear hs60 HIV HMM
    obtain ⟨V, A, s, t, d, hm, hi⟩ := HS.out
    have HIV := Lib.hid hi
    have HMM := Lib.hid hm
    clear hi hm HS
    go_upto_region 16 with fail
    refine p16 HMM HIV hg1 hc1 hp HBS HC0 hk3 (fun _ _ _ _ _ h => h) ?_
    intro s66 s67 s68 s69 s70 s71 s72 s73 s74 s75 d2 x2 wx2 hr2 hm2
    have HR2 := Lib.hid hr2
    have HM2 := Lib.hid hm2
    clear hr2 hm2
    go_upto_if 76 with fail
    refine p76 HM2 HIV hg1 hc1 hp HBS HC0 hk3 HI HZ0 HZ1 HZ2 HR2 rfl hB (fun _ _ _ _ _ h => h) ?_
    intro s77 s78 s79 s80 s81 s82 s83 s84 s85 s86 s87 s88 s89 wx3 hs3
    have HS := Lib.hid hs3
    clear hs3 HIV HMM HR2 HM2
    obtain ⟨V, A, s, t, d, hm, hi⟩ := HS.out
    have HIV := Lib.hid hi
    have HMM := Lib.hid hm
    clear hi hm HS
    go_upto_region 19 with fail
    refine p19 HMM HIV hk3 hmlt (fun _ _ _ _ _ h => h) ?_
    intro s90 s91 s92 s93 s94 s95 s96 s97 s98 s99 s100 s101 d4 x4 wx4 hm4 hr4
    have HR4 := Lib.hid hr4
    have HM4 := Lib.hid hm4
    clear hr4 hm4
    go_upto_if 102 with fail
    refine p102 HM4 HIV hk3 HR4 (fun _ _ _ _ _ h => h) ?_
    intro s103 s104 s105 s106 s107 s108 wx5 hs5
    have HS := Lib.hid hs5
    clear hs5 HIV HMM HR4 HM4
    obtain ⟨V, A, s, t, d, hm, hi⟩ := HS.out
    have HIV := Lib.hid hi
    have HMM := Lib.hid hm
    clear hi hm HS
    have HOK := Lib.hid HMM.out.has.ok
    go_upto_region 21 with fail
    refine p21 HMM HIV hk3 ho3 hmlt (fun _ _ _ _ _ h => h) ?_
    intro s109 s110 s111 s112 s113 s114 s115 s116 s117 s118 s119 s120 s121 s122 s123 s124 s125 s126 s127 s128 s129 d6 x6 wx6 hm6 hr6 hn6
    have HM6 := Lib.hid hm6
    have HR6 := Lib.hid hr6
    have HN6 := Lib.hid hn6
    clear hm6 hr6 hn6
    go_upto_if 130 with fail
    refine p130 HM6 HIV hk3 ho3 HOK HR6 HN6 (fun _ _ _ _ _ h => h) ?_
    intro s131 s132 s133 s134 s135 s136 s137 s138 s139 s140 s141 s142 s143 s144 s145 s146 s147 s148 wx7 hs7
    have HS := Lib.hid hs7
    clear hs7 HIV HMM HR6 HM6 HN6 HOK hk3 ho3 HBS HC0 hp
    obtain ⟨V, A, s, t, d, hm, hi⟩ := HS.out
    have HIV := Lib.hid hi
    have HMM := Lib.hid hm
    clear hi hm HS
    go_upto_region 24 with fail
    refine p24 HMM HIV hmlt (fun _ _ _ _ _ h => h) ?_
    intro s149 s150 s151 s152 s153 s154 s155 s156 b24 wx24 rfl
    cases b24
    case true =>
      go_wp2_with fail
      go_roundw
      case rel => exact ⟨n + 1, by omega, by omega, by omega, by go_num, V, A, s, t, d, HMM.out, HIV.out.wide (by omega)⟩
      case measure => simp [intOf]; omega
    go_upto_region 25 with fail
    refine p25 HMM HIV hmlt (fun _ _ _ _ _ h => h) ?_
    intro s158 s159 s160 s161 s162 s163 s164 s165 s166 s167 s168 s169 dc mm wx25 hm25 hmm25 hi25 hd25
    have M9 := Lib.hid hm25
    have HMM9 := Lib.hid hmm25
    have HI9 := Lib.hid hi25
    have HDN := Lib.hid hd25
    have HLN := Lib.hid HIV.out.len
    clear hm25 hmm25 hi25 hd25 HMM HIV
    go_wp2
    go_loopw [15] (fun jv wr => ∃ j : Nat, j ≤ 3 ∧ jv = .int .i64 j ∧ Inner w w.heap.size w1.heap.size (w1.heap.size + 1) (w1.heap.size + 1 + 1) a A s mm t dc j wr) (fun jv _ => 3 - (intOf jv).toNat)
    case atStart => exact ⟨0, by omega, rfl, V, A, s, M9.out, (fun i _ => by simp), (fun i _ => by simp)⟩
    case round =>
      obtain ⟨j, hj, rfl, hin⟩ := hrel
      obtain ⟨V1, A1, s1, hm1, ha1, hs1⟩ := hin
      have HM1 := Lib.hid hm1
      have HA1 := Lib.hid ha1
      have HS1 := Lib.hid hs1
      clear hm1 ha1 hs1
      by_cases hj3 : j < 3
      · obtain ⟨L, hL⟩ : ∃ L, L = (A j).take (mm j) := ⟨_, rfl⟩
        obtain ⟨hb1, hb2, hb3⟩ := HMM9.out j hj3
        have hLl : L.length = mm j := by rw [hL, List.length_take]; omega
        obtain ⟨x, hx⟩ : ∃ x : Int, x = if t j then 0 else 13 := ⟨_, rfl⟩
        have hrd := HI9.out.read HDN.out hj3
        rw [← hL, ← hx] at hrd
        have hfo := ((HI9.out.file j hj3).of)
        have HFO := Lib.hid hfo
        have HL := Lib.hid hL
        have HX := Lib.hid hx
        have HLL := Lib.hid hLl
        have HRD := Lib.hid hrd
        clear hL hx hLl hfo hb3 hrd
        go_upto_region 29 with fail
        refine p29 HM1 hj3 HRD (fun _ _ _ _ _ h => h) ?_
        intro s174 s175 s176 s177 s178 s179 s180 s181 s182 lb cb w10 n10 bl10 f10
        have BL := Lib.hid bl10
        have N10 := Lib.hid n10
        have F10 := Lib.hid f10
        have M10 := Lib.hid (HM1.out.nw n10)
        clear bl10 n10 f10
        have ea : A1 j = A j := by rw [HA1.out j hj3, if_neg (by omega)]
        have es : s1 j = s j := by rw [HS1.out j hj3, if_neg (by omega)]
        have q1 : s1 j ≤ L.length := by rw [es, HLL.out]; exact hb1
        have q2 : L.length ≤ (A1 j).length := by rw [ea, HLL.out]; exact hb2
        have q3 : Hid ((A1 j).take L.length = L) := Lib.hid (by rw [ea, HLL.out]; exact HL.out.symm)
        have q4 : (A1 j).length ≤ 4000 := by rw [ea]; have := HLN.out j hj3; omega
        have q5 : (fileOf dc.files (nm j)).synced = L.length := by rw [HFO.out, HLL.out]
        have Q5 := Lib.hid q5
        clear ea es q5 hb1 hb2
        go_upto_region 30 with fail
        refine p30 M10 hj3 BL HX.out q1 q2 q3 q4 Q5.out (fun _ _ _ _ _ h => h) ?_
        intro s183 s184 s185 s186 s187 s188 s189 s190 s191 s192 s193 s194 s195 s196 s197 s198 s199 s200 s201 s202 s203 s204 s205 s206 s207 s208 s209 s210 s211 s212 s213 s214 s215 s216 s217 s218 s219 s220 s221 s222 s223 s224 s225 s226 wx11 hn11
        have N11 := Lib.hid hn11
        clear hn11
        go_upto_region 32 with fail
        refine p32 HM1 hj3 (Lib.hid (N10.out.trans N11.out)) (Lib.hid (BL.out.nw N11.out)) F10 (fun _ _ _ _ _ h => h) ?_
        intro s228 s229 s230 s231 s232 s233 s234 wx12 hm12
        have M12 := Lib.hid hm12
        clear hm12 q1 q2 q3 q4
        go_wp2
        go_roundw
        case rel =>
          exact ⟨j + 1, by omega, by go_num, _, _, _, M12.out, (fun i hi => by
            by_cases e : i = j
            · subst e; rw [upd_same, if_pos (by omega)]; exact HL.out
            · rw [upd_other _ _ e, HA1.out i hi]
              by_cases h : i < j
              · rw [if_pos h, if_pos (by omega)]
              · rw [if_neg h, if_neg (by omega)]), (fun i hi => by
            by_cases e : i = j
            · subst e; rw [upd_same, if_pos (by omega)]; exact HLL.out
            · rw [upd_other _ _ e, HS1.out i hi]
              by_cases h : i < j
              · rw [if_pos h, if_pos (by omega)]
              · rw [if_neg h, if_neg (by omega)])⟩
        case measure => simp [intOf]; omega
      · obtain rfl : j = 3 := by omega
        have HI2 : Hid (Inv dc A1 s1 t (100 * (n + 1))) := Lib.hid ⟨fun i hi => by
          have := HI9.out.file i hi
          rw [HA1.out i hi, HS1.out i hi, if_pos hi, if_pos hi]; exact this, fun i hi => by
          have := HLN.out i hi
          rw [HA1.out i hi, if_pos hi, List.length_take]; omega⟩
        go_wp2
        go_roundw
        case rel =>
          first
            | exact ⟨n + 1, by omega, by omega, by omega, by go_num, V1, A1, s1, t, dc, HM1.out, HI2.out.wide (by omega)⟩
            | ((repeat apply Exists.intro); exact ⟨⟨n + 1, by omega, by omega, by omega, by go_num, V1, A1, s1, t, dc, HM1.out, HI2.out.wide (by omega)⟩, rfl⟩)
        case measure => simp [intOf]; omega
end Go.Proofs.YtihagdadbeoeoaaDoor.DiskKeeps
