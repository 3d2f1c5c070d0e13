/- What must be there before the laws on the office say anything. -/
import Derived.Test.YtkfbgillhhhdgaaGreatDoorSYORL
import Derived.Test.YtkfbgillhhhdgaaGreatDoorSYORD
import Derived.Test.YtkfbgillhhhdgaaGreatDoorSYOPT
import Derived.Test.YtkfbgillhhhdgaaGreatDoorSYOR0
set_option linter.unusedSimpArgs false
set_option linter.unusedVariables false
set_option maxRecDepth 100000
set_option maxHeartbeats 1000000
namespace Go.Fly.Tryz
open Go Off Go.Proofs.Tryz
theorem zaP:Holds prog G0 21 qA:=zhf zaQ
theorem zjx:Holds prog G0 37 zeh:=znj zjy
theorem zgx:Holds prog G0 60 zba:=zjf zgy
theorem new_call {Γ:FuncId→Option Contract}{r0:Option Nat}{k0:K}{H:Heap}{ck:Nat}{Kn:V→Heap→Nat→Prop}(hX:(⟨prog,Γ,G0,r0,k0⟩:Cx).Ok)
 (hf:∀ q:Loc,ck < q.1→H q=none)
 (hKn:∀ S y ne nc ck',ck≤ck'→HAt S y ne nc {}→HLayOk y ne nc ck'→(∀ q:Loc,ck' < q.1→S q=none)→(∀ q:Loc,q.1≤ck→S q=H q)→(∀ q:Loc,q.1≤ck→q∉y.locs∧q≠ne∧q≠nc)→Kn (.ptr y.box 0) S ck') :
 zp ⟨prog,Γ,G0,r0,k0⟩ H ck 82 [] Kn:=by
 have f1:=fun d=>hf (ck+1,d) (by show ck < ck+1;omega)
 have f2:=fun d=>hf (ck+1+1,d) (by show ck < ck+1+1;omega)
 have f3:=fun d=>hf (ck+1+1+1,d) (by show ck < ck+1+1+1;omega)
 refine zp.post (zp.inline hX func82 rfl zK (D:=D82) (by kernel_rfl) (tab []) (zk trivial) fun k1=>?_)
 simp only[f82]
 rw[zA (Nat.le_of_ble_eq_true rfl)]
 simp(maxSteps:=400000) only[go_sem,↓zj,↓reduceIte,f1,f2,f3]
 have hbx:∀ q:Loc,q.1≤ck→q≠(ck+1+1+1,2):=fun q hq r=>by rw[r] at hq;simp only at hq;omega
 obtain⟨S,y,h1,h2,h3,h4,h5,h6,h7⟩:=hist_new (c:=ck+1+1+1) (tm:=[.ptr (ck+1+1+1,2) 0]) (box:=(ck+1+1+1,2)) (H:=updH H (ck+1+1+1,2) (.cells [.nils,.nils,.int .i64 0,.nils,.nils,.nils,.nils,.nils,.nils,.int .i64 0])) (by show 2 < 900;omega) (zd _ _ _)
  (fun i hi=>by rw[zc (by simp;omega)];exact f3 i) (fun q hq=>by rw[zc (by rintro rfl;exact Nat.lt_irrefl _ hq)];exact hf q (by omega)) (Nat.le_refl _) (Nat.succ_pos _)
 have hK:=hKn S y _ _ (ck+1+1+1+1) (by omega) h3 (h4.mono (Nat.le_succ _)) (fun q hq=>h5 q (by omega)) (fun q hq=>(h6 q (by omega) (hbx q hq)).trans (zc (hbx q hq))) fun q hq=>⟨fun r=>(h7 q r).elim (hbx q hq) fun e=>by omega,fun e=>by rw[e] at hq;simp only at hq;omega,fun e=>by rw[e] at hq;simp only at hq;omega⟩
 rw[h2] at hK
 exact⟨_,S,_,fun k0=>h1 k0,hK⟩
theorem zmb:Holds prog G0 15 awkC:=by
 refine Holds.of_exC D15 func15 rfl zK (by kernel_rfl) (tab [(21,qA),(24,zbe),(25,zej),(26,btQC),(37,zeh),(40,zhM),(41,zfk),(42,zbk),(44,zgj),(46,ziK),(47,zii),(48,zof),(55,app0C),(60,zba),(62,zhB),(69,doQC),(71,jG),(73,logC),(76,zgb wE),(77,zjE),(78,zcE),(79,qX),(80,zhA),(81,zgb vr),(zm 84,zG),(zm 86,zG),(zm 89,zG),(zm 91,zG),(zm 93,zG),(zm 96,zG),(zm 98,zG),(zm 102,zG),(zm 104,zG),(zm 106,zG),(zm 107,zG),(zm 115,zG),(zm 117,zG),(zm 165,zG),(zm 172,zG),(zm 178,zG),(zm 200,zG),(zm 205,zG),(zm 207,zG),(zm 211,zG),(zm 213,zG),(zm 215,zG),(zm 222,zG),(zm 224,zG),(zm 226,zG),(zm 238,zG),(zm 240,zG),(zm 243,zG),(zm 245,zG),(zm 247,zG),(zm 250,zG),(zm 252,zG),(zm 256,zG),(zm 258,zG),(zm 275,zG),(zm 302,zG),(zm 304,zG),(zm 388,zG),(zm 422,zG),(zm 424,zG),(wi 94,zG),(wi 309,zG),(wi 312,zG)]) (zk ⟨zaP,znL,zjz,zgC,zjx,zlB,zi0,zdO,rSeal_ok,zlS,zlN,zfa,oApp0_ok,zgx,sInts_ok,oDoQ_ok,zjl,oLog_ok,zij,zc0,zbZ,lSame_ok,zkI,lMtch_ok,za,za,za,za,za,za,za,za,za,za,za,za,za,za,za,za,za,za,za,za,za,za,za,za,za,za,za,za,za,za,za,za,za,za,za,za,za,za,za,za,za,za,za,trivial⟩) zw fun k0 rl args hpu hpre=>?_
 unfold awkC at hpre ⊢
 have hpre:args=[]:=hpre
 subst hpre
 simp only[f15]
 rw[zb (Nat.le_of_ble_eq_true rfl)]
 simp(maxSteps:=4000000) only[go_sem,↓zj,↓zC,↓zJ,↓reduceIte,encEv,zfS,zef,List.append_nil,a01,a02,a03,a04,a05,a06,f_T31,f_M15]
 repeat (first
  | refine⟨⟨_,rfl,.inl rfl⟩,?_⟩
  | refine⟨⟨wE,_,rfl,kV,zad⟩,?_⟩
  | refine⟨⟨wE,rfl,kV,zad⟩,?_⟩
  | refine⟨⟨wE,_,_,⟨_,_,_,_,_⟩,rfl,rfl,fun i hi=>rfl,kV,zad,jW rfl⟩,?_⟩
  | refine⟨⟨⟨_,_,rfl,zew⟩,.inl zew.pu⟩,?_⟩
  | refine⟨⟨⟨_,_,_,_,rfl,zdo,zat⟩,.inl vZ.pu⟩,?_⟩)
 refine .inl fun hX2=>wh (hp2:=fun _=>none) zy.none (wk _) (zbr (m:=T14) (N:=9) hX2 rfl rfl (.inr ⟨1,_,rfl,by omega,fun i hi=>by obtain rfl:i=0:=(by omega);rfl⟩) fun L ck' h1 h2=>?_)
 have q0:∀ c d,L.1 < c→(((c,d):Loc)=L)=False:=fun c d h=>eq_false fun q=>by rw[← q] at h;exact Nat.lt_irrefl _ h
 have q0':∀ c d,L.1 < c→(L=((c,d):Loc))=False:=fun c d h=>eq_false fun q=>by rw[q] at h;exact Nat.lt_irrefl _ h
 have q1:=fun d=>q0 (ck'+1) d (by omega)
 have p1:=fun d=>q0' (ck'+1) d (by omega)
 have q2:=fun d=>q0 (ck'+1+1) d (by omega)
 have p2:=fun d=>q0' (ck'+1+1) d (by omega)
 have q3:=fun d=>q0 (ck'+1+1+1) d (by omega)
 have p3:=fun d=>q0' (ck'+1+1+1) d (by omega)
 have q4:=fun d=>q0 (ck'+1+1+1+1) d (by omega)
 have p4:=fun d=>q0' (ck'+1+1+1+1) d (by omega)
 have q5:=fun d=>q0 (ck'+1+1+1+1+1) d (by omega)
 have p5:=fun d=>q0' (ck'+1+1+1+1+1) d (by omega)
 have q6:=fun d=>q0 (ck'+1+1+1+1+1+1) d (by omega)
 have p6:=fun d=>q0' (ck'+1+1+1+1+1+1) d (by omega)
 have q7:=fun d=>q0 (ck'+1+1+1+1+1+1+1) d (by omega)
 have p7:=fun d=>q0' (ck'+1+1+1+1+1+1+1) d (by omega)
 have q8:=fun d=>q0 (ck'+1+1+1+1+1+1+1+1) d (by omega)
 have p8:=fun d=>q0' (ck'+1+1+1+1+1+1+1+1) d (by omega)
 have q9:=fun d=>q0 (ck'+1+1+1+1+1+1+1+1+1) d (by omega)
 have p9:=fun d=>q0' (ck'+1+1+1+1+1+1+1+1+1) d (by omega)
 have q10:=fun d=>q0 (ck'+1+1+1+1+1+1+1+1+1+1) d (by omega)
 have p10:=fun d=>q0' (ck'+1+1+1+1+1+1+1+1+1+1) d (by omega)
 have q11:=fun d=>q0 (ck'+1+1+1+1+1+1+1+1+1+1+1) d (by omega)
 have p11:=fun d=>q0' (ck'+1+1+1+1+1+1+1+1+1+1+1) d (by omega)
 have q12:=fun d=>q0 (ck'+1+1+1+1+1+1+1+1+1+1+1+1) d (by omega)
 have p12:=fun d=>q0' (ck'+1+1+1+1+1+1+1+1+1+1+1+1) d (by omega)
 have q13:=fun d=>q0 (ck'+1+1+1+1+1+1+1+1+1+1+1+1+1) d (by omega)
 have p13:=fun d=>q0' (ck'+1+1+1+1+1+1+1+1+1+1+1+1+1) d (by omega)
 have q14:=fun d=>q0 (ck'+1+1+1+1+1+1+1+1+1+1+1+1+1+1) d (by omega)
 have p14:=fun d=>q0' (ck'+1+1+1+1+1+1+1+1+1+1+1+1+1+1) d (by omega)
 have q15:=fun d=>q0 (ck'+1+1+1+1+1+1+1+1+1+1+1+1+1+1+1) d (by omega)
 have p15:=fun d=>q0' (ck'+1+1+1+1+1+1+1+1+1+1+1+1+1+1+1) d (by omega)
 have q16:=fun d=>q0 (ck'+1+1+1+1+1+1+1+1+1+1+1+1+1+1+1+1) d (by omega)
 have kk16:=fun d=>q0' (ck'+1+1+1+1+1+1+1+1+1+1+1+1+1+1+1+1) d (by omega)
 have q17:=fun d=>q0 (ck'+1+1+1+1+1+1+1+1+1+1+1+1+1+1+1+1+1) d (by omega)
 have p17:=fun d=>q0' (ck'+1+1+1+1+1+1+1+1+1+1+1+1+1+1+1+1+1) d (by omega)
 have q18:=fun d=>q0 (ck'+1+1+1+1+1+1+1+1+1+1+1+1+1+1+1+1+1+1) d (by omega)
 have p18:=fun d=>q0' (ck'+1+1+1+1+1+1+1+1+1+1+1+1+1+1+1+1+1+1) d (by omega)
 have q19:=fun d=>q0 (ck'+1+1+1+1+1+1+1+1+1+1+1+1+1+1+1+1+1+1+1) d (by omega)
 have p19:=fun d=>q0' (ck'+1+1+1+1+1+1+1+1+1+1+1+1+1+1+1+1+1+1+1) d (by omega)
 have q20:=fun d=>q0 (ck'+1+1+1+1+1+1+1+1+1+1+1+1+1+1+1+1+1+1+1+1) d (by omega)
 have p20:=fun d=>q0' (ck'+1+1+1+1+1+1+1+1+1+1+1+1+1+1+1+1+1+1+1+1) d (by omega)
 have q21:=fun d=>q0 (ck'+1+1+1+1+1+1+1+1+1+1+1+1+1+1+1+1+1+1+1+1+1) d (by omega)
 have p21:=fun d=>q0' (ck'+1+1+1+1+1+1+1+1+1+1+1+1+1+1+1+1+1+1+1+1+1) d (by omega)
 have q22:=fun d=>q0 (ck'+1+1+1+1+1+1+1+1+1+1+1+1+1+1+1+1+1+1+1+1+1+1) d (by omega)
 have p22:=fun d=>q0' (ck'+1+1+1+1+1+1+1+1+1+1+1+1+1+1+1+1+1+1+1+1+1+1) d (by omega)
 have q23:=fun d=>q0 (ck'+1+1+1+1+1+1+1+1+1+1+1+1+1+1+1+1+1+1+1+1+1+1+1) d (by omega)
 have p23:=fun d=>q0' (ck'+1+1+1+1+1+1+1+1+1+1+1+1+1+1+1+1+1+1+1+1+1+1+1) d (by omega)
 have q24:=fun d=>q0 (ck'+1+1+1+1+1+1+1+1+1+1+1+1+1+1+1+1+1+1+1+1+1+1+1+1) d (by omega)
 have p24:=fun d=>q0' (ck'+1+1+1+1+1+1+1+1+1+1+1+1+1+1+1+1+1+1+1+1+1+1+1+1) d (by omega)
 have q25:=fun d=>q0 (ck'+1+1+1+1+1+1+1+1+1+1+1+1+1+1+1+1+1+1+1+1+1+1+1+1+1) d (by omega)
 have p25:=fun d=>q0' (ck'+1+1+1+1+1+1+1+1+1+1+1+1+1+1+1+1+1+1+1+1+1+1+1+1+1) d (by omega)
 have q26:=fun d=>q0 (ck'+1+1+1+1+1+1+1+1+1+1+1+1+1+1+1+1+1+1+1+1+1+1+1+1+1+1) d (by omega)
 have p26:=fun d=>q0' (ck'+1+1+1+1+1+1+1+1+1+1+1+1+1+1+1+1+1+1+1+1+1+1+1+1+1+1) d (by omega)
 have q27:=fun d=>q0 (ck'+1+1+1+1+1+1+1+1+1+1+1+1+1+1+1+1+1+1+1+1+1+1+1+1+1+1+1) d (by omega)
 have p27:=fun d=>q0' (ck'+1+1+1+1+1+1+1+1+1+1+1+1+1+1+1+1+1+1+1+1+1+1+1+1+1+1+1) d (by omega)
 have q28:=fun d=>q0 (ck'+1+1+1+1+1+1+1+1+1+1+1+1+1+1+1+1+1+1+1+1+1+1+1+1+1+1+1+1) d (by omega)
 have p28:=fun d=>q0' (ck'+1+1+1+1+1+1+1+1+1+1+1+1+1+1+1+1+1+1+1+1+1+1+1+1+1+1+1+1) d (by omega)
 have q29:=fun d=>q0 (ck'+1+1+1+1+1+1+1+1+1+1+1+1+1+1+1+1+1+1+1+1+1+1+1+1+1+1+1+1+1) d (by omega)
 have p29:=fun d=>q0' (ck'+1+1+1+1+1+1+1+1+1+1+1+1+1+1+1+1+1+1+1+1+1+1+1+1+1+1+1+1+1) d (by omega)
 have q30:=fun d=>q0 (ck'+1+1+1+1+1+1+1+1+1+1+1+1+1+1+1+1+1+1+1+1+1+1+1+1+1+1+1+1+1+1) d (by omega)
 have p30:=fun d=>q0' (ck'+1+1+1+1+1+1+1+1+1+1+1+1+1+1+1+1+1+1+1+1+1+1+1+1+1+1+1+1+1+1) d (by omega)
 have q31:=fun d=>q0 (ck'+1+1+1+1+1+1+1+1+1+1+1+1+1+1+1+1+1+1+1+1+1+1+1+1+1+1+1+1+1+1+1) d (by omega)
 have p31:=fun d=>q0' (ck'+1+1+1+1+1+1+1+1+1+1+1+1+1+1+1+1+1+1+1+1+1+1+1+1+1+1+1+1+1+1+1) d (by omega)
 have q32:=fun d=>q0 (ck'+1+1+1+1+1+1+1+1+1+1+1+1+1+1+1+1+1+1+1+1+1+1+1+1+1+1+1+1+1+1+1+1) d (by omega)
 have p32:=fun d=>q0' (ck'+1+1+1+1+1+1+1+1+1+1+1+1+1+1+1+1+1+1+1+1+1+1+1+1+1+1+1+1+1+1+1+1) d (by omega)
 have hd9:zi zI (.sl 9 5 fun i=>[.int .i64 (el T14 i).num,.str (el T14 i).kind,zg (el T14 i).names,zh (el T14 i).vals,.str (el T14 i).text])=T14:=wF T14
 have hd16:zi zI (.sl 10 5 fun i=>if i < 9 then [.int .i64 (el T14 i).num,.str (el T14 i).kind,zg (el T14 i).names,zh (el T14 i).vals,.str (el T14 i).text] else wa [.int .i64 10,.str [112,97,121],zg [[111]],zh [4],.str []] 5 (i - 9))=T16:=d16
 have hd16':zi zI (.sl 10 5 fun i=>if i < 9 then [.int .i64 (el T14 i).num,.str (el T14 i).kind,zg (el T14 i).names,zh (el T14 i).vals,.str (el T14 i).text] else wa [.int .i64 10,.str [112,97,121],zg [[111]],zh [4],.str []] 5 (0+(i - 9)))=T16:=(congrArg (fun g=>zi zI (.sl 10 5 g)) (funext fun i=>by rw[Nat.zero_add];rfl)).trans d16
 simp(maxSteps:=400000) only[go_sem,↓zj,↓zC,↓zJ,↓reduceIte,encEv,zfS,zef,List.append_nil,List.append_eq,List.cons_append,List.nil_append,Nat.zero_add,hd9,hd16,hd16',g08,a14,a17,a18,g10,g10',g10r,a10f,g10l,g11,g15,g16,g20,g21,g22,g23,a24,a25,a26,g27,g28,g29,jz,e_nil,dec_it1,dec_it2,dec_it3,dself,f_evT,d_str,d_key,enc_s,d_keys,zt,wq,f_T31,f_M15,q1,p1,q2,p2,q3,p3,q4,p4,q5,p5,q6,p6,q7,p7,q8,p8,q9,p9,q10,p10,q11,p11,q12,p12,q13,p13,q14,p14,q15,p15,q16,kk16,q17,p17,q18,p18,q19,p19,q20,p20,q21,p21,q22,p22,q23,p23,q24,p24,q25,p25,q26,p26,q27,p27,q28,p28,q29,p29,q30,p30,q31,p31,q32,p32]
 repeat (first
  | refine⟨⟨_,rfl,.inl rfl⟩,?_⟩
  | refine⟨⟨wE,_,_,⟨_,_,_,_,_⟩,rfl,rfl,fun i hi=>rfl,kV,zad,jW rfl⟩,?_⟩
  | refine⟨⟨T14,_,_,⟨_,_,_,_,_⟩,rfl,rfl,fun i hi=>rfl,n_T14,b_T14,jW rfl⟩,?_⟩
  | refine⟨⟨T31,_,rfl,n_T31,b_T31⟩,?_⟩
  | refine⟨⟨T31,_,_,⟨_,_,_,_,_⟩,rfl,rfl,fun i hi=>rfl,n_T31,b_T31,jW rfl⟩,?_⟩
  | refine⟨⟨M15,_,rfl,n_M15,b_M15⟩,?_⟩
  | refine⟨⟨M15,_,_,rfl,n_M15,b_M15⟩,?_⟩
  | refine⟨⟨vr,_,rfl,zic,ziT⟩,?_⟩
  | refine⟨in0,?_⟩
  | refine⟨⟨⟨_,rfl,evsA_1⟩,.inl pu_ev1⟩,?_⟩
  | refine⟨⟨⟨wE,_,_,_,_,rfl,kV,zad,its_2⟩,.inl its_2.pu⟩,?_⟩
  | refine⟨⟨wE,_,_,_,_,rfl,kV,zad,zgT (l:=[_,_,_]) (Nat.le_of_ble_eq_true rfl)⟩,?_⟩
  | refine⟨⟨wE,_,zjM,rfl,kV,zad,key_k⟩,?_⟩
  | refine⟨⟨wE,_,zjM,[52,227,3,235,155,19,83,91],rfl,kV,zad,key_k,key_s⟩,?_⟩
  | refine⟨⟨evT,rfl,a31,rfl,jW rfl⟩,?_⟩
  | refine⟨⟨o16,p16⟩,?_⟩
  | refine⟨⟨⟨T16,_,_,rfl,rfl,r16,zjD,zkd⟩,.inl pu16⟩,?_⟩
  | refine⟨⟨T16,_,_,⟨_,_,_,_,_⟩,rfl,rfl,r16,zjD,zkd,jW rfl⟩,?_⟩
  | refine⟨⟨_,_,_,_,rfl,zmm (l:=[71,44]) (Nat.le_of_ble_eq_true rfl),vZ⟩,?_⟩
  | refine⟨⟨_,_,_,_,rfl,zgT (l:=[_]) (Nat.le_of_ble_eq_true rfl),its_1⟩,?_⟩
  | refine⟨⟨_,_,_,_,rfl,zgT (l:=[_,_,_]) (Nat.le_of_ble_eq_true rfl),its_3⟩,?_⟩
  | refine⟨⟨_,_,_,_,rfl,zbv (l:=[_]) (Nat.le_of_ble_eq_true rfl),zbv (l:=[_]) (Nat.le_of_ble_eq_true rfl)⟩,?_⟩
  | refine⟨⟨⟨_,_,rfl,zas⟩,.inl zas.pu⟩,?_⟩
  | refine⟨⟨⟨_,_,rfl,zew⟩,.inl zew.pu⟩,?_⟩
  | refine⟨⟨⟨_,_,_,_,rfl,zdp,zau⟩,.inl jP.pu⟩,?_⟩
  | refine⟨⟨⟨_,_,_,_,rfl,zdp,zat⟩,.inl vZ.pu⟩,?_⟩
  | refine⟨⟨⟨_,_,_,_,rfl,zdo,zau⟩,.inl jP.pu⟩,?_⟩
  | refine⟨⟨⟨_,_,_,_,rfl,zdo,zat⟩,.inl vZ.pu⟩,?_⟩)
 refine .inl fun hX3=>wh (hp2:=updH (fun _=>none) (ck'+1+1+1+1+1+1+1+1+1+1+1+1+1+1+1+1+1+1+1,44) (.cells keyV)) (zy.upd zy.none ⟨_,by simp[updH];rfl,ObjLe.refl _⟩) (wk _) (new_call hX3 (fun q hq=>zc (by rintro rfl;simp only at hq;omega)) fun S y ne nc ck2 hk hat hly hfr hkeep hout=>?_)
 have hT:S (ck'+1+1+1+1+1+1+1+1+1+1+1+1+1+1+1+1+1+1+1,44)=some (.cells keyV):=(hkeep _ (by show ck'+1+1+1+1+1+1+1+1+1+1+1+1+1+1+1+1+1+1+1≤_;omega)).trans (zd _ _ _)
 have hTo:=hout (ck'+1+1+1+1+1+1+1+1+1+1+1+1+1+1+1+1+1+1+1,44) (by show ck'+1+1+1+1+1+1+1+1+1+1+1+1+1+1+1+1+1+1+1≤_;omega)
 have hk44:ck'+1+1+1+1+1+1+1+1+1+1+1+1+1+1+1+1+1+1+1 < ck2:=by omega
 clear hkeep hout
 simp(maxSteps:=400000) only[go_sem,↓zj,↓zC,↓zJ,↓reduceIte]
 refine .inl fun hX4=>wh (zy.refl _) (wk _) (do_call (h:={}) (s:=lineT) (e:=evT) hX4 hat (hly.mono (by omega)) (fun q hq=>hfr q (by omega)) HOk.init (by decide) (by decide) (by decide) t_split t_quOf t_kind t_evOf t_tk (jW rfl) a31 acc_T fun H3 y3 nc3 ck3 r1 r2 r3 r4 r5 r6=>?_)
 have hT3:H3 (ck'+1+1+1+1+1+1+1+1+1+1+1+1+1+1+1+1+1+1+1,44)=some (.cells keyV):=(r6 _ (by show ck'+1+1+1+1+1+1+1+1+1+1+1+1+1+1+1+1+1+1+1≤_;omega) hTo.1 hTo.2.1 hTo.2.2).trans hT
 have r3:HAt H3 y3 ne nc3 zh1:=r3
 have hk3:ck'+1+1+1+1+1+1+1+1+1+1+1+1+1+1+1+1+1+1+1 < ck3:=by omega
 rw[t_num,← r1]
 clear hT hTo hat hly hfr r6
 have hfz:frz 5 H3 (.ptr y3.box 0)=.cptr (zz zh1):=za3 2 r3
 have f3:=fun d=>r5 (ck3+1+1+1,d) (by show ck3 < ck3+1+1+1;omega)
 have hfz8:∀ o1 o2 o3 o4 o5 o6 o7 o8,frz 5 (updH (updH (updH (updH (updH (updH (updH (updH H3 (ck3+1+1+1,388) o1) (ck3+1+1+1,388) o2) (ck3+1+1+1,415) o3) (ck3+1+1+1,415) o4) (ck3+1+1+1,422) o5) (ck3+1+1+1,422) o6) (ck3+1+1+1,424) o7) (ck3+1+1+1,424) o8) (.ptr y3.box 0)=.cptr (zz zh1):=fun o1 o2 o3 o4 o5 o6 o7 o8=>za3 2 (r3.upd fun q hq=>by
  have hq:q.1≤ck3:=hq.elim (fun r=>r4.lay.hi _ r) fun r=>r.elim (fun r=>r ▸ r4.ne_lo) fun r=>r ▸ r4.nc_lo
  repeat rw[zc (by rintro rfl;simp only at hq;omega)])
 simp(maxSteps:=400000) only[go_sem,↓zj,↓zC,↓zJ,↓reduceIte,hfz,hfz8,f3,hT3,keyV,jb,do_elig,do_num,encEv,zef,f_evT,d_str,d_key,g29,enc_s,dself,h_evs,logA,w010,List.append_eq,List.cons_append,List.nil_append]
 repeat (first
  | refine⟨in0,?_⟩
  | refine⟨⟨do_pre1,noSlSI⟩,?_⟩
  | refine⟨⟨do_pre2,noSlSI⟩,?_⟩
  | refine⟨⟨zm2,.str _⟩,?_⟩
  | refine⟨zas.pu,?_⟩
  | refine⟨b_pul,?_⟩
  | refine⟨⟨zhx,.inl b_pu⟩,?_⟩
  | refine⟨rec_pre,?_⟩
  | refine⟨⟨_,_,_,_,rfl,zbv (l:=[_]) (Nat.le_of_ble_eq_true rfl),zbv (l:=[_]) (Nat.le_of_ble_eq_true rfl)⟩,?_⟩
  | refine⟨⟨⟨_,_,rfl,zas⟩,.inl zas.pu⟩,?_⟩
  | refine⟨⟨⟨_,_,_,_,rfl,zdp,zat⟩,.inl vZ.pu⟩,?_⟩)
 exact zo.refl _
end Go.Fly.Tryz
